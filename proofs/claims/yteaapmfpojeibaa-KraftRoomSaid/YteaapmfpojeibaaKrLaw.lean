/-
  KRAFT SUMS: the laws from any arguments. Conditions: none.
-/
import Derived.Test.YteaapmfpojeibaaKrL
set_option linter.all false
namespace Go.Proofs.Yteaapmfpojeibaa
namespace KrA
open Go Go.RowKit AM KrEnv
theorem longer_law (l : List Nat) (hl : l.length = 258) (h8 : ∀ x ∈ l, x < 256) (s : Int) (_ : -9223372036854775808 ≤ s) (_ : s ≤ 9223372036854775807) {hp : List Blk} : ∃ σ', Lrun env (.func 9) [.agg (u8s l).toArray, .int .i64 s] ⟨hp, hp.length, [], []⟩ = some (.bool true, σ') :=
  longer_run hl h8 ⟨Nat.le_refl _, Low.nil _⟩
theorem room_law (l : List Nat) (hl : l.length = 258) (h8 : ∀ x ∈ l, x < 256) (s : Int) (_ : -9223372036854775808 ≤ s) (_ : s ≤ 9223372036854775807) {hp : List Blk} : ∃ σ', Lrun env (.func 11) [.agg (u8s l).toArray, .int .i64 s] ⟨hp, hp.length, [], []⟩ = some (.bool true, σ') :=
  room_run hl h8 ⟨Nat.le_refl _, Low.nil _⟩
theorem pairs_law (l : List Nat) (hl : l.length = 258) (h8 : ∀ x ∈ l, x < 256) {hp : List Blk} : ∃ σ', Lrun env (.func 10) [.agg (u8s l).toArray] ⟨hp, hp.length, [], []⟩ = some (.bool true, σ') :=
  pairs_run hl h8 ⟨Nat.le_refl _, Low.nil _⟩
end KrA
end Go.Proofs.Yteaapmfpojeibaa
