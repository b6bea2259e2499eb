/-
  LENGTH TABLES: the law of any bits. Conditions: none.
-/
import Derived.Test.YtlphmnhkkhcjfaaLtX
import Derived.Test.YtlphmnhkkhcjfaaLtT
set_option linter.all false
section
namespace Go.Proofs.Ytlphmnhkkhcjfaa
namespace LtA
open Go Go.RowKit AM ArEnv Bt
variable {hp : List Blk} {L : Nat} {H d : List Nat}

theorem Come.gs {c : Ts} {i : Nat} (h : Come c i) (hi : i ≤ 100000) : Gs c := by
  have hl := h.len
  have hb := h.by_
  rcases h with h | ⟨f, h⟩
  · have := pow2_le h.i3
    have := h.sym; have := h.bits; have := h.now0; have := h.now1; have := h.way; have := h.i3
    exact ⟨hl, hb, by omega, by omega, by omega, by omega, by omega, by omega, by omega, by omega⟩
  · have := h.sym0; have := h.sym1; have := h.bits0; have := h.bits1; have := h.now0; have := h.now1; have := h.way0; have := h.way1
    exact ⟨hl, hb, by omega, by omega, by omega, by omega, by omega, by omega, by omega, by omega⟩
/-- What the loop leaves. -/
def AnyEnd (fr : Fr) (ex : Ex) (x : List Nat) (n e : Int) (v : Value) (len b3 : Nat) : Prop :=
  (ex = .ret ∧ fr.get 2 = some (.bool true)) ∨ (ex = .exit 0 ∧ fr.get 0 = some v ∧ fr.get 5 = some (.int .i64 e) ∧ fr.get 4 = some (.int .i64 n) ∧ fr.get 3 = some (.pointer (some ⟨b3, 0, some 0⟩)) ∧ (len > 600 ∨ e = 50))
theorem readF_len : ∀ (l : List Int) (c : Ts) (i : Nat), c.l.length = 258 → (readF c l i).1.length = 258
  | [], c, i, h => zs_length
  | b :: l, c, i, h => by
    rw [readF]
    split
    · split
      · split
        · exact nextF_len h _
        · exact readF_len l _ _ (nextF_len h _)
      · exact zs_length
    · exact zs_length
end LtA
end Go.Proofs.Ytlphmnhkkhcjfaa
end
