/-
  RANKS: a text laid into an arena. Conditions: none.
-/
import Derived.Test.YtlphmnhkkhcjfaaRkC
set_option linter.all false
namespace Go.Proofs.Ytlphmnhkkhcjfaa
namespace ArA
open Go Go.RowKit AM ArEnv

/-- The text, the room for the marks, and one byte more. -/
def rl (l : List Nat) (sz : Nat) : Arn := Arn.laid (l.length + sz + 1) (l ++ List.replicate (sz + 1) 0)
theorem rl_store {l : List Nat} {sz : Nat} : (Arn.laid (l.length + sz + 1) (List.replicate (l.length + sz + 1) 0)).part 0 l.length 0 l.length = true ∧ (Arn.laid (l.length + sz + 1) (List.replicate (l.length + sz + 1) 0)).store 0 l.length 0 l = rl l sz := by
  have hp : (Arn.laid (l.length + sz + 1) (List.replicate (l.length + sz + 1) 0)).part 0 l.length 0 l.length = true := by
    rw [Arn.part_iff]; simp [Arn.laid]; omega
  refine ⟨hp, ?_⟩
  unfold Arn.store
  rw [if_pos hp]
  unfold Arn.setAt rl Arn.laid
  simp only [Int.zero_add, Int.toNat_zero, List.length_replicate, List.length_append, Nat.sub_self, List.replicate_zero, List.append_nil, Arn.mk.injEq]
  refine ⟨?_, by omega, by omega⟩
  unfold putN
  simp only [List.take_zero, List.nil_append, Nat.zero_add, List.drop_replicate]
  rw [show l.length + sz + 1 - l.length = sz + 1 by omega, show l.length + sz + 1 - (l.length + (sz + 1)) = 0 by omega, List.replicate_zero, List.append_nil]
end ArA
end Go.Proofs.Ytlphmnhkkhcjfaa
