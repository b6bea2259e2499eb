/-
  WALKS WITH RANKS: New that fails, the law's arena. Conditions: none.
-/
import Derived.Test.YtlbdgbfblgjjgaaRwD
set_option linter.all false
namespace Go.Proofs.Ytlbdgbfblgjjgaa
namespace ArA
open Go Go.RowKit AM ArEnv
section
variable {hp : List Blk} {L : Nat} {H d : List Nat} {r q w : Nat} {A : Arn}
end
theorem rlm_store {l : List Nat} {n : Nat} : (Arn.laid (l.length + n + 1) (List.replicate (l.length + n + 1) 0)).part 0 l.length 0 l.length = true ∧ (Arn.laid (l.length + n + 1) (List.replicate (l.length + n + 1) 0)).store 0 l.length 0 l = rl l n := by
  have hp : (Arn.laid (l.length + n + 1) (List.replicate (l.length + n + 1) 0)).part 0 l.length 0 l.length = true := by
    rw [Arn.part_iff]; simp [Arn.laid]; omega
  refine ⟨hp, ?_⟩
  unfold Arn.store
  rw [if_pos hp]
  unfold Arn.setAt rl Arn.laid
  simp only [Int.zero_add, Int.toNat_zero, List.length_replicate, List.length_append, Nat.sub_self, List.replicate_zero, List.append_nil, Arn.mk.injEq]
  refine ⟨?_, by omega, by omega⟩
  unfold putN
  simp only [List.take_zero, List.nil_append, Nat.zero_add, List.drop_replicate]
  rw [show l.length + n + 1 - l.length = n + 1 by omega, show l.length + n + 1 - (l.length + (n + 1)) = 0 by omega, List.replicate_zero, List.append_nil]
end ArA
end Go.Proofs.Ytlbdgbfblgjjgaa
