/-
  THE BIT WRITER's laws: the bits of bytes, written one by one. Conditions: none.
-/
import Derived.Test.YtlphmnhkkhcjfaaBtLaw
set_option linter.all false
section
namespace Go.Proofs.Ytlphmnhkkhcjfaa
namespace Bt
open Go Go.RowKit AM ArEnv
variable {q : List Blk} {L : Nat} {H : List Nat} {a k s : Nat} {l : List Nat}

theorem nb_mono {l m : List Nat} (h : l.length ≤ m.length) : nb l ≤ nb m := by unfold nb; omega
theorem dirt_trans {l l' m : List Nat} (h1 : l.length ≤ l'.length) (h2 : l'.length ≤ m.length) (a : Nat) : joinDirty (dirt a l l') (dirt a l' m) = dirt a l m := by
  have n1 := nb_mono h1
  have n2 := nb_mono h2
  unfold dirt
  by_cases e1 : nb l = nb l'
  · rw [if_pos e1, e1]
    split <;> simp [joinDirty]
  · rw [if_neg e1, if_neg (by omega : ¬ nb l = nb m)]
    split <;> simp [joinDirty]
end Bt
end Go.Proofs.Ytlphmnhkkhcjfaa
end
