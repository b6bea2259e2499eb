/-
  THE BIT WRITER's laws: the bits of bytes, written one by one. Conditions: none.
-/
import Derived.Test.YtlphmnhkkhcjfaaBtLaw
set_option linter.all false
section
namespace Go.Proofs.Ytlphmnhkkhcjfaa
namespace Bt
open Go Go.RowKit AM ArEnv
variable {q : List Blk} {L : Nat} {H : List Nat} {a k s : Nat} {l : List Nat}

theorem nb_mono {l m : List Nat} (h : l.length ≤ m.length) : nb l ≤ nb m := by unfold nb; omega
theorem dirt_trans {l l' m : List Nat} (h1 : l.length ≤ l'.length) (h2 : l'.length ≤ m.length) (a : Nat) : joinDirty (dirt a l l') (dirt a l' m) = dirt a l m := by
  have n1 := nb_mono h1
  have n2 := nb_mono h2
  unfold dirt
  by_cases e1 : nb l = nb l'
  · rw [if_pos e1, e1]
    split <;> simp [joinDirty]
  · rw [if_neg e1, if_neg (by omega : ¬ nb l = nb m)]
    split <;> simp [joinDirty]
theorem bitsIn_byte {bs : List Nat} (hb : By bs) {i : Nat} (hi : i < bs.length) : num (bitsIn bs (8 * i) 8) = bs[i] := by
  have hx := hb.get hi
  have hg : ∀ j, j < 8 → bitAt bs (8 * i + j) = bs[i] / 2 ^ (7 - j) % 2 := fun j hj => by
    unfold bitAt
    rw [show (8 * i + j) / 8 = i by omega, show (8 * i + j) % 8 = j by omega, List.getD_eq_getElem?_getD, List.getElem?_eq_getElem hi]
    rfl
  have h0 := hg 0 (by omega)
  rw [Nat.add_zero] at h0
  simp only [bitsIn, Nat.add_assoc, Nat.reduceAdd, h0, hg 1 (by omega), hg 2 (by omega), hg 3 (by omega), hg 4 (by omega), hg 5 (by omega), hg 6 (by omega), hg 7 (by omega)]
  simp only [num, List.foldl_cons, List.foldl_nil, Nat.reduceSub, Nat.reducePow]
  omega
end Bt
end Go.Proofs.Ytlphmnhkkhcjfaa
end
