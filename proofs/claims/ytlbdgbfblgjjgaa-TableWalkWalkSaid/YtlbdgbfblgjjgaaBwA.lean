/-
  THE TRANSFORM IN PLACE: walks on the abstract machine. Conditions: none.
-/
import Derived.Test.YtlbdgbfblgjjgaaArA
import Derived.Test.YtlbdgbfblgjjgaaBwPlain
set_option linter.all false
namespace Go.Proofs.Ytlbdgbfblgjjgaa
namespace ArA
open Go Go.RowKit AM ArEnv

/-- A transform in progress. -/
def turnB (r : Nat) (s n : Int) : Blk := .cells 0 false [arP r, .int .i64 s, .int .i64 n]
theorem sure_part {l : List Nat} {lv pk s n i : Int} (h0 : 0 ≤ s) (h1 : s + n ≤ lv) (h2 : 0 ≤ i) (h3 : i < n) : (⟨l, lv, pk⟩ : Arn).part s n i 1 = true := by
  rw [Arn.part_iff]; show (_ ∧ _ ∧ _ ≤ lv ∧ _ ≤ lv - s) ∧ _; omega
theorem sure_byte {l : List Nat} {lv pk s n i : Int} {c : Nat} (h0 : 0 ≤ s) (h1 : s + n ≤ lv) (h2 : 0 ≤ i) (h3 : i < n) (hc : l[(s + i).toNat]? = some c) : (⟨l, lv, pk⟩ : Arn).byteV s n i = c := by
  rw [Arn.byteV, if_pos (sure_part h0 h1 h2 h3), Arn.slot, List.getD_eq_getElem?_getD]
  simp only [hc]; rfl
theorem sure_set {l : List Nat} {lv pk s n i : Int} {c : Nat} (h0 : 0 ≤ s) (h1 : s + n ≤ lv) (h2 : 0 ≤ i) (h3 : i < n) (h4 : lv ≤ l.length) : (⟨l, lv, pk⟩ : Arn).setByte s n i c = ⟨l.set (s + i).toNat c, lv, pk⟩ := by
  rw [Arn.setByte, if_pos (sure_part h0 h1 h2 h3), Arn.setAt, putN_one (by show _ < l.length; omega)]
section
variable {hp : List Blk} {r q L t : Nat} {H d : List Nat} {A : Arn} {s n : Int}
end
end ArA
end Go.Proofs.Ytlbdgbfblgjjgaa
