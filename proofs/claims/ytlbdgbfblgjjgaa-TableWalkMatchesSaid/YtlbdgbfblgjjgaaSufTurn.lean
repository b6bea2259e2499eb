/-
  SORTED SUFFIXES: walk of the reference's Turn. Conditions: none.
-/
import Derived.Test.YtlbdgbfblgjjgaaSufWalk2
set_option linter.all false
namespace Go.Proofs.Ytlbdgbfblgjjgaa
namespace AM
open Go Go.RowKit
/-- Bytes: none, or one block that is theirs. -/
def bv (b : Nat) (l : List Nat) : Value := if l = [] then .slice none 0 0 else .slice (some ⟨b, 0, some l.length⟩) l.length 1
def bb (l : List Nat) : List Blk := if l = [] then [] else [.cells l.length true (u8s l)]
theorem bv_nil (b : Nat) : bv b [] = .slice none 0 0 := rfl
theorem bv_ne {b : Nat} {l : List Nat} (h : l ≠ []) : bv b l = .slice (some ⟨b, 0, some l.length⟩) l.length 1 := if_neg h
theorem bb_nil : bb [] = [] := rfl
theorem bb_ne {l : List Nat} (h : l ≠ []) : bb l = [.cells l.length true (u8s l)] := if_neg h
theorem bv_rd {hp : List Blk} {L : Nat} {H d : List Nat} {l : List Nat} (hh : H.contains hp.length = false) (hb : By l) : Rd ⟨hp ++ bb l, L, H, d⟩ (bv hp.length l) l := by
  by_cases h : l = []
  · subst h; exact ⟨By.nil, .inl ⟨rfl, rfl⟩⟩
  · rw [bv_ne h, bb_ne h]; exact Rd.whole (by rw [get_new0]) hh hb (.inr rfl)
theorem colO_succ {t o : List Nat} {r : Nat} (hr : r < o.length) : colO t (o.take (r + 1)) = colO t (o.take r) ++ if o[r] = 0 then [] else [t.getD (o[r] - 1) 0] := by
  rw [List.take_add_one, List.getElem?_eq_getElem hr]
  unfold colO
  rw [List.filter_append, List.map_append]
  congr 1
  by_cases h : o[r] = 0
  · simp [h]
  · simp [h]
theorem colO_by {t o : List Nat} (h : By t) : By (colO t o) := by
  intro x hx
  unfold colO at hx
  obtain ⟨j, -, rfl⟩ := List.mem_map.1 hx
  rw [List.getD_eq_getElem?_getD]
  cases hj : t[j - 1]? with
  | none => simp
  | some y => exact h y (List.mem_of_getElem? hj)
end AM
namespace ArA
open Go Go.RowKit AM ArEnv
section
variable {L : Nat} {H d : List Nat}
end
end ArA
end Go.Proofs.Ytlbdgbfblgjjgaa
