/-
  THE TRANSFORM IN PLACE: walks of Push on the abstract machine. Conditions: none.
-/
import Derived.Test.YtlbdgbfblgjjgaaBwA
set_option linter.all false
namespace Go.Proofs.Ytlbdgbfblgjjgaa
namespace ArA
open Go Go.RowKit AM ArEnv

theorem copy_fresh {hp : List Blk} {L off n e : Nat} {H d : List Nat} {l m : List Nat} (hF : Fit hp.length L H) (h : off + l.length ≤ m.length) (hn : l.length ≤ n) :
    copyX ⟨hp ++ [.cells 0 true (u8s m)], L, H, d⟩ 1 (some (.slice (some ⟨hp.length, off, some 0⟩) n e)) (some (l.length, u8s l)) = some (.int .i64 l.length, ⟨hp ++ [.cells 0 true (u8s (putN m off l))], L, H, d⟩) := by
  have hmin : min l.length n = l.length := by omega
  have hL : (hp.length < L) = False := eq_false (by have := hF.1; omega)
  rw [copyX_some, hmin]
  by_cases h0 : l = []
  · subst h0; rw [List.length_nil, if_pos rfl, putN_nil]; rfl
  · have h0' : ¬ l.length = 0 := fun e => h0 (List.eq_nil_of_length_eq_zero e)
    rw [if_neg h0', Nat.mul_one, take_u8s, write_eq]
    simp only [hL, if_false, blk_eq, hF.not0, Bool.false_eq_true, get_new0, cellX_some, if_true]
    rw [writeX_some, if_pos (by simp [u8s_cellv, u8s_sc, u8s_length]; omega), set_new0, AM.putAt_u8s h]
    simp only [copiedX_some, List.set_cons_zero]
    congr 3
    simp [addDirty, u8s_sc]
theorem push_eq {l : List Nat} {ix c : Nat} (h : ix ≤ l.length) : putN ((putN (List.replicate (l.length + 1) 0) 0 (l.take ix)).set ix c) (ix + 1) (l.drop ix) = pushC l ix c := by
  have e1 : (l.take ix).length = ix := by simp; omega
  have e2 : putN (List.replicate (l.length + 1) 0) 0 (l.take ix) = l.take ix ++ (0 :: List.replicate (l.length - ix) 0) := by
    simp only [putN, List.take_zero, List.nil_append, Nat.zero_add, e1, List.drop_replicate]
    rw [show l.length + 1 - ix = (l.length - ix) + 1 by omega, List.replicate_succ]
  rw [e2, List.set_append_right _ _ (by omega), e1, Nat.sub_self, List.set_cons_zero]
  have e3 : (l.take ix ++ c :: List.replicate (l.length - ix) 0).take (ix + 1) = l.take ix ++ [c] := by
    rw [List.take_append, List.take_of_length_le (by omega), e1, Nat.add_sub_cancel_left]; rfl
  have e4 : (l.take ix ++ c :: List.replicate (l.length - ix) 0).drop (ix + 1 + (l.drop ix).length) = [] := List.drop_eq_nil_of_le (by simp; omega)
  unfold putN
  rw [e3, e4]
  simp [pushC]
theorem u8s_set (l : List Nat) (i x : Nat) : (u8s l).set i (.int .u8 (x : Int)) = u8s (l.set i x) := by simp [u8s, List.map_set]
section
variable {hp : List Blk} {L : Nat} {H d : List Nat}
end
end ArA
end Go.Proofs.Ytlbdgbfblgjjgaa
