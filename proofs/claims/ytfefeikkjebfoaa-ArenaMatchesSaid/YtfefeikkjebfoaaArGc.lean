/-
  ARENAS AT A RETURN: what is kept of a fresh arena. Conditions: none.
-/
import Derived.Test.YtfefeikkjebfoaaArLaw
set_option linter.all false
namespace Go.Proofs.Ytfefeikkjebfoaa
namespace AM
open Go Go.RowKit
/-- A fresh arena, kept, wherever its blocks lie among the new ones. -/
theorem gc_put_new {h nw : List Blk} {L r q : Nat} {H : List Nat} {v : Value} {A : Arn} (hr : h.length ≤ r) (hr2 : r < (h ++ nw).length) (hq : h.length ≤ q) (hq2 : q < (h ++ nw).length) (hne : r ≠ q) (hv : refs v = [r]) :
    gc h.length [v] ⟨put (h ++ nw) r q A, L, H, []⟩ =
      some ([ren (fun id => if id < h.length then id else h.length + [r, q].idxOf id) v], ⟨put (h ++ [default, default]) h.length (h.length + 1) A, L, H, []⟩) := by
  have gr : (put (h ++ nw) r q A)[r]? = some (arB q A) := put_r hr2
  have gq : (put (h ++ nw) r q A)[q]? = some (byB A) := put_q hq2 hne
  have r1 : refsAt (put (h ++ nw) r q A) r = [q] := by
    simp only [refsAt, gr, arB, refsB, List.flatMap_cons, refsC, List.flatMap_nil, List.append_nil]
  have r0 : refsAt (put (h ++ nw) r q A) q = [] := by
    simp only [refsAt, gq, byB, refsB]
  have hlen : (put (h ++ nw) r q A).length = (h ++ nw).length := put_length
  unfold gc
  rw [if_neg (by show ¬ (put (h ++ nw) r q A).length ≤ h.length; omega)]
  simp only [List.flatMap_cons, List.flatMap_nil, List.append_nil, hv, List.filter_nil]
  have hf : List.filter (fun x => decide (h.length ≤ x)) [r] = [r] := by simp [hr]
  simp only [hf]
  have hreach : reach (put (h ++ nw) r q A) h.length 4096 [r] [] = [r, q] := by
    rw [show 4096 = 4094 + 1 + 1 by rfl, reach, if_neg (by simp; omega), r1, List.nil_append, List.append_nil, reach, if_neg (by simp; omega), r0]
    rfl
  rw [hreach]
  unfold gcKeep
  simp only [List.filter_nil]
  have htake : (put (h ++ nw) r q A).take h.length = h := by
    apply List.ext_getElem?
    intro i
    rw [List.getElem?_take]
    split
    · rename_i hi
      rw [put_o (by omega) (by omega), List.getElem?_append_left hi]
    · rename_i hi
      rw [List.getElem?_eq_none (by omega)]
  refine (if_pos ?_).trans ?_
  · have hne' : q ≠ r := fun e => hne e.symm
    simp [nodupB, hv, r1, r0, hlen, hr, hq, hne, hne']
    simp at hr2 hq2
    omega
  · have e1 : (q == r) = false := by simp; exact fun e => hne e.symm
    have e2 : ¬ q < h.length := by omega
    have e3 : ¬ r < h.length := by omega
    have e4 : (r == q) = false := by simp; exact hne
    rw [← put_new]
    simp [renAll, htake, List.getD_eq_getElem?_getD, gr, gq, arB, byB, renB, renC, e2, List.idxOf, List.findIdx_cons, e4]
theorem new_laid (N : Nat) : Arn.new N = Arn.laid N [] := by simp [Arn.new, Arn.laid]
theorem laid_taken {N : Nat} {l : List Nat} {m : Nat} (h : l.length + m ≤ N) : (Arn.laid N l).taken m = (Arn.laid N (l ++ List.replicate m 0), (l.length : Int), (m : Int), 0) := by
  have hb := laid_len (N := N) (l := l) (by omega)
  simp only [Arn.taken, hb]
  rw [if_neg (by omega), if_neg (by simp only [Arn.laid]; omega)]
  have e : (Arn.laid N l).take m = Arn.laid N (l ++ List.replicate m 0) := by
    simp only [Arn.take, Arn.laid, putN, Int.toNat_natCast, List.length_replicate, List.length_append, Arn.mk.injEq]
    refine ⟨?_, by omega, by omega⟩
    rw [List.take_left', List.drop_append, List.drop_eq_nil_of_le (by omega), List.nil_append, List.drop_replicate]
    · congr 2; omega
    · rfl
  rw [e]; rfl
end AM
end Go.Proofs.Ytfefeikkjebfoaa
