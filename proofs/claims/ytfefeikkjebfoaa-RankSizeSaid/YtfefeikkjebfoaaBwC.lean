/-
  THE TRANSFORM IN PLACE: walks of the law's helpers on the abstract machine. Conditions: none.
-/
import Derived.Test.YtfefeikkjebfoaaBwB
import Derived.Test.YtfefeikkjebfoaaArLaw
set_option linter.all false
namespace Go.Proofs.Ytfefeikkjebfoaa
namespace AM
open Go Go.RowKit
/-- A fresh arena, kept, wherever its blocks lie among the new ones. -/
theorem gc_put_new {h nw : List Blk} {L r q : Nat} {H : List Nat} {v : Value} {A : Arn} (hr : h.length ≤ r) (hr2 : r < (h ++ nw).length) (hq : h.length ≤ q) (hq2 : q < (h ++ nw).length) (hne : r ≠ q) (hv : refs v = [r]) :
    gc h.length [v] ⟨put (h ++ nw) r q A, L, H, []⟩ =
      some ([ren (fun id => if id < h.length then id else h.length + [r, q].idxOf id) v], ⟨put (h ++ [default, default]) h.length (h.length + 1) A, L, H, []⟩) := by
  have gr : (put (h ++ nw) r q A)[r]? = some (arB q A) := put_r hr2
  have gq : (put (h ++ nw) r q A)[q]? = some (byB A) := put_q hq2 hne
  have r1 : refsAt (put (h ++ nw) r q A) r = [q] := by
    simp only [refsAt, gr, arB, refsB, List.flatMap_cons, refsC, List.flatMap_nil, List.append_nil]
  have r0 : refsAt (put (h ++ nw) r q A) q = [] := by
    simp only [refsAt, gq, byB, refsB]
  have hlen : (put (h ++ nw) r q A).length = (h ++ nw).length := put_length
  unfold gc
  rw [if_neg (by show ¬ (put (h ++ nw) r q A).length ≤ h.length; omega)]
  simp only [List.flatMap_cons, List.flatMap_nil, List.append_nil, hv, List.filter_nil]
  have hf : List.filter (fun x => decide (h.length ≤ x)) [r] = [r] := by simp [hr]
  simp only [hf]
  have hreach : reach (put (h ++ nw) r q A) h.length 4096 [r] [] = [r, q] := by
    rw [show 4096 = 4094 + 1 + 1 by rfl, reach, if_neg (by simp; omega), r1, List.nil_append, List.append_nil, reach, if_neg (by simp; omega), r0]
    rfl
  rw [hreach]
  unfold gcKeep
  simp only [List.filter_nil]
  have htake : (put (h ++ nw) r q A).take h.length = h := by
    apply List.ext_getElem?
    intro i
    rw [List.getElem?_take]
    split
    · rename_i hi
      rw [put_o (by omega) (by omega), List.getElem?_append_left hi]
    · rename_i hi
      rw [List.getElem?_eq_none (by omega)]
  refine (if_pos ?_).trans ?_
  · have hne' : q ≠ r := fun e => hne e.symm
    simp [nodupB, hv, r1, r0, hlen, hr, hq, hne, hne']
    simp at hr2 hq2
    omega
  · have e1 : (q == r) = false := by simp; exact fun e => hne e.symm
    have e2 : ¬ q < h.length := by omega
    have e3 : ¬ r < h.length := by omega
    have e4 : (r == q) = false := by simp; exact hne
    rw [← put_new]
    simp [renAll, htake, List.getD_eq_getElem?_getD, gr, gq, arB, byB, renB, renC, e2, List.idxOf, List.findIdx_cons, e4]
theorem new_laid (N : Nat) : Arn.new N = Arn.laid N [] := by simp [Arn.new, Arn.laid]
theorem laid_taken {N : Nat} {l : List Nat} {m : Nat} (h : l.length + m ≤ N) : (Arn.laid N l).taken m = (Arn.laid N (l ++ List.replicate m 0), (l.length : Int), (m : Int), 0) := by
  have hb := laid_len (N := N) (l := l) (by omega)
  simp only [Arn.taken, hb]
  rw [if_neg (by omega), if_neg (by simp only [Arn.laid]; omega)]
  have e : (Arn.laid N l).take m = Arn.laid N (l ++ List.replicate m 0) := by
    simp only [Arn.take, Arn.laid, putN, Int.toNat_natCast, List.length_replicate, List.length_append, Arn.mk.injEq]
    refine ⟨?_, by omega, by omega⟩
    rw [List.take_left', List.drop_append, List.drop_eq_nil_of_le (by omega), List.nil_append, List.drop_replicate]
    · congr 2; omega
    · rfl
  rw [e]; rfl
end AM
namespace ArA
open Go Go.RowKit AM ArEnv
theorem rep6 : List.replicate 6 (Value.int .i64 0) = [.int .i64 0, .int .i64 0, .int .i64 0, .int .i64 0, .int .i64 0, .int .i64 0] := rfl
theorem stands_walk {hp : List Blk} {L : Nat} {H d : List Nat} {v : Value} {l : List Nat} (hF : Fit hp.length L H) (hr : Rd ⟨hp, L, H, []⟩ v l) (hl : l.length ≤ 1000) :
    Lrun env (.func 42) [.int .i64 0, v, .int .i64 0] ⟨hp, L, H, d⟩ =
      some (.tuple #[arP hp.length, .agg #[.int .i64 0, .int .i64 0, .int .i64 0, .int .i64 l.length, .int .i64 l.length, .int .i64 0]], ⟨put (hp ++ [default, default]) hp.length (hp.length + 1) (Arn.laid (l.length + 1) l), L, H, d⟩) := by
  have hlen := hr.lenF
  have t0 := laid_taken (N := l.length + 1) (l := []) (m := 0) (by simp)
  have t1 := laid_taken (N := l.length + 1) (l := []) (m := l.length) (by simp)
  have t2 := laid_taken (N := l.length + 1) (l := List.replicate l.length 0) (m := 0) (by simp)
  simp only [List.replicate_zero, List.append_nil, List.nil_append, List.length_nil, List.length_replicate, Int.natCast_zero] at t0 t1 t2
  rw [← new_laid] at t0 t1
  have c1 : (l.length : Int) + 1 ≤ 1048576 := by omega
  have c2 : ((l.length : Int) + 1).toNat = l.length + 1 := by omega
  have c3 : (1 : Int) ≤ (l.length : Int) + 1 := by omega
  have hpart := laid_part (N := l.length + 1) (l := List.replicate l.length 0) (n := l.length) (by simp)
  have hst := laid_store (N := l.length + 1) (l := List.replicate l.length 0) (m := l) (by simp) (by simp)
  have hz : By (List.replicate l.length 0) := fun x hx => by rw [List.mem_replicate] at hx; omega
  have hw : L ≤ hp.length + 1 ∧ L ≤ hp.length + 1 + 1 := by have := hF.1; omega
  have hh1 := hF.not1 1
  have hh2 : H.contains (hp.length + 1 + 1) = false := hF.not1 2
  have k0 : ArOk (hp.length + 4) (hp.length + 1) (hp.length + 1 + 1) H (Arn.new (l.length + 1)) := ArOk.new (by omega) (by omega) (by omega) (by omega) hh1 hh2
  have k1 : ArOk (hp.length + 4) (hp.length + 1) (hp.length + 1 + 1) H (Arn.laid (l.length + 1) (List.replicate l.length 0)) := ArOk.laid (by omega) (by omega) (by omega) hz (by simp) (by omega) hh1 hh2
  have e4 : ∀ B0 B1 : Blk, hp.length + 4 ≤ (hp ++ [B0, default, default, B1]).length := fun _ _ => by simp
  have tk0 := fun B0 B1 => take_walk (d := []) (hp := hp ++ [B0, default, default, B1]) (r := hp.length + 1) (q := hp.length + 1 + 1) (L := L) (H := H) (hF.mono (by simp)) (k0.mono (e4 B0 B1)) hw 0
  have tk1 := fun B0 B1 => take_walk (d := []) (hp := hp ++ [B0, default, default, B1]) (r := hp.length + 1) (q := hp.length + 1 + 1) (L := L) (H := H) (hF.mono (by simp)) (k0.mono (e4 B0 B1)) hw l.length
  have tk2 := fun B0 B1 => take_walk (d := []) (hp := hp ++ [B0, default, default, B1]) (r := hp.length + 1) (q := hp.length + 1 + 1) (L := L) (H := H) (hF.mono (by simp)) (k1.mono (e4 B0 B1)) hw 0
  have st := fun B0 B1 => store_walk (d := []) (hp := hp ++ [B0, default, default, B1]) (r := hp.length + 1) (q := hp.length + 1 + 1) (L := L) (H := H) (by omega : l.length ≤ 1048576) (hF.mono (by simp)) (k1.mono (e4 B0 B1)) hw 0 l.length 0 (fun nw => by rw [List.append_assoc]; exact hr.put (by omega) (by omega))
  simp only [t0] at tk0
  simp only [t1] at tk1
  simp only [t2] at tk2
  simp only [hpart, hst] at st
  rw [Lrun_sym 42 _ _ fn42]
  simp (disch := (first | omega | (simp only [lnE, put_length] <;> omega) | (refine Fit.mono ‹Fit _ _ _› ?_; simp only [lnE, put_length] <;> omega) | (refine Fit.draw ‹Fit _ _ _› ?_ ?_ <;> (simp only [lnE, put_length] <;> omega)) | (refine Fit.hid1 ‹Fit _ _ _› ?_ ?_ <;> (simp only [lnE, put_length] <;> omega)) | (refine Fit.draw1 ‹Fit _ _ _› ?_ ?_ ?_ <;> (simp only [lnE, put_length] <;> omega)) | (refine Fit.range0 ?_ ?_ <;> (simp only [lnE, put_length] <;> omega)) | (refine ArOk.mono ‹ArOk _ _ _ _ _› ?_; simp only [lnE, put_length] <;> omega) | (refine ArOk.hid ‹ArOk _ _ _ _ _› ?_ ?_ <;> (simp only [lnE, put_length] <;> omega)) | (refine ArOk.hid0 ‹ArOk _ _ _ _ _› ?_ ?_ <;> (simp only [lnE, put_length] <;> omega)) | (intro xr hxr; simp [AM.refs, refsF, refsC] at hxr; simp only [lnE, put_length] <;> omega) | fail)) only [syA, List.isEmpty_nil, List.isEmpty_cons, List.nil_append, argFr, D, E, T, C, undefv, eqF, aeq, sheqs, sheq, Option.isNone_none, Option.isNone_some, Option.getD_some, Option.getD_none, rdCells, cellsOf, fill, putAt, if_true, if_false, reduceIte, ↓reduceIte, reduceCtorEq, decide_true, decide_false, decide_eq_true_eq, decide_eq_false_iff_not, decide_not, Bool.not_true, Bool.not_false, Bool.not_not, Bool.not_eq_true', Bool.and_true, Bool.true_and, Bool.and_false, Bool.false_and, Bool.and_self, Bool.or_true, Bool.true_or, Bool.or_false, Bool.false_or, Bool.or_self, Bool.false_eq_true, Bool.and_eq_true, Bool.or_eq_true, and_true, true_and, and_false, false_and, or_true, true_or, or_false, false_or, not_true_eq_false, not_false_eq_true, eq_self, Option.map_some, Option.map_none, Option.bind_some, Option.bind_none, Nat.reduceEqDiff, Nat.reduceAdd, Nat.reduceSub, Nat.reduceMul, Nat.reduceLT, Nat.reduceLeDiff, Nat.reducePow, Nat.testBit_eq_decide_div_mod_eq, Nat.reduceDiv, Nat.reduceMod, Nat.zero_add, Nat.add_zero, Nat.sub_self, Nat.le_refl, Nat.lt_irrefl, Nat.mul_one, Int.mul_one, Int.one_mul, Int.sub_zero, Int.add_zero, Int.zero_add, Int.reduceLT, Int.reduceLE, Int.reduceGT, Int.reduceGE, Int.reduceToNat, Int.reducePow, Int.reduceNeg, Int.reduceBEq, Int.reduceBNe, Int.reduceEq, Int.reduceAdd, Int.reduceSub, Int.reduceMul, beq_iff_eq, bne_iff_ne, bne_self_eq_false, bne_eq_false_iff_eq, beq_eq_false_iff_ne, ne_eq, beq_self_eq_true, List.all_cons, List.all_nil, cellv, sc, flatv, refs, refsF, refsC, List.flatMap_cons, List.flatMap_nil, List.append_nil, List.append_assoc, List.cons_append, List.length_append, List.length_set, Int.cast_ofNat_Int, List.length_cons, List.length_nil, List.getElem?_cons_zero, List.getElem?_cons_succ, List.set_cons_zero, List.set_cons_succ, List.take_succ_cons, List.take_zero, List.drop_zero, List.drop_succ_cons, List.contains_nil, Int.toNat_natCast, Int.lt_irrefl, Nat.min_eq_left, Nat.min_eq_right, syR, Int.le_refl, hF.not0, hF.not1, hF.up0, hF.up1, ac42, hlen, new_walk, c1, c2, c3, tk0, tk1, tk2, st, rep6]
  rw [iter_by lb42_1.eq_1]
  simp (disch := (first | omega | (simp only [lnE, put_length] <;> omega) | (refine Fit.mono ‹Fit _ _ _› ?_; simp only [lnE, put_length] <;> omega) | (refine Fit.draw ‹Fit _ _ _› ?_ ?_ <;> (simp only [lnE, put_length] <;> omega)) | (refine Fit.hid1 ‹Fit _ _ _› ?_ ?_ <;> (simp only [lnE, put_length] <;> omega)) | (refine Fit.draw1 ‹Fit _ _ _› ?_ ?_ ?_ <;> (simp only [lnE, put_length] <;> omega)) | (refine Fit.range0 ?_ ?_ <;> (simp only [lnE, put_length] <;> omega)) | (refine ArOk.mono ‹ArOk _ _ _ _ _› ?_; simp only [lnE, put_length] <;> omega) | (refine ArOk.hid ‹ArOk _ _ _ _ _› ?_ ?_ <;> (simp only [lnE, put_length] <;> omega)) | (refine ArOk.hid0 ‹ArOk _ _ _ _ _› ?_ ?_ <;> (simp only [lnE, put_length] <;> omega)) | (intro xr hxr; simp [AM.refs, refsF, refsC] at hxr; simp only [lnE, put_length] <;> omega) | fail)) only [syA, List.isEmpty_nil, List.isEmpty_cons, List.nil_append, argFr, D, E, T, C, undefv, eqF, aeq, sheqs, sheq, Option.isNone_none, Option.isNone_some, Option.getD_some, Option.getD_none, rdCells, cellsOf, fill, putAt, if_true, if_false, reduceIte, ↓reduceIte, reduceCtorEq, decide_true, decide_false, decide_eq_true_eq, decide_eq_false_iff_not, decide_not, Bool.not_true, Bool.not_false, Bool.not_not, Bool.not_eq_true', Bool.and_true, Bool.true_and, Bool.and_false, Bool.false_and, Bool.and_self, Bool.or_true, Bool.true_or, Bool.or_false, Bool.false_or, Bool.or_self, Bool.false_eq_true, Bool.and_eq_true, Bool.or_eq_true, and_true, true_and, and_false, false_and, or_true, true_or, or_false, false_or, not_true_eq_false, not_false_eq_true, eq_self, Option.map_some, Option.map_none, Option.bind_some, Option.bind_none, Nat.reduceEqDiff, Nat.reduceAdd, Nat.reduceSub, Nat.reduceMul, Nat.reduceLT, Nat.reduceLeDiff, Nat.reducePow, Nat.testBit_eq_decide_div_mod_eq, Nat.reduceDiv, Nat.reduceMod, Nat.zero_add, Nat.add_zero, Nat.sub_self, Nat.le_refl, Nat.lt_irrefl, Nat.mul_one, Int.mul_one, Int.one_mul, Int.sub_zero, Int.add_zero, Int.zero_add, Int.reduceLT, Int.reduceLE, Int.reduceGT, Int.reduceGE, Int.reduceToNat, Int.reducePow, Int.reduceNeg, Int.reduceBEq, Int.reduceBNe, Int.reduceEq, Int.reduceAdd, Int.reduceSub, Int.reduceMul, beq_iff_eq, bne_iff_ne, bne_self_eq_false, bne_eq_false_iff_eq, beq_eq_false_iff_ne, ne_eq, beq_self_eq_true, List.all_cons, List.all_nil, cellv, sc, flatv, refs, refsF, refsC, List.flatMap_cons, List.flatMap_nil, List.append_nil, List.append_assoc, List.cons_append, List.length_append, List.length_set, Int.cast_ofNat_Int, List.length_cons, List.length_nil, List.getElem?_cons_zero, List.getElem?_cons_succ, List.set_cons_zero, List.set_cons_succ, List.take_succ_cons, List.take_zero, List.drop_zero, List.drop_succ_cons, List.contains_nil, Int.toNat_natCast, Int.lt_irrefl, Nat.min_eq_left, Nat.min_eq_right, syR, Int.le_refl, hF.not0, hF.not1, hF.up0, hF.up1]
  rw [iter_by lb42_0.eq_1]
  simp (disch := (first | omega | (simp only [lnE, put_length] <;> omega) | (refine Fit.mono ‹Fit _ _ _› ?_; simp only [lnE, put_length] <;> omega) | (refine Fit.draw ‹Fit _ _ _› ?_ ?_ <;> (simp only [lnE, put_length] <;> omega)) | (refine Fit.hid1 ‹Fit _ _ _› ?_ ?_ <;> (simp only [lnE, put_length] <;> omega)) | (refine Fit.draw1 ‹Fit _ _ _› ?_ ?_ ?_ <;> (simp only [lnE, put_length] <;> omega)) | (refine Fit.range0 ?_ ?_ <;> (simp only [lnE, put_length] <;> omega)) | (refine ArOk.mono ‹ArOk _ _ _ _ _› ?_; simp only [lnE, put_length] <;> omega) | (refine ArOk.hid ‹ArOk _ _ _ _ _› ?_ ?_ <;> (simp only [lnE, put_length] <;> omega)) | (refine ArOk.hid0 ‹ArOk _ _ _ _ _› ?_ ?_ <;> (simp only [lnE, put_length] <;> omega)) | (intro xr hxr; simp [AM.refs, refsF, refsC] at hxr; simp only [lnE, put_length] <;> omega) | fail)) only [syA, List.isEmpty_nil, List.isEmpty_cons, List.nil_append, argFr, D, E, T, C, undefv, eqF, aeq, sheqs, sheq, Option.isNone_none, Option.isNone_some, Option.getD_some, Option.getD_none, rdCells, cellsOf, fill, putAt, if_true, if_false, reduceIte, ↓reduceIte, reduceCtorEq, decide_true, decide_false, decide_eq_true_eq, decide_eq_false_iff_not, decide_not, Bool.not_true, Bool.not_false, Bool.not_not, Bool.not_eq_true', Bool.and_true, Bool.true_and, Bool.and_false, Bool.false_and, Bool.and_self, Bool.or_true, Bool.true_or, Bool.or_false, Bool.false_or, Bool.or_self, Bool.false_eq_true, Bool.and_eq_true, Bool.or_eq_true, and_true, true_and, and_false, false_and, or_true, true_or, or_false, false_or, not_true_eq_false, not_false_eq_true, eq_self, Option.map_some, Option.map_none, Option.bind_some, Option.bind_none, Nat.reduceEqDiff, Nat.reduceAdd, Nat.reduceSub, Nat.reduceMul, Nat.reduceLT, Nat.reduceLeDiff, Nat.reducePow, Nat.testBit_eq_decide_div_mod_eq, Nat.reduceDiv, Nat.reduceMod, Nat.zero_add, Nat.add_zero, Nat.sub_self, Nat.le_refl, Nat.lt_irrefl, Nat.mul_one, Int.mul_one, Int.one_mul, Int.sub_zero, Int.add_zero, Int.zero_add, Int.reduceLT, Int.reduceLE, Int.reduceGT, Int.reduceGE, Int.reduceToNat, Int.reducePow, Int.reduceNeg, Int.reduceBEq, Int.reduceBNe, Int.reduceEq, Int.reduceAdd, Int.reduceSub, Int.reduceMul, beq_iff_eq, bne_iff_ne, bne_self_eq_false, bne_eq_false_iff_eq, beq_eq_false_iff_ne, ne_eq, beq_self_eq_true, List.all_cons, List.all_nil, cellv, sc, flatv, refs, refsF, refsC, List.flatMap_cons, List.flatMap_nil, List.append_nil, List.append_assoc, List.cons_append, List.length_append, List.length_set, Int.cast_ofNat_Int, List.length_cons, List.length_nil, List.getElem?_cons_zero, List.getElem?_cons_succ, List.set_cons_zero, List.set_cons_succ, List.take_succ_cons, List.take_zero, List.drop_zero, List.drop_succ_cons, List.contains_nil, Int.toNat_natCast, Int.lt_irrefl, Nat.min_eq_left, Nat.min_eq_right, syR, Int.le_refl, hF.not0, hF.not1, hF.up0, hF.up1, st]
  rw [gc_put_new (by omega) (by simp) (by omega) (by simp) (by omega) (by simp [refs, refsF, refsC])]
  simp [gcX, ren, renF, renC, joinDirty, List.idxOf, List.findIdx_cons]
theorem laid_one (l : List Nat) : Arn.laid (l.length + 1) l = ⟨[] ++ (l ++ [0]), l.length, l.length⟩ := by
  simp [Arn.laid]
theorem laid_one' {l m : List Nat} (h : m.length = l.length) : Arn.laid (l.length + 1) m = ⟨[] ++ (m ++ [0]), l.length, l.length⟩ := by
  simp [Arn.laid, h]
theorem laid_turn {hp : List Blk} {L r q : Nat} {H d : List Nat} {l : List Nat} (hF : Fit hp.length L H) (hw : L ≤ r ∧ L ≤ q) (h0 : 0 < l.length) (hl : l.length ≤ 1000) (k : ArOk hp.length r q H (Arn.laid (l.length + 1) l)) :
    Lrun env (.func 44) [arP r, .agg #[.int .i64 0, .int .i64 l.length]] ⟨put hp r q (Arn.laid (l.length + 1) l), L, H, d⟩ = some (.tuple #[.int .i64 (turnR l).2.1, .int .i64 (turnR l).2.2, .int .i64 0], ⟨put hp r q (Arn.laid (l.length + 1) (turnR l).1), L, H, d⟩) := by
  have hlen := (turnR_len l).1
  rw [show Arn.laid (l.length + 1) (turnR l).1 = ⟨[] ++ ((turnR l).1 ++ [0]), l.length, l.length⟩ by rw [← laid_one' hlen]]
  rw [laid_one] at k ⊢
  exact (turn_walk hF hw (by omega) (by simp) (by simp) (by omega) (by omega) (by omega) k).2
theorem put_flat (hp nw : List Blk) (A : Arn) : put (hp ++ (default :: default :: nw)) hp.length (hp.length + 1) A = hp ++ (arB (hp.length + 1) A :: byB A :: nw) := by
  have := put_app (hp := hp ++ [default, default]) (nw := nw) (r := hp.length) (q := hp.length + 1) (A := A) (by simp) (by simp)
  rw [← put_new] at this
  simpa using this.symm
theorem turned_walk {hp : List Blk} {L : Nat} {H d : List Nat} {v : Value} {l : List Nat} (hF : Fit hp.length L H) (hr : Rd ⟨hp, L, H, []⟩ v l) (h0 : 0 < l.length) (hl : l.length ≤ 1000) :
    Lrun env (.func 38) [v] ⟨hp, L, H, d⟩ =
      some (.tuple #[sl hp.length l.length (some (turnR l).1), .int .i64 (turnR l).2.1, .int .i64 (turnR l).2.2, .bool true], ⟨hp ++ slB l.length (some (turnR l).1), L, H, d⟩) := by
  have hlen := (turnR_len l).1
  have hw : L ≤ hp.length ∧ L ≤ hp.length + 1 := by have := hF.1; omega
  have hh1 := hF.not0
  have hh2 := hF.not1 1
  have k1 : ArOk (hp.length + 2) hp.length (hp.length + 1) H (Arn.laid (l.length + 1) l) := ArOk.laid (by omega) (by omega) (by omega) hr.by_ (by omega) (by omega) hh1 hh2
  have k2 : ArOk (hp.length + 2) hp.length (hp.length + 1) H (Arn.laid (l.length + 1) (turnR l).1) := ArOk.laid (by omega) (by omega) (by omega) (turnR_by l hr.by_) (by omega) (by omega) hh1 hh2
  have sw := stands_walk (d := []) hF hr hl
  have e3 : ∀ B : Blk, hp.length + 2 ≤ (hp ++ [default, default, B]).length := fun _ => by simp
  have tw := fun B => laid_turn (d := []) (hp := hp ++ [default, default, B]) (r := hp.length) (q := hp.length + 1) (hF.mono (by simp)) hw h0 hl (k1.mono (e3 B))
  have lw := fun B => load_walk (d := []) (hp := hp ++ [default, default, B]) (r := hp.length) (q := hp.length + 1) (L := L) (H := H) (hF.mono (by simp)) (k2.mono (e3 B)) 0 l.length
  have hload := laid_load (N := l.length + 1) (l := (turnR l).1)
  rw [hlen] at hload
  simp only [hload] at lw
  rw [Lrun_sym 38 _ _ fn38]
  simp (disch := (first | omega | (simp only [lnE, put_length] <;> omega) | (refine Fit.mono ‹Fit _ _ _› ?_; simp only [lnE, put_length] <;> omega) | (refine Fit.draw ‹Fit _ _ _› ?_ ?_ <;> (simp only [lnE, put_length] <;> omega)) | (refine Fit.hid1 ‹Fit _ _ _› ?_ ?_ <;> (simp only [lnE, put_length] <;> omega)) | (refine Fit.draw1 ‹Fit _ _ _› ?_ ?_ ?_ <;> (simp only [lnE, put_length] <;> omega)) | (refine Fit.range0 ?_ ?_ <;> (simp only [lnE, put_length] <;> omega)) | (refine ArOk.mono ‹ArOk _ _ _ _ _› ?_; simp only [lnE, put_length] <;> omega) | (refine ArOk.hid ‹ArOk _ _ _ _ _› ?_ ?_ <;> (simp only [lnE, put_length] <;> omega)) | (refine ArOk.hid0 ‹ArOk _ _ _ _ _› ?_ ?_ <;> (simp only [lnE, put_length] <;> omega)) | (intro xr hxr; simp [AM.refs, refsF, refsC] at hxr; simp only [lnE, put_length] <;> omega) | fail)) only [syA, List.isEmpty_nil, List.isEmpty_cons, List.nil_append, argFr, D, E, T, C, undefv, eqF, aeq, sheqs, sheq, Option.isNone_none, Option.isNone_some, Option.getD_some, Option.getD_none, rdCells, cellsOf, fill, putAt, if_true, if_false, reduceIte, ↓reduceIte, reduceCtorEq, decide_true, decide_false, decide_eq_true_eq, decide_eq_false_iff_not, decide_not, Bool.not_true, Bool.not_false, Bool.not_not, Bool.not_eq_true', Bool.and_true, Bool.true_and, Bool.and_false, Bool.false_and, Bool.and_self, Bool.or_true, Bool.true_or, Bool.or_false, Bool.false_or, Bool.or_self, Bool.false_eq_true, Bool.and_eq_true, Bool.or_eq_true, and_true, true_and, and_false, false_and, or_true, true_or, or_false, false_or, not_true_eq_false, not_false_eq_true, eq_self, Option.map_some, Option.map_none, Option.bind_some, Option.bind_none, Nat.reduceEqDiff, Nat.reduceAdd, Nat.reduceSub, Nat.reduceMul, Nat.reduceLT, Nat.reduceLeDiff, Nat.reducePow, Nat.testBit_eq_decide_div_mod_eq, Nat.reduceDiv, Nat.reduceMod, Nat.zero_add, Nat.add_zero, Nat.sub_self, Nat.le_refl, Nat.lt_irrefl, Nat.mul_one, Int.mul_one, Int.one_mul, Int.sub_zero, Int.add_zero, Int.zero_add, Int.reduceLT, Int.reduceLE, Int.reduceGT, Int.reduceGE, Int.reduceToNat, Int.reducePow, Int.reduceNeg, Int.reduceBEq, Int.reduceBNe, Int.reduceEq, Int.reduceAdd, Int.reduceSub, Int.reduceMul, beq_iff_eq, bne_iff_ne, bne_self_eq_false, bne_eq_false_iff_eq, beq_eq_false_iff_ne, ne_eq, beq_self_eq_true, List.all_cons, List.all_nil, cellv, sc, flatv, refs, refsF, refsC, List.flatMap_cons, List.flatMap_nil, List.append_nil, List.append_assoc, List.cons_append, List.length_append, List.length_set, Int.cast_ofNat_Int, List.length_cons, List.length_nil, List.getElem?_cons_zero, List.getElem?_cons_succ, List.set_cons_zero, List.set_cons_succ, List.take_succ_cons, List.take_zero, List.drop_zero, List.drop_succ_cons, List.contains_nil, Int.toNat_natCast, Int.lt_irrefl, Nat.min_eq_left, Nat.min_eq_right, syR, Int.le_refl, hF.not0, hF.not1, hF.up0, hF.up1, ac38, sw, tw, lw, rep6, hlen, sl_some, slB_some]
  rw [put_flat, gc_new]
  have he : (refs (.tuple #[.slice (some ⟨hp.length + 3, 0, some l.length⟩) l.length 1, .int .i64 (turnR l).2.1, .int .i64 (turnR l).2.2, .bool true])).isEmpty = false := by simp [refs, refsF, refsC]
  rw [he, gc_keep 3 rfl (by simp [refs, refsF, refsC]) (by simp [refs, refsF, refsC])]
  simp (disch := (first | omega | (simp only [lnE] <;> omega) | (refine Fit.mono ‹Fit _ _ _› ?_; simp only [lnE] <;> omega) | (refine Fit.draw ‹Fit _ _ _› ?_ ?_ <;> (simp only [lnE] <;> omega)) | (refine Fit.hid1 ‹Fit _ _ _› ?_ ?_ <;> (simp only [lnE] <;> omega)) | (refine Fit.draw1 ‹Fit _ _ _› ?_ ?_ ?_ <;> (simp only [lnE] <;> omega)) | (refine Fit.range0 ?_ ?_ <;> (simp only [lnE] <;> omega)) | fail)) only [syA, List.isEmpty_nil, List.isEmpty_cons, List.nil_append, argFr, D, E, T, C, undefv, eqF, aeq, sheqs, sheq, Option.isNone_none, Option.isNone_some, Option.getD_some, Option.getD_none, rdCells, cellsOf, fill, putAt, if_true, if_false, reduceIte, ↓reduceIte, reduceCtorEq, decide_true, decide_false, decide_eq_true_eq, decide_eq_false_iff_not, decide_not, Bool.not_true, Bool.not_false, Bool.not_not, Bool.not_eq_true', Bool.and_true, Bool.true_and, Bool.and_false, Bool.false_and, Bool.and_self, Bool.or_true, Bool.true_or, Bool.or_false, Bool.false_or, Bool.or_self, Bool.false_eq_true, Bool.and_eq_true, Bool.or_eq_true, and_true, true_and, and_false, false_and, or_true, true_or, or_false, false_or, not_true_eq_false, not_false_eq_true, eq_self, Option.map_some, Option.map_none, Option.bind_some, Option.bind_none, Nat.reduceEqDiff, Nat.reduceAdd, Nat.reduceSub, Nat.reduceMul, Nat.reduceLT, Nat.reduceLeDiff, Nat.reducePow, Nat.testBit_eq_decide_div_mod_eq, Nat.reduceDiv, Nat.reduceMod, Nat.zero_add, Nat.add_zero, Nat.sub_self, Nat.le_refl, Nat.lt_irrefl, Nat.mul_one, Int.mul_one, Int.one_mul, Int.sub_zero, Int.add_zero, Int.zero_add, Int.reduceLT, Int.reduceLE, Int.reduceGT, Int.reduceGE, Int.reduceToNat, Int.reducePow, Int.reduceNeg, Int.reduceBEq, Int.reduceBNe, Int.reduceEq, Int.reduceAdd, Int.reduceSub, Int.reduceMul, beq_iff_eq, bne_iff_ne, bne_self_eq_false, bne_eq_false_iff_eq, beq_eq_false_iff_ne, ne_eq, beq_self_eq_true, List.all_cons, List.all_nil, cellv, sc, flatv, refs, refsF, refsC, List.flatMap_cons, List.flatMap_nil, List.append_nil, List.append_assoc, List.cons_append, List.length_append, List.length_set, Int.cast_ofNat_Int, List.length_cons, List.length_nil, List.getElem?_cons_zero, List.getElem?_cons_succ, List.set_cons_zero, List.set_cons_succ, List.take_succ_cons, List.take_zero, List.drop_zero, List.drop_succ_cons, List.contains_nil, Int.toNat_natCast, Int.lt_irrefl, Nat.min_eq_left, Nat.min_eq_right, hF.not0, hF.not1, hF.up0, hF.up1, ren, renF, renC, one_new, List.map_cons, List.map_nil]
end ArA
end Go.Proofs.Ytfefeikkjebfoaa
