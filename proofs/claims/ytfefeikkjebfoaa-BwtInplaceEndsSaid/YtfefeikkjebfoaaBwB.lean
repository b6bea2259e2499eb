/-
  THE TRANSFORM IN PLACE: walks of Push on the abstract machine. Conditions: none.
-/
import Derived.Test.YtfefeikkjebfoaaBwA
set_option linter.all false
namespace Go.Proofs.Ytfefeikkjebfoaa
namespace ArA
open Go Go.RowKit AM ArEnv

theorem copy_fresh {hp : List Blk} {L off n e : Nat} {H d : List Nat} {l m : List Nat} (hF : Fit hp.length L H) (h : off + l.length ≤ m.length) (hn : l.length ≤ n) :
    copyX ⟨hp ++ [.cells 0 true (u8s m)], L, H, d⟩ 1 (some (.slice (some ⟨hp.length, off, some 0⟩) n e)) (some (l.length, u8s l)) = some (.int .i64 l.length, ⟨hp ++ [.cells 0 true (u8s (putN m off l))], L, H, d⟩) := by
  have hmin : min l.length n = l.length := by omega
  have hL : (hp.length < L) = False := eq_false (by have := hF.1; omega)
  rw [copyX_some, hmin]
  by_cases h0 : l = []
  · subst h0; rw [List.length_nil, if_pos rfl, putN_nil]; rfl
  · have h0' : ¬ l.length = 0 := fun e => h0 (List.eq_nil_of_length_eq_zero e)
    rw [if_neg h0', Nat.mul_one, take_u8s, write_eq]
    simp only [hL, if_false, blk_eq, hF.not0, Bool.false_eq_true, get_new0, cellX_some, if_true]
    rw [writeX_some, if_pos (by simp [u8s_cellv, u8s_sc, u8s_length]; omega), set_new0, AM.putAt_u8s h]
    simp only [copiedX_some, List.set_cons_zero]
    congr 3
    simp [addDirty, u8s_sc]
theorem push_eq {l : List Nat} {ix c : Nat} (h : ix ≤ l.length) : putN ((putN (List.replicate (l.length + 1) 0) 0 (l.take ix)).set ix c) (ix + 1) (l.drop ix) = pushC l ix c := by
  have e1 : (l.take ix).length = ix := by simp; omega
  have e2 : putN (List.replicate (l.length + 1) 0) 0 (l.take ix) = l.take ix ++ (0 :: List.replicate (l.length - ix) 0) := by
    simp only [putN, List.take_zero, List.nil_append, Nat.zero_add, e1, List.drop_replicate]
    rw [show l.length + 1 - ix = (l.length - ix) + 1 by omega, List.replicate_succ]
  rw [e2, List.set_append_right _ _ (by omega), e1, Nat.sub_self, List.set_cons_zero]
  have e3 : (l.take ix ++ c :: List.replicate (l.length - ix) 0).take (ix + 1) = l.take ix ++ [c] := by
    rw [List.take_append, List.take_of_length_le (by omega), e1, Nat.add_sub_cancel_left]; rfl
  have e4 : (l.take ix ++ c :: List.replicate (l.length - ix) 0).drop (ix + 1 + (l.drop ix).length) = [] := List.drop_eq_nil_of_le (by simp; omega)
  unfold putN
  rw [e3, e4]
  simp [pushC]
theorem u8s_set (l : List Nat) (i x : Nat) : (u8s l).set i (.int .u8 (x : Int)) = u8s (l.set i x) := by simp [u8s, List.map_set]
section
variable {hp : List Blk} {L : Nat} {H d : List Nat}
theorem row_loop (hF : Fit hp.length L H) {a : Option Addr} {e : Nat} {col : List Nat} {c ix : Nat} (hr : Rd ⟨hp, L, H, []⟩ (.slice a col.length e) col) (hm : col.length ≤ 1048576) (hix : ix ≤ 1048576) :
    ∀ (rest : List Nat) (j : Nat), col.drop j = rest → j ≤ col.length → ∀ a0 : Nat, a0 + rest.length ≤ 1048577 → ∃ fr,
    Liter env lb70_0 [7, 12, 11, 10, 2, 1] hp.length [(7, .int .i64 a0), (12, .int .i64 j), (11, .int .i64 col.length), (10, .slice a col.length e), (2, .int .u8 c), (1, .int .i64 ix)] ⟨hp, L, H, []⟩ =
      some (.exit 0, fr, ⟨hp, L, H, []⟩) ∧ fr.get 7 = some (.int .i64 (a0 + cnt c ix j rest : Nat))
  | [], j, hd, hj, a0, ha => by
    have e1 : j = col.length := by have := congrArg List.length hd; simp at this; omega
    subst e1
    rw [iter_by lb70_0.eq_1]
    simp (disch := (first | omega | (simp only [lnE] <;> omega) | (refine Fit.mono ‹Fit _ _ _› ?_ <;> (simp only [lnE] <;> omega)) | (refine Fit.draw ‹Fit _ _ _› ?_ ?_ <;> (simp only [lnE] <;> omega)) | (refine Fit.hid1 ‹Fit _ _ _› ?_ ?_ <;> (simp only [lnE] <;> omega)) | (refine Fit.draw1 ‹Fit _ _ _› ?_ ?_ ?_ <;> (simp only [lnE] <;> omega)) | (refine Fit.range0 ?_ ?_ <;> (simp only [lnE] <;> omega)) | fail)) only [syA, syB, argFr, D, E, T, C, undefv, eqF, aeq, sheqs, sheq, rdCells, cellsOf, fill, putAt, if_true, if_false, reduceIte, ↓reduceIte, reduceCtorEq, eq_self, Nat.reduceEqDiff, Nat.reduceAdd, Nat.reduceSub, Nat.reduceMul, Nat.reduceLT, Nat.reduceLeDiff, Nat.reducePow, Nat.reduceDiv, Nat.reduceMod, Int.reduceLT, Int.reduceLE, Int.reduceGT, Int.reduceGE, Int.reduceToNat, Int.reducePow, Int.reduceNeg, Int.reduceBEq, Int.reduceBNe, Int.reduceEq, Int.reduceAdd, Int.reduceSub, Int.reduceMul, cellv, sc, flatv, refs, refsF, refsC, hF.not0, hF.not1, hF.up0, hF.up1]
    exact ⟨_, rfl, rfl⟩
  | x :: rest, j, hd, hj, a0, ha => by
    have hjl : j < col.length := by have := congrArg List.length hd; simp at this; omega
    have hx : col[j] = x := by have := List.drop_eq_getElem_cons hjl; rw [hd] at this; exact (List.cons.inj this).1.symm
    have hlr : col.drop (j + 1) = rest := by have := List.drop_eq_getElem_cons hjl; rw [hd] at this; exact (List.cons.inj this).2.symm
    have h1 : (j : Int) < col.length := by omega
    have h2 : 0 ≤ (j : Int) ∧ (j : Int) < col.length := by omega
    simp only [List.length_cons] at ha
    by_cases hc : x < c ∨ (x = c ∧ j < ix)
    · obtain ⟨fr, e1, e2⟩ := row_loop hF hr hm hix (c := c) rest (j + 1) hlr (by omega) (a0 + 1) (by omega)
      have hcc : (if x < c ∨ (x = c ∧ j < ix) then 1 else 0) = 1 := if_pos hc
      rw [cnt, hcc, ← Nat.add_assoc]
      obtain ⟨b, o, g, pl, cs, rfl, _, hh, hb, hcell⟩ := hr.at_ hjl
      rw [hx] at hcell
      simp only [] at hb hh
      rw [iter_by lb70_0.eq_1]
      by_cases c1 : (x : Int) < c
      · simp (disch := (first | omega | (simp only [lnE] <;> omega) | (refine Fit.mono ‹Fit _ _ _› ?_ <;> (simp only [lnE] <;> omega)) | (refine Fit.draw ‹Fit _ _ _› ?_ ?_ <;> (simp only [lnE] <;> omega)) | (refine Fit.hid1 ‹Fit _ _ _› ?_ ?_ <;> (simp only [lnE] <;> omega)) | (refine Fit.draw1 ‹Fit _ _ _› ?_ ?_ ?_ <;> (simp only [lnE] <;> omega)) | (refine Fit.range0 ?_ ?_ <;> (simp only [lnE] <;> omega)) | fail)) only [syA, syB, argFr, D, E, T, C, undefv, eqF, aeq, sheqs, sheq, rdCells, cellsOf, fill, putAt, if_true, if_false, reduceIte, ↓reduceIte, reduceCtorEq, eq_self, Nat.reduceEqDiff, Nat.reduceAdd, Nat.reduceSub, Nat.reduceMul, Nat.reduceLT, Nat.reduceLeDiff, Nat.reducePow, Nat.reduceDiv, Nat.reduceMod, Int.reduceLT, Int.reduceLE, Int.reduceGT, Int.reduceGE, Int.reduceToNat, Int.reducePow, Int.reduceNeg, Int.reduceBEq, Int.reduceBNe, Int.reduceEq, Int.reduceAdd, Int.reduceSub, Int.reduceMul, cellv, sc, flatv, refs, refsF, refsC, hF.not0, hF.not1, hF.up0, hF.up1, h1, h2, hb, hh, hcell, c1]
        exact ⟨fr, e1, e2⟩
      · have c2 : (x : Int) = c := by omega
        have c3 : (j : Int) < ix := by omega
        simp (disch := (first | omega | (simp only [lnE] <;> omega) | (refine Fit.mono ‹Fit _ _ _› ?_ <;> (simp only [lnE] <;> omega)) | (refine Fit.draw ‹Fit _ _ _› ?_ ?_ <;> (simp only [lnE] <;> omega)) | (refine Fit.hid1 ‹Fit _ _ _› ?_ ?_ <;> (simp only [lnE] <;> omega)) | (refine Fit.draw1 ‹Fit _ _ _› ?_ ?_ ?_ <;> (simp only [lnE] <;> omega)) | (refine Fit.range0 ?_ ?_ <;> (simp only [lnE] <;> omega)) | fail)) only [syA, syB, argFr, D, E, T, C, undefv, eqF, aeq, sheqs, sheq, rdCells, cellsOf, fill, putAt, if_true, if_false, reduceIte, ↓reduceIte, reduceCtorEq, eq_self, Nat.reduceEqDiff, Nat.reduceAdd, Nat.reduceSub, Nat.reduceMul, Nat.reduceLT, Nat.reduceLeDiff, Nat.reducePow, Nat.reduceDiv, Nat.reduceMod, Int.reduceLT, Int.reduceLE, Int.reduceGT, Int.reduceGE, Int.reduceToNat, Int.reducePow, Int.reduceNeg, Int.reduceBEq, Int.reduceBNe, Int.reduceEq, Int.reduceAdd, Int.reduceSub, Int.reduceMul, cellv, sc, flatv, refs, refsF, refsC, hF.not0, hF.not1, hF.up0, hF.up1, h1, h2, hb, hh, hcell, c1, c2, c3]
        exact ⟨fr, e1, e2⟩
    · obtain ⟨fr, e1, e2⟩ := row_loop hF hr hm hix (c := c) rest (j + 1) hlr (by omega) a0 (by omega)
      have hcc : (if x < c ∨ (x = c ∧ j < ix) then 1 else 0) = 0 := if_neg hc
      rw [cnt, hcc, Nat.zero_add]
      obtain ⟨b, o, g, pl, cs, rfl, _, hh, hb, hcell⟩ := hr.at_ hjl
      rw [hx] at hcell
      simp only [] at hb hh
      rw [iter_by lb70_0.eq_1]
      have c1 : ¬ (x : Int) < c := by omega
      by_cases c2 : x = c
      · have c3 : ¬ (j : Int) < ix := by omega
        simp (disch := (first | omega | (simp only [lnE] <;> omega) | (refine Fit.mono ‹Fit _ _ _› ?_ <;> (simp only [lnE] <;> omega)) | (refine Fit.draw ‹Fit _ _ _› ?_ ?_ <;> (simp only [lnE] <;> omega)) | (refine Fit.hid1 ‹Fit _ _ _› ?_ ?_ <;> (simp only [lnE] <;> omega)) | (refine Fit.draw1 ‹Fit _ _ _› ?_ ?_ ?_ <;> (simp only [lnE] <;> omega)) | (refine Fit.range0 ?_ ?_ <;> (simp only [lnE] <;> omega)) | fail)) only [syA, syB, argFr, D, E, T, C, undefv, eqF, aeq, sheqs, sheq, rdCells, cellsOf, fill, putAt, if_true, if_false, reduceIte, ↓reduceIte, reduceCtorEq, eq_self, Nat.reduceEqDiff, Nat.reduceAdd, Nat.reduceSub, Nat.reduceMul, Nat.reduceLT, Nat.reduceLeDiff, Nat.reducePow, Nat.reduceDiv, Nat.reduceMod, Int.reduceLT, Int.reduceLE, Int.reduceGT, Int.reduceGE, Int.reduceToNat, Int.reducePow, Int.reduceNeg, Int.reduceBEq, Int.reduceBNe, Int.reduceEq, Int.reduceAdd, Int.reduceSub, Int.reduceMul, cellv, sc, flatv, refs, refsF, refsC, hF.not0, hF.not1, hF.up0, hF.up1, h1, h2, hb, hh, hcell, c1, c2, c3]
        exact ⟨fr, e1, e2⟩
      · have c3 : ¬ (x : Int) = c := by omega
        simp (disch := (first | omega | (simp only [lnE] <;> omega) | (refine Fit.mono ‹Fit _ _ _› ?_ <;> (simp only [lnE] <;> omega)) | (refine Fit.draw ‹Fit _ _ _› ?_ ?_ <;> (simp only [lnE] <;> omega)) | (refine Fit.hid1 ‹Fit _ _ _› ?_ ?_ <;> (simp only [lnE] <;> omega)) | (refine Fit.draw1 ‹Fit _ _ _› ?_ ?_ ?_ <;> (simp only [lnE] <;> omega)) | (refine Fit.range0 ?_ ?_ <;> (simp only [lnE] <;> omega)) | fail)) only [syA, syB, argFr, D, E, T, C, undefv, eqF, aeq, sheqs, sheq, rdCells, cellsOf, fill, putAt, if_true, if_false, reduceIte, ↓reduceIte, reduceCtorEq, eq_self, Nat.reduceEqDiff, Nat.reduceAdd, Nat.reduceSub, Nat.reduceMul, Nat.reduceLT, Nat.reduceLeDiff, Nat.reducePow, Nat.reduceDiv, Nat.reduceMod, Int.reduceLT, Int.reduceLE, Int.reduceGT, Int.reduceGE, Int.reduceToNat, Int.reducePow, Int.reduceNeg, Int.reduceBEq, Int.reduceBNe, Int.reduceEq, Int.reduceAdd, Int.reduceSub, Int.reduceMul, cellv, sc, flatv, refs, refsF, refsC, hF.not0, hF.not1, hF.up0, hF.up1, h1, h2, hb, hh, hcell, c1, c2, c3]
        exact ⟨fr, e1, e2⟩
theorem row_walk (hF : Fit hp.length L H) {v : Value} {col : List Nat} {c ix : Nat} (hr : Rd ⟨hp, L, H, []⟩ v col) (hm : col.length ≤ 1048576) (hix : ix ≤ 1048576) :
    Lrun env (.func 70) [v, .int .i64 ix, .int .u8 c] ⟨hp, L, H, d⟩ = some (.int .i64 (rowN col ix c), ⟨hp, L, H, d⟩) := by
  obtain ⟨a, e, rfl⟩ := hr.len
  obtain ⟨fr, e1, e2⟩ := row_loop hF hr hm hix (c := c) col 0 rfl (by omega) 1 (by omega)
  simp only [Int.natCast_zero, Int.natCast_one] at e1
  rw [Lrun_sym 70 _ _ fn70]
  simp (disch := (first | omega | (simp only [lnE] <;> omega) | (refine Fit.mono ‹Fit _ _ _› ?_ <;> (simp only [lnE] <;> omega)) | (refine Fit.draw ‹Fit _ _ _› ?_ ?_ <;> (simp only [lnE] <;> omega)) | (refine Fit.hid1 ‹Fit _ _ _› ?_ ?_ <;> (simp only [lnE] <;> omega)) | (refine Fit.draw1 ‹Fit _ _ _› ?_ ?_ ?_ <;> (simp only [lnE] <;> omega)) | (refine Fit.range0 ?_ ?_ <;> (simp only [lnE] <;> omega)) | fail)) only [syA, syB, argFr, D, E, T, C, undefv, eqF, aeq, sheqs, sheq, rdCells, cellsOf, fill, putAt, if_true, if_false, reduceIte, ↓reduceIte, reduceCtorEq, eq_self, Nat.reduceEqDiff, Nat.reduceAdd, Nat.reduceSub, Nat.reduceMul, Nat.reduceLT, Nat.reduceLeDiff, Nat.reducePow, Nat.reduceDiv, Nat.reduceMod, Int.reduceLT, Int.reduceLE, Int.reduceGT, Int.reduceGE, Int.reduceToNat, Int.reducePow, Int.reduceNeg, Int.reduceBEq, Int.reduceBNe, Int.reduceEq, Int.reduceAdd, Int.reduceSub, Int.reduceMul, cellv, sc, flatv, refs, refsF, refsC, hF.not0, hF.not1, hF.up0, hF.up1, ac70, e1, e2]
  rfl
theorem push_walk (hF : Fit hp.length L H) {v : Value} {col : List Nat} {c ix : Nat} (hr : Rd ⟨hp, L, H, []⟩ v col) (hm : col.length ≤ 100000) (hix : ix ≤ col.length) (hc : c < 256) :
    Lrun env (.func 40) [v, .int .i64 ix, .int .u8 c] ⟨hp, L, H, d⟩ = some (.tuple #[sl hp.length 0 (some (pushC col ix c)), .int .i64 (rowN col ix c), .bool true], ⟨hp ++ slB 0 (some (pushC col ix c)), L, H, d⟩) := by
  have hlen := hr.lenF
  obtain ⟨w, w1, w2⟩ := hr.upto (j := ix) hix
  obtain ⟨u, u1, u2⟩ := hr.from_ (i := ix) hix
  have n1 := fun nw L' d' => (w2.app (nw := nw) (L' := L') (d' := d')).news
  have n2 := fun nw L' d' => (u2.app (nw := nw) (L' := L') (d' := d')).news
  have c1 : ¬ (ix : Int) < 0 := by omega
  have c2 : ¬ (ix : Int) > col.length := by omega
  have c3 : ¬ (col.length : Int) + 1 = 0 := by omega
  have c4 : 0 ≤ (col.length : Int) + 1 ∧ (col.length : Int) + 1 ≤ 1048576 := by omega
  have c8 : col.length + 1 ≤ 1048576 := by omega
  have c5 : ((col.length : Int) + 1).toNat = col.length + 1 := by omega
  have c6 : 0 ≤ (ix : Int) ∧ (ix : Int) < (col.length + 1 : Nat) := by omega
  have c7 : 0 ≤ (ix : Int) + 1 ∧ (ix : Int) + 1 ≤ (col.length + 1 : Nat) := by omega
  have cp1 := fun d' => copy_fresh (hp := hp) (L := L) (H := H) (d := d') (off := 0) (n := col.length + 1) (e := 1) (l := col.take ix) (m := List.replicate (col.length + 1) 0) hF (by simp; omega) (by simp; omega)
  have cp2 := fun d' => copy_fresh (hp := hp) (L := L) (H := H) (d := d') (off := ix + 1) (n := col.length + 1 - (ix + 1)) (e := 1) (l := col.drop ix) (m := (putN (List.replicate (col.length + 1) 0) 0 (col.take ix)).set ix c) hF (by simp [putN]; omega) (by simp)
  have hpl : (putN (List.replicate (col.length + 1) 0) 0 (col.take ix)).length = col.length + 1 := by simp [putN]; omega
  simp only [push_eq hix] at cp2
  have rw1 := row_walk (d := []) (hp := hp ++ [Blk.cells 0 true (u8s (pushC col ix c))]) (c := c) (ix := ix) (hF.mono (by simp)) (hr.app (L' := L) (d' := [])) (by omega) (by omega)
  rw [Lrun_sym 40 _ _ fn40]
  simp (disch := (first | omega | (simp only [lnE] <;> omega) | (refine Fit.mono ‹Fit _ _ _› ?_ <;> (simp only [lnE] <;> omega)) | (refine Fit.draw ‹Fit _ _ _› ?_ ?_ <;> (simp only [lnE] <;> omega)) | (refine Fit.hid1 ‹Fit _ _ _› ?_ ?_ <;> (simp only [lnE] <;> omega)) | (refine Fit.draw1 ‹Fit _ _ _› ?_ ?_ ?_ <;> (simp only [lnE] <;> omega)) | (refine Fit.range0 ?_ ?_ <;> (simp only [lnE] <;> omega)) | fail)) only [syA, syB, argFr, D, E, T, C, undefv, eqF, aeq, sheqs, sheq, rdCells, cellsOf, fill, putAt, if_true, if_false, reduceIte, ↓reduceIte, reduceCtorEq, eq_self, Nat.reduceEqDiff, Nat.reduceAdd, Nat.reduceSub, Nat.reduceMul, Nat.reduceLT, Nat.reduceLeDiff, Nat.reducePow, Nat.reduceDiv, Nat.reduceMod, Int.reduceLT, Int.reduceLE, Int.reduceGT, Int.reduceGE, Int.reduceToNat, Int.reducePow, Int.reduceNeg, Int.reduceBEq, Int.reduceBNe, Int.reduceEq, Int.reduceAdd, Int.reduceSub, Int.reduceMul, cellv, sc, flatv, refs, refsF, refsC, hF.not0, hF.not1, hF.up0, hF.up1, ac40, hlen, c1, c2, c3, c4, c5, c6, c7, c8, hix, Int.le_refl, Nat.one_mul, w1, u1, n1, n2, flat_zero, cp1, u8s_set, hpl, cp2, rw1]
  rw [gc_keep 0 rfl (by simp [refs, refsF, refsC]) (by simp [refs, refsF, refsC])]
  simp (disch := (first | omega | (simp only [lnE] <;> omega) | (refine Fit.mono ‹Fit _ _ _› ?_ <;> (simp only [lnE] <;> omega)) | (refine Fit.draw ‹Fit _ _ _› ?_ ?_ <;> (simp only [lnE] <;> omega)) | (refine Fit.hid1 ‹Fit _ _ _› ?_ ?_ <;> (simp only [lnE] <;> omega)) | (refine Fit.draw1 ‹Fit _ _ _› ?_ ?_ ?_ <;> (simp only [lnE] <;> omega)) | (refine Fit.range0 ?_ ?_ <;> (simp only [lnE] <;> omega)) | fail)) only [syA, syB, argFr, D, E, T, C, undefv, eqF, aeq, sheqs, sheq, rdCells, cellsOf, fill, putAt, if_true, if_false, reduceIte, ↓reduceIte, reduceCtorEq, eq_self, Nat.reduceEqDiff, Nat.reduceAdd, Nat.reduceSub, Nat.reduceMul, Nat.reduceLT, Nat.reduceLeDiff, Nat.reducePow, Nat.reduceDiv, Nat.reduceMod, Int.reduceLT, Int.reduceLE, Int.reduceGT, Int.reduceGE, Int.reduceToNat, Int.reducePow, Int.reduceNeg, Int.reduceBEq, Int.reduceBNe, Int.reduceEq, Int.reduceAdd, Int.reduceSub, Int.reduceMul, cellv, sc, flatv, refs, refsF, refsC, hF.not0, hF.not1, hF.up0, hF.up1, ren, renF, renC, one_new0, List.map_cons, List.map_nil, sl_some, slB_some, pushC_length]
end
end ArA
end Go.Proofs.Ytfefeikkjebfoaa
