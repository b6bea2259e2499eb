/-
  THE ARENA: spans lie apart, run on the abstract machine. Conditions: none.
-/
import Derived.Test.YtfefeikkjebfoaaArAp
set_option linter.all false
namespace Go.Proofs.Ytfefeikkjebfoaa
namespace ArA
open Go Go.RowKit AM ArEnv

theorem gc_true (base : Nat) (h : List Blk) (L : Nat) (H : List Nat) (b : Bool) : gc base [.bool b] ⟨h, L, H, []⟩ = some ([.bool b], ⟨if h.length ≤ base then h else h.take base, L, H, []⟩) := by
  unfold gc
  split
  · rfl
  · rfl
theorem zs0_set {tt at0 : Nat} {i : Int} {n : Nat} {c : Nat} (hT : tt ≤ 2000) (h : at0 + n ≤ tt) :
    (zs0 tt).part at0 n i 1 = decide (0 ≤ i ∧ i < (n : Int)) ∧ (zs0 tt).setByte at0 n i c = Arn.laid 2000 (afterB tt at0 (decide (0 ≤ i ∧ i < (n : Int))) i c) := by
  have hp : (zs0 tt).part at0 n i 1 = decide (0 ≤ i ∧ i < (n : Int)) := by
    rw [Bool.eq_iff_iff, Arn.part_iff, decide_eq_true_eq]
    have : (zs0 tt).live = tt := by simp [zs0, Arn.laid]
    rw [this]; omega
  refine ⟨hp, ?_⟩
  unfold Arn.setByte
  rw [hp]
  by_cases hi : 0 ≤ i ∧ i < (n : Int)
  · rw [if_pos (by simpa using hi)]
    unfold afterB
    rw [decide_eq_true hi, if_pos rfl]
    unfold Arn.setAt zs0 Arn.laid
    have e : ((at0 : Int) + i).toNat = at0 + i.toNat := by omega
    have hl : at0 + i.toNat < tt := by omega
    simp only [e, List.length_replicate, List.length_set]
    congr 1
    rw [← List.set_append_left _ _ (by simpa using hl)]
    apply List.ext_getElem?
    intro m
    rw [putN_get (by simp; omega), List.getElem?_set]
    simp only [List.length_cons, List.length_nil, Nat.zero_add]
    by_cases hm : at0 + i.toNat = m
    · subst hm
      rw [if_pos (by omega), if_pos rfl, if_pos (by simp; omega), Nat.sub_self]; rfl
    · rw [if_neg (by omega), if_neg hm]
  · rw [if_neg (by simpa using hi)]
    unfold afterB
    rw [decide_eq_false hi, if_neg (by simp)]
    rfl
theorem apart_run {hp : List Blk} {b : Nat} {zs : List Int} (hb : hp[b]? = some (.cells 0 true (zs.map (Value.int .i64)))) (wh : Int) (hw0 : -9223372036854775808 ≤ wh) (hw1 : wh ≤ 9223372036854775807) (i : Int) (hi0 : -9223372036854775808 ≤ i) (hi1 : i ≤ 9223372036854775807) (c : Nat) (hc : c < 256) :
    ∃ σ', Lrun env (.func 6) [.slice (some ⟨b, 0, some 0⟩) zs.length 0, .int .i64 wh, .int .i64 i, .int .u8 c] ⟨hp, hp.length, [], []⟩ = some (.bool true, σ') := by
  have hF : Fit hp.length hp.length [] := ⟨Nat.le_refl _, Low.nil _⟩
  rw [Lrun_sym 6 _ _ fn6]
  by_cases h0 : (zs.length : Int) > 20
  · simp (disch := (first | omega | (simp only [lnE] <;> omega) | (refine Fit.mono ‹Fit _ _ _› ?_; simp only [lnE] <;> omega) | (refine Fit.draw ‹Fit _ _ _› ?_ ?_ <;> (simp only [lnE] <;> omega)) | (refine Fit.hid1 ‹Fit _ _ _› ?_ ?_ <;> (simp only [lnE] <;> omega)) | (refine Fit.draw1 ‹Fit _ _ _› ?_ ?_ ?_ <;> (simp only [lnE] <;> omega)) | (refine Fit.range0 ?_ ?_ <;> (simp only [lnE] <;> omega)) | fail)) only [syA, List.isEmpty_nil, List.isEmpty_cons, List.nil_append, argFr, D, E, T, C, undefv, eqF, aeq, sheqs, sheq, Option.isNone_none, Option.isNone_some, Option.getD_some, Option.getD_none, rdCells, cellsOf, fill, putAt, if_true, if_false, reduceIte, ↓reduceIte, reduceCtorEq, decide_true, decide_false, decide_eq_true_eq, decide_eq_false_iff_not, decide_not, Bool.not_true, Bool.not_false, Bool.not_not, Bool.not_eq_true', Bool.and_true, Bool.true_and, Bool.and_false, Bool.false_and, Bool.and_self, Bool.or_true, Bool.true_or, Bool.or_false, Bool.false_or, Bool.or_self, Bool.false_eq_true, Bool.and_eq_true, Bool.or_eq_true, and_true, true_and, and_false, false_and, or_true, true_or, or_false, false_or, not_true_eq_false, not_false_eq_true, eq_self, Option.map_some, Option.map_none, Option.bind_some, Option.bind_none, Nat.reduceEqDiff, Nat.reduceAdd, Nat.reduceSub, Nat.reduceMul, Nat.reduceLT, Nat.reduceLeDiff, Nat.reducePow, Nat.testBit_eq_decide_div_mod_eq, Nat.reduceDiv, Nat.reduceMod, Nat.zero_add, Nat.add_zero, Nat.sub_self, Nat.le_refl, Nat.lt_irrefl, Nat.mul_one, Int.mul_one, Int.one_mul, Int.sub_zero, Int.add_zero, Int.zero_add, Int.reduceLT, Int.reduceLE, Int.reduceGT, Int.reduceGE, Int.reduceToNat, Int.reducePow, Int.reduceNeg, Int.reduceBEq, Int.reduceBNe, Int.reduceEq, Int.reduceAdd, Int.reduceSub, Int.reduceMul, beq_iff_eq, bne_iff_ne, bne_self_eq_false, bne_eq_false_iff_eq, beq_eq_false_iff_ne, ne_eq, beq_self_eq_true, List.all_cons, List.all_nil, cellv, sc, flatv, refs, refsF, refsC, List.flatMap_cons, List.flatMap_nil, List.append_nil, List.append_assoc, List.cons_append, List.length_append, List.length_set, Int.cast_ofNat_Int, List.length_cons, List.length_nil, List.getElem?_cons_zero, List.getElem?_cons_succ, List.set_cons_zero, List.set_cons_succ, List.take_succ_cons, List.take_zero, List.drop_zero, List.drop_succ_cons, List.contains_nil, Int.toNat_natCast, Int.lt_irrefl, Nat.min_eq_left, Nat.min_eq_right, hF.not0, hF.not1, hF.up0, hF.up1, ac6, h0, wakes_walk]
    exact ⟨_, rfl⟩
  by_cases h1 : (zs.length : Int) = 0
  · simp (disch := (first | omega | (simp only [lnE] <;> omega) | (refine Fit.mono ‹Fit _ _ _› ?_; simp only [lnE] <;> omega) | (refine Fit.draw ‹Fit _ _ _› ?_ ?_ <;> (simp only [lnE] <;> omega)) | (refine Fit.hid1 ‹Fit _ _ _› ?_ ?_ <;> (simp only [lnE] <;> omega)) | (refine Fit.draw1 ‹Fit _ _ _› ?_ ?_ ?_ <;> (simp only [lnE] <;> omega)) | (refine Fit.range0 ?_ ?_ <;> (simp only [lnE] <;> omega)) | fail)) only [syA, List.isEmpty_nil, List.isEmpty_cons, List.nil_append, argFr, D, E, T, C, undefv, eqF, aeq, sheqs, sheq, Option.isNone_none, Option.isNone_some, Option.getD_some, Option.getD_none, rdCells, cellsOf, fill, putAt, if_true, if_false, reduceIte, ↓reduceIte, reduceCtorEq, decide_true, decide_false, decide_eq_true_eq, decide_eq_false_iff_not, decide_not, Bool.not_true, Bool.not_false, Bool.not_not, Bool.not_eq_true', Bool.and_true, Bool.true_and, Bool.and_false, Bool.false_and, Bool.and_self, Bool.or_true, Bool.true_or, Bool.or_false, Bool.false_or, Bool.or_self, Bool.false_eq_true, Bool.and_eq_true, Bool.or_eq_true, and_true, true_and, and_false, false_and, or_true, true_or, or_false, false_or, not_true_eq_false, not_false_eq_true, eq_self, Option.map_some, Option.map_none, Option.bind_some, Option.bind_none, Nat.reduceEqDiff, Nat.reduceAdd, Nat.reduceSub, Nat.reduceMul, Nat.reduceLT, Nat.reduceLeDiff, Nat.reducePow, Nat.testBit_eq_decide_div_mod_eq, Nat.reduceDiv, Nat.reduceMod, Nat.zero_add, Nat.add_zero, Nat.sub_self, Nat.le_refl, Nat.lt_irrefl, Nat.mul_one, Int.mul_one, Int.one_mul, Int.sub_zero, Int.add_zero, Int.zero_add, Int.reduceLT, Int.reduceLE, Int.reduceGT, Int.reduceGE, Int.reduceToNat, Int.reducePow, Int.reduceNeg, Int.reduceBEq, Int.reduceBNe, Int.reduceEq, Int.reduceAdd, Int.reduceSub, Int.reduceMul, beq_iff_eq, bne_iff_ne, bne_self_eq_false, bne_eq_false_iff_eq, beq_eq_false_iff_ne, ne_eq, beq_self_eq_true, List.all_cons, List.all_nil, cellv, sc, flatv, refs, refsF, refsC, List.flatMap_cons, List.flatMap_nil, List.append_nil, List.append_assoc, List.cons_append, List.length_append, List.length_set, Int.cast_ofNat_Int, List.length_cons, List.length_nil, List.getElem?_cons_zero, List.getElem?_cons_succ, List.set_cons_zero, List.set_cons_succ, List.take_succ_cons, List.take_zero, List.drop_zero, List.drop_succ_cons, List.contains_nil, Int.toNat_natCast, Int.lt_irrefl, Nat.min_eq_left, Nat.min_eq_right, hF.not0, hF.not1, hF.up0, hF.up1, ac6, h0, h1, wakes_walk]
    exact ⟨_, rfl⟩
  have hl : (zs.map cl).length = zs.length := by simp
  have h100 : ∀ n ∈ zs.map cl, n ≤ 100 := fun n hn => by obtain ⟨z, _, rfl⟩ := List.mem_map.1 hn; exact cl_le z
  obtain ⟨fr, e1, e2, e3, e4, e5, e6, e7⟩ := apart_take hb (by omega) (c := c) (i := i) (wh := wh) zs.length 0 (by omega)
  obtain ⟨w, hwd⟩ : ∃ w : Nat, min (max wh 0) ((zs.length : Int) - 1) = w := ⟨(min (max wh 0) ((zs.length : Int) - 1)).toNat, by omega⟩
  have hwl : w < zs.length := by omega
  have hT := tot_le h100 zs.length (by omega)
  have hts := tot_succ (ns := zs.map cl) (k := w) (by omega)
  have htm := tot_mono' (ns := zs.map cl) (j := w + 1) (k := zs.length) (by omega) (by omega)
  have hgd : (zs.map cl).getD w 0 = (zs.map cl)[w]'(by omega) := by rw [List.getD_eq_getElem?_getD, List.getElem?_eq_getElem (by omega)]; rfl
  obtain ⟨hs1, hs2⟩ := zs0_set (tt := tot (zs.map cl) zs.length) (at0 := tot (zs.map cl) w) (i := i) (n := (zs.map cl).getD w 0) (c := c) (by omega) (by omega)
  obtain ⟨fr2, f1, f2, f3⟩ := apart_check (hp := hp) (ns := zs.map cl) (w := w) (c := c) (ok := decide (0 ≤ i ∧ i < ((zs.map cl).getD w 0 : Nat))) (i := i) h100 (by omega) (by omega) (by omega) hc (fun h => by simpa using h) (zs.map cl).length 0 (by omega)
  rw [hl] at f1 f3
  have hBn : spB (zs.map cl) zs.length = [.cells (zs.length * 2) true (spC (zs.map cl) zs.length)] := if_neg (by omega)
  have hVn : spV (hp.length + 2) zs.length = .slice (some ⟨hp.length + 2, 0, some (zs.length * 2)⟩) zs.length 2 := if_neg (by omega)
  have hB0 : spB (zs.map cl) 0 = [] := rfl
  have hV0 : spV (hp.length + 2) 0 = .slice none 0 0 := rfl
  rw [hBn] at e1
  rw [hVn] at e6
  have hz0 : zs0 (tot (zs.map cl) 0) = Arn.new 2000 := by rw [tot_zero]; unfold zs0; rw [new_laid]; rfl
  rw [hB0, hV0, hz0, tot_zero] at e1
  simp only [Int.natCast_zero] at e1 f1
  have hok : ∀ A : Arn, ArOk (hp.length + 2) hp.length (hp.length + 1) [] A → ∀ B, ArOk (hp ++ [default, default, B]).length hp.length (hp.length + 1) [] A := fun A k B => k.mono (by simp)
  have k0 : ArOk (hp.length + 2) hp.length (hp.length + 1) [] (zs0 (tot (zs.map cl) zs.length)) := ArOk.laid (by omega) (by omega) (by omega) (fun x hx => by rw [List.mem_replicate] at hx; omega) (by simp; omega) (by omega) rfl rfl
  have k2 : ArOk (hp.length + 2) hp.length (hp.length + 1) [] (Arn.laid 2000 (afterB (tot (zs.map cl) zs.length) (tot (zs.map cl) w) (decide (0 ≤ i ∧ i < ((zs.map cl).getD w 0 : Nat))) i c)) := ArOk.laid (by omega) (by omega) (by omega) (afterB_by hc) (by rw [afterB_len]; omega) (by omega) rfl rfl
  have sb := fun B => setByte_walk (d := []) (L := hp.length) (H := []) (hp := hp ++ [default, default, B]) (r := hp.length) (q := hp.length + 1) (hF.mono (by simp)) (hok _ k0 B) (by omega) (tot (zs.map cl) w : Nat) ((zs.map cl).getD w 0 : Nat) i c hc
  simp only [hs1, hs2] at sb
  have mw := fun B => mark_walk (d := []) (L := hp.length) (H := []) (hp := hp ++ [default, default, B]) (r := hp.length) (q := hp.length + 1) (hF.mono (by simp)) (hok _ k2 B)
  have pw := fun B => peak_walk (d := []) (L := hp.length) (H := []) (hp := hp ++ [default, default, B]) (r := hp.length) (q := hp.length + 1) (hF.mono (by simp)) (hok _ k2 B)
  have lw := fun B => left_walk (d := []) (L := hp.length) (H := []) (hp := hp ++ [default, default, B]) (r := hp.length) (q := hp.length + 1) (hF.mono (by simp)) (hok _ k2 B)
  have q1 : (Arn.laid 2000 (afterB (tot (zs.map cl) zs.length) (tot (zs.map cl) w) (decide (0 ≤ i ∧ i < ((zs.map cl).getD w 0 : Nat))) i c)).live = tot (zs.map cl) zs.length := by rw [laid_live, afterB_len]
  have q2 : (Arn.laid 2000 (afterB (tot (zs.map cl) zs.length) (tot (zs.map cl) w) (decide (0 ≤ i ∧ i < ((zs.map cl).getD w 0 : Nat))) i c)).peak = tot (zs.map cl) zs.length := by unfold Arn.laid; rw [afterB_len]
  have q3 : (Arn.laid 2000 (afterB (tot (zs.map cl) zs.length) (tot (zs.map cl) w) (decide (0 ≤ i ∧ i < ((zs.map cl).getD w 0 : Nat))) i c)).bs.length = 2000 := laid_len (by rw [afterB_len]; omega)
  simp only [q1] at mw
  simp only [q2] at pw
  simp only [q1, q3] at lw
  have hk1 := spC_at (ns := zs.map cl) hwl
  have hk2 := spC_len_at (ns := zs.map cl) hwl
  have hk3 := spC_row (ns := zs.map cl) hwl
  have hsl := spC_len (zs.map cl) zs.length
  have h3 : 0 ≤ (w : Int) ∧ (w : Int) < zs.length := by omega
  have h4 : w * 2 + 2 ≤ zs.length * 2 := by omega
  generalize Arn.laid 2000 (afterB (tot (zs.map cl) zs.length) (tot (zs.map cl) w) (decide (0 ≤ i ∧ i < ((zs.map cl).getD w 0 : Nat))) i c) = A2 at *
  generalize zs0 (tot (zs.map cl) zs.length) = A1 at *
  have hle : tot (zs.map cl) zs.length ≤ 2000 := by omega
  by_cases p1 : i ≥ 0
  · by_cases p2 : i < ((zs.map cl).getD w 0 : Nat)
    · have hd : decide (0 ≤ i ∧ i < ((zs.map cl).getD w 0 : Nat)) = true := by simp only [decide_eq_true_eq]; omega
      rw [hd] at f1
      simp only [hd] at sb
      simp (disch := (first | omega | (simp only [lnE, put_length] <;> omega) | (refine Fit.mono ‹Fit _ _ _› ?_; simp only [lnE, put_length] <;> omega) | (refine Fit.draw ‹Fit _ _ _› ?_ ?_ <;> (simp only [lnE, put_length] <;> omega)) | (refine Fit.hid1 ‹Fit _ _ _› ?_ ?_ <;> (simp only [lnE, put_length] <;> omega)) | (refine Fit.draw1 ‹Fit _ _ _› ?_ ?_ ?_ <;> (simp only [lnE, put_length] <;> omega)) | (refine Fit.range0 ?_ ?_ <;> (simp only [lnE, put_length] <;> omega)) | (refine ArOk.mono ‹ArOk _ _ _ _ _› ?_; simp only [lnE, put_length] <;> omega) | (refine ArOk.hid ‹ArOk _ _ _ _ _› ?_ ?_ <;> (simp only [lnE, put_length] <;> omega)) | (refine ArOk.hid0 ‹ArOk _ _ _ _ _› ?_ ?_ <;> (simp only [lnE, put_length] <;> omega)) | (intro xr hxr; simp [AM.refs, refsF, refsC] at hxr; simp only [lnE, put_length] <;> omega) | fail)) only [syA, List.isEmpty_nil, List.isEmpty_cons, List.nil_append, argFr, D, E, T, C, undefv, eqF, aeq, sheqs, sheq, Option.isNone_none, Option.isNone_some, Option.getD_some, Option.getD_none, rdCells, cellsOf, fill, putAt, if_true, if_false, reduceIte, ↓reduceIte, reduceCtorEq, decide_true, decide_false, decide_eq_true_eq, decide_eq_false_iff_not, decide_not, Bool.not_true, Bool.not_false, Bool.not_not, Bool.not_eq_true', Bool.and_true, Bool.true_and, Bool.and_false, Bool.false_and, Bool.and_self, Bool.or_true, Bool.true_or, Bool.or_false, Bool.false_or, Bool.or_self, Bool.false_eq_true, Bool.and_eq_true, Bool.or_eq_true, and_true, true_and, and_false, false_and, or_true, true_or, or_false, false_or, not_true_eq_false, not_false_eq_true, eq_self, Option.map_some, Option.map_none, Option.bind_some, Option.bind_none, Nat.reduceEqDiff, Nat.reduceAdd, Nat.reduceSub, Nat.reduceMul, Nat.reduceLT, Nat.reduceLeDiff, Nat.reducePow, Nat.testBit_eq_decide_div_mod_eq, Nat.reduceDiv, Nat.reduceMod, Nat.zero_add, Nat.add_zero, Nat.sub_self, Nat.le_refl, Nat.lt_irrefl, Nat.mul_one, Int.mul_one, Int.one_mul, Int.sub_zero, Int.add_zero, Int.zero_add, Int.reduceLT, Int.reduceLE, Int.reduceGT, Int.reduceGE, Int.reduceToNat, Int.reducePow, Int.reduceNeg, Int.reduceBEq, Int.reduceBNe, Int.reduceEq, Int.reduceAdd, Int.reduceSub, Int.reduceMul, beq_iff_eq, bne_iff_ne, bne_self_eq_false, bne_eq_false_iff_eq, beq_eq_false_iff_ne, ne_eq, beq_self_eq_true, List.all_cons, List.all_nil, cellv, sc, flatv, refs, refsF, refsC, List.flatMap_cons, List.flatMap_nil, List.append_nil, List.append_assoc, List.cons_append, List.length_append, List.length_set, Int.cast_ofNat_Int, List.length_cons, List.length_nil, List.getElem?_cons_zero, List.getElem?_cons_succ, List.set_cons_zero, List.set_cons_succ, List.take_succ_cons, List.take_zero, List.drop_zero, List.drop_succ_cons, List.contains_nil, Int.toNat_natCast, Int.lt_irrefl, Nat.min_eq_left, Nat.min_eq_right, syR, Int.le_refl, hF.not0, hF.not1, hF.up0, hF.up1, ac6, h0, h1, new_walk, e1, e2, e3, e4, e5, e6, e7, hwd, h3, h4, hk1, hk2, hk3, hsl, spR, sb, mw, pw, lw, f1, f2, f3, wakes_walk, gc_true, hle, p1, p2]
      exact ⟨_, rfl⟩
    · have hd : decide (0 ≤ i ∧ i < ((zs.map cl).getD w 0 : Nat)) = false := by simp only [decide_eq_false_iff_not]; omega
      rw [hd] at f1
      simp only [hd] at sb
      simp (disch := (first | omega | (simp only [lnE, put_length] <;> omega) | (refine Fit.mono ‹Fit _ _ _› ?_; simp only [lnE, put_length] <;> omega) | (refine Fit.draw ‹Fit _ _ _› ?_ ?_ <;> (simp only [lnE, put_length] <;> omega)) | (refine Fit.hid1 ‹Fit _ _ _› ?_ ?_ <;> (simp only [lnE, put_length] <;> omega)) | (refine Fit.draw1 ‹Fit _ _ _› ?_ ?_ ?_ <;> (simp only [lnE, put_length] <;> omega)) | (refine Fit.range0 ?_ ?_ <;> (simp only [lnE, put_length] <;> omega)) | (refine ArOk.mono ‹ArOk _ _ _ _ _› ?_; simp only [lnE, put_length] <;> omega) | (refine ArOk.hid ‹ArOk _ _ _ _ _› ?_ ?_ <;> (simp only [lnE, put_length] <;> omega)) | (refine ArOk.hid0 ‹ArOk _ _ _ _ _› ?_ ?_ <;> (simp only [lnE, put_length] <;> omega)) | (intro xr hxr; simp [AM.refs, refsF, refsC] at hxr; simp only [lnE, put_length] <;> omega) | fail)) only [syA, List.isEmpty_nil, List.isEmpty_cons, List.nil_append, argFr, D, E, T, C, undefv, eqF, aeq, sheqs, sheq, Option.isNone_none, Option.isNone_some, Option.getD_some, Option.getD_none, rdCells, cellsOf, fill, putAt, if_true, if_false, reduceIte, ↓reduceIte, reduceCtorEq, decide_true, decide_false, decide_eq_true_eq, decide_eq_false_iff_not, decide_not, Bool.not_true, Bool.not_false, Bool.not_not, Bool.not_eq_true', Bool.and_true, Bool.true_and, Bool.and_false, Bool.false_and, Bool.and_self, Bool.or_true, Bool.true_or, Bool.or_false, Bool.false_or, Bool.or_self, Bool.false_eq_true, Bool.and_eq_true, Bool.or_eq_true, and_true, true_and, and_false, false_and, or_true, true_or, or_false, false_or, not_true_eq_false, not_false_eq_true, eq_self, Option.map_some, Option.map_none, Option.bind_some, Option.bind_none, Nat.reduceEqDiff, Nat.reduceAdd, Nat.reduceSub, Nat.reduceMul, Nat.reduceLT, Nat.reduceLeDiff, Nat.reducePow, Nat.testBit_eq_decide_div_mod_eq, Nat.reduceDiv, Nat.reduceMod, Nat.zero_add, Nat.add_zero, Nat.sub_self, Nat.le_refl, Nat.lt_irrefl, Nat.mul_one, Int.mul_one, Int.one_mul, Int.sub_zero, Int.add_zero, Int.zero_add, Int.reduceLT, Int.reduceLE, Int.reduceGT, Int.reduceGE, Int.reduceToNat, Int.reducePow, Int.reduceNeg, Int.reduceBEq, Int.reduceBNe, Int.reduceEq, Int.reduceAdd, Int.reduceSub, Int.reduceMul, beq_iff_eq, bne_iff_ne, bne_self_eq_false, bne_eq_false_iff_eq, beq_eq_false_iff_ne, ne_eq, beq_self_eq_true, List.all_cons, List.all_nil, cellv, sc, flatv, refs, refsF, refsC, List.flatMap_cons, List.flatMap_nil, List.append_nil, List.append_assoc, List.cons_append, List.length_append, List.length_set, Int.cast_ofNat_Int, List.length_cons, List.length_nil, List.getElem?_cons_zero, List.getElem?_cons_succ, List.set_cons_zero, List.set_cons_succ, List.take_succ_cons, List.take_zero, List.drop_zero, List.drop_succ_cons, List.contains_nil, Int.toNat_natCast, Int.lt_irrefl, Nat.min_eq_left, Nat.min_eq_right, syR, Int.le_refl, hF.not0, hF.not1, hF.up0, hF.up1, ac6, h0, h1, new_walk, e1, e2, e3, e4, e5, e6, e7, hwd, h3, h4, hk1, hk2, hk3, hsl, spR, sb, mw, pw, lw, f1, f2, f3, wakes_walk, gc_true, hle, p1, p2]
      exact ⟨_, rfl⟩
  · have hd : decide (0 ≤ i ∧ i < ((zs.map cl).getD w 0 : Nat)) = false := by simp only [decide_eq_false_iff_not]; omega
    rw [hd] at f1
    simp only [hd] at sb
    simp (disch := (first | omega | (simp only [lnE, put_length] <;> omega) | (refine Fit.mono ‹Fit _ _ _› ?_; simp only [lnE, put_length] <;> omega) | (refine Fit.draw ‹Fit _ _ _› ?_ ?_ <;> (simp only [lnE, put_length] <;> omega)) | (refine Fit.hid1 ‹Fit _ _ _› ?_ ?_ <;> (simp only [lnE, put_length] <;> omega)) | (refine Fit.draw1 ‹Fit _ _ _› ?_ ?_ ?_ <;> (simp only [lnE, put_length] <;> omega)) | (refine Fit.range0 ?_ ?_ <;> (simp only [lnE, put_length] <;> omega)) | (refine ArOk.mono ‹ArOk _ _ _ _ _› ?_; simp only [lnE, put_length] <;> omega) | (refine ArOk.hid ‹ArOk _ _ _ _ _› ?_ ?_ <;> (simp only [lnE, put_length] <;> omega)) | (refine ArOk.hid0 ‹ArOk _ _ _ _ _› ?_ ?_ <;> (simp only [lnE, put_length] <;> omega)) | (intro xr hxr; simp [AM.refs, refsF, refsC] at hxr; simp only [lnE, put_length] <;> omega) | fail)) only [syA, List.isEmpty_nil, List.isEmpty_cons, List.nil_append, argFr, D, E, T, C, undefv, eqF, aeq, sheqs, sheq, Option.isNone_none, Option.isNone_some, Option.getD_some, Option.getD_none, rdCells, cellsOf, fill, putAt, if_true, if_false, reduceIte, ↓reduceIte, reduceCtorEq, decide_true, decide_false, decide_eq_true_eq, decide_eq_false_iff_not, decide_not, Bool.not_true, Bool.not_false, Bool.not_not, Bool.not_eq_true', Bool.and_true, Bool.true_and, Bool.and_false, Bool.false_and, Bool.and_self, Bool.or_true, Bool.true_or, Bool.or_false, Bool.false_or, Bool.or_self, Bool.false_eq_true, Bool.and_eq_true, Bool.or_eq_true, and_true, true_and, and_false, false_and, or_true, true_or, or_false, false_or, not_true_eq_false, not_false_eq_true, eq_self, Option.map_some, Option.map_none, Option.bind_some, Option.bind_none, Nat.reduceEqDiff, Nat.reduceAdd, Nat.reduceSub, Nat.reduceMul, Nat.reduceLT, Nat.reduceLeDiff, Nat.reducePow, Nat.testBit_eq_decide_div_mod_eq, Nat.reduceDiv, Nat.reduceMod, Nat.zero_add, Nat.add_zero, Nat.sub_self, Nat.le_refl, Nat.lt_irrefl, Nat.mul_one, Int.mul_one, Int.one_mul, Int.sub_zero, Int.add_zero, Int.zero_add, Int.reduceLT, Int.reduceLE, Int.reduceGT, Int.reduceGE, Int.reduceToNat, Int.reducePow, Int.reduceNeg, Int.reduceBEq, Int.reduceBNe, Int.reduceEq, Int.reduceAdd, Int.reduceSub, Int.reduceMul, beq_iff_eq, bne_iff_ne, bne_self_eq_false, bne_eq_false_iff_eq, beq_eq_false_iff_ne, ne_eq, beq_self_eq_true, List.all_cons, List.all_nil, cellv, sc, flatv, refs, refsF, refsC, List.flatMap_cons, List.flatMap_nil, List.append_nil, List.append_assoc, List.cons_append, List.length_append, List.length_set, Int.cast_ofNat_Int, List.length_cons, List.length_nil, List.getElem?_cons_zero, List.getElem?_cons_succ, List.set_cons_zero, List.set_cons_succ, List.take_succ_cons, List.take_zero, List.drop_zero, List.drop_succ_cons, List.contains_nil, Int.toNat_natCast, Int.lt_irrefl, Nat.min_eq_left, Nat.min_eq_right, syR, Int.le_refl, hF.not0, hF.not1, hF.up0, hF.up1, ac6, h0, h1, new_walk, e1, e2, e3, e4, e5, e6, e7, hwd, h3, h4, hk1, hk2, hk3, hsl, spR, sb, mw, pw, lw, f1, f2, f3, wakes_walk, gc_true, hle, p1]
    exact ⟨_, rfl⟩
end ArA
end Go.Proofs.Ytfefeikkjebfoaa
