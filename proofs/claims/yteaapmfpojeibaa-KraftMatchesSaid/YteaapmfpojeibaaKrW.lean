/-
  KRAFT SUMS: the chapter's examples on the abstract machine. Conditions: none.
-/
import Derived.Test.YteaapmfpojeibaaKrA
set_option linter.all false
namespace Go.Proofs.Yteaapmfpojeibaa
namespace KrA
open Go Go.RowKit AM KrEnv

section
variable {hp : List Blk} {L : Nat} {H d : List Nat}
def diffX (o n : Nat) (σ : St) : Option (Bool × List Value) → Option (Value × St)
  | some (_, cs) => if n ≤ 1048576 then (rowsOf n (cs.drop o)).map fun ls => (.int .i64 (kDiff ls), σ) else none
  | none => none
theorem aop_native {callf : CallF} (k : Fr → St → Option Value) (fr : Fr) (σ : St) : aop callf (.native k) fr σ = retX σ (k fr σ) := by
  simp only [aop]; cases k fr σ <;> rfl
theorem diff_sym (b o : Nat) (s : Option Nat) (n e : Nat) : Lrun env (.func 37) [.slice (some ⟨b, o, s⟩) n e] ⟨hp, L, H, d⟩ = diffX o n ⟨hp, L, H, d⟩ (St.blk ⟨hp, L, H, []⟩ ⟨b, o, s⟩) := by
  rw [Lrun_sym 37 _ _ fn37]
  have hk : diffK [(0, .slice (some ⟨b, o, s⟩) n e)] ⟨hp, L, H, []⟩ = (St.blk ⟨hp, L, H, []⟩ ⟨b, o, s⟩).bind fun p => if n ≤ 1048576 then (rowsOf n (p.2.drop o)).map fun ls => .int .i64 (kDiff ls) else none := rfl
  cases hb : St.blk ⟨hp, L, H, []⟩ ⟨b, o, s⟩ with
  | none =>
    rw [hb, Option.bind_none] at hk
    simp (disch := (first | omega | (simp only [lnE] <;> omega) | (refine Fit.mono ‹Fit _ _ _› ?_; simp only [lnE] <;> omega) | (refine Fit.draw ‹Fit _ _ _› ?_ ?_ <;> (simp only [lnE] <;> omega)) | (refine Fit.hid1 ‹Fit _ _ _› ?_ ?_ <;> (simp only [lnE] <;> omega)) | (refine Fit.draw1 ‹Fit _ _ _› ?_ ?_ ?_ <;> (simp only [lnE] <;> omega)) | (refine Fit.range0 ?_ ?_ <;> (simp only [lnE] <;> omega)) | fail)) only [syA, List.isEmpty_nil, List.isEmpty_cons, List.nil_append, argFr, D, E, T, C, undefv, eqF, aeq, sheqs, sheq, Option.isNone_none, Option.isNone_some, Option.getD_some, Option.getD_none, rdCells, cellsOf, fill, putAt, if_true, if_false, reduceIte, ↓reduceIte, reduceCtorEq, decide_true, decide_false, decide_eq_true_eq, decide_eq_false_iff_not, decide_not, Bool.not_true, Bool.not_false, Bool.not_not, Bool.not_eq_true', Bool.and_true, Bool.true_and, Bool.and_false, Bool.false_and, Bool.and_self, Bool.or_true, Bool.true_or, Bool.or_false, Bool.false_or, Bool.or_self, Bool.false_eq_true, Bool.and_eq_true, Bool.or_eq_true, and_true, true_and, and_false, false_and, or_true, true_or, or_false, false_or, not_true_eq_false, not_false_eq_true, eq_self, Option.map_some, Option.map_none, Option.bind_some, Option.bind_none, Nat.reduceEqDiff, Nat.reduceAdd, Nat.reduceSub, Nat.reduceMul, Nat.reduceLT, Nat.reduceLeDiff, Nat.reducePow, Nat.testBit_eq_decide_div_mod_eq, Nat.reduceDiv, Nat.reduceMod, Nat.zero_add, Nat.add_zero, Nat.sub_self, Nat.le_refl, Nat.lt_irrefl, Nat.mul_one, Int.mul_one, Int.one_mul, Int.sub_zero, Int.add_zero, Int.zero_add, Int.reduceLT, Int.reduceLE, Int.reduceGT, Int.reduceGE, Int.reduceToNat, Int.reducePow, Int.reduceNeg, Int.reduceBEq, Int.reduceBNe, Int.reduceEq, Int.reduceAdd, Int.reduceSub, Int.reduceMul, beq_iff_eq, bne_iff_ne, bne_self_eq_false, bne_eq_false_iff_eq, beq_eq_false_iff_ne, ne_eq, beq_self_eq_true, List.all_cons, List.all_nil, cellv, sc, flatv, refs, refsF, refsC, List.flatMap_cons, List.flatMap_nil, List.append_nil, List.append_assoc, List.cons_append, List.length_append, List.length_set, Int.cast_ofNat_Int, List.length_cons, List.length_nil, List.getElem?_cons_zero, List.getElem?_cons_succ, List.set_cons_zero, List.set_cons_succ, List.take_succ_cons, List.take_zero, List.drop_zero, List.drop_succ_cons, List.contains_nil, Int.toNat_natCast, Int.lt_irrefl, Nat.min_eq_left, Nat.min_eq_right, natFn, aop_native, hk]
    simp only [diffX, normX, opX, retX, thenX, finX]
  | some p =>
    obtain ⟨pl, cs⟩ := p
    rw [hb, Option.bind_some] at hk
    by_cases hn : n ≤ 1048576
    · rw [if_pos hn] at hk
      simp only at hk
      cases hr : rowsOf n (cs.drop o) with
      | none =>
        rw [hr, Option.map_none] at hk
        simp (disch := (first | omega | (simp only [lnE] <;> omega) | (refine Fit.mono ‹Fit _ _ _› ?_; simp only [lnE] <;> omega) | (refine Fit.draw ‹Fit _ _ _› ?_ ?_ <;> (simp only [lnE] <;> omega)) | (refine Fit.hid1 ‹Fit _ _ _› ?_ ?_ <;> (simp only [lnE] <;> omega)) | (refine Fit.draw1 ‹Fit _ _ _› ?_ ?_ ?_ <;> (simp only [lnE] <;> omega)) | (refine Fit.range0 ?_ ?_ <;> (simp only [lnE] <;> omega)) | fail)) only [syA, List.isEmpty_nil, List.isEmpty_cons, List.nil_append, argFr, D, E, T, C, undefv, eqF, aeq, sheqs, sheq, Option.isNone_none, Option.isNone_some, Option.getD_some, Option.getD_none, rdCells, cellsOf, fill, putAt, if_true, if_false, reduceIte, ↓reduceIte, reduceCtorEq, decide_true, decide_false, decide_eq_true_eq, decide_eq_false_iff_not, decide_not, Bool.not_true, Bool.not_false, Bool.not_not, Bool.not_eq_true', Bool.and_true, Bool.true_and, Bool.and_false, Bool.false_and, Bool.and_self, Bool.or_true, Bool.true_or, Bool.or_false, Bool.false_or, Bool.or_self, Bool.false_eq_true, Bool.and_eq_true, Bool.or_eq_true, and_true, true_and, and_false, false_and, or_true, true_or, or_false, false_or, not_true_eq_false, not_false_eq_true, eq_self, Option.map_some, Option.map_none, Option.bind_some, Option.bind_none, Nat.reduceEqDiff, Nat.reduceAdd, Nat.reduceSub, Nat.reduceMul, Nat.reduceLT, Nat.reduceLeDiff, Nat.reducePow, Nat.testBit_eq_decide_div_mod_eq, Nat.reduceDiv, Nat.reduceMod, Nat.zero_add, Nat.add_zero, Nat.sub_self, Nat.le_refl, Nat.lt_irrefl, Nat.mul_one, Int.mul_one, Int.one_mul, Int.sub_zero, Int.add_zero, Int.zero_add, Int.reduceLT, Int.reduceLE, Int.reduceGT, Int.reduceGE, Int.reduceToNat, Int.reducePow, Int.reduceNeg, Int.reduceBEq, Int.reduceBNe, Int.reduceEq, Int.reduceAdd, Int.reduceSub, Int.reduceMul, beq_iff_eq, bne_iff_ne, bne_self_eq_false, bne_eq_false_iff_eq, beq_eq_false_iff_ne, ne_eq, beq_self_eq_true, List.all_cons, List.all_nil, cellv, sc, flatv, refs, refsF, refsC, List.flatMap_cons, List.flatMap_nil, List.append_nil, List.append_assoc, List.cons_append, List.length_append, List.length_set, Int.cast_ofNat_Int, List.length_cons, List.length_nil, List.getElem?_cons_zero, List.getElem?_cons_succ, List.set_cons_zero, List.set_cons_succ, List.take_succ_cons, List.take_zero, List.drop_zero, List.drop_succ_cons, List.contains_nil, Int.toNat_natCast, Int.lt_irrefl, Nat.min_eq_left, Nat.min_eq_right, natFn, aop_native, hk]
        simp only [diffX, hr, hn, normX, opX, retX, thenX, finX, if_true, Option.map_none]
      | some ls =>
        rw [hr, Option.map_some] at hk
        simp (disch := (first | omega | (simp only [lnE] <;> omega) | (refine Fit.mono ‹Fit _ _ _› ?_; simp only [lnE] <;> omega) | (refine Fit.draw ‹Fit _ _ _› ?_ ?_ <;> (simp only [lnE] <;> omega)) | (refine Fit.hid1 ‹Fit _ _ _› ?_ ?_ <;> (simp only [lnE] <;> omega)) | (refine Fit.draw1 ‹Fit _ _ _› ?_ ?_ ?_ <;> (simp only [lnE] <;> omega)) | (refine Fit.range0 ?_ ?_ <;> (simp only [lnE] <;> omega)) | fail)) only [syA, List.isEmpty_nil, List.isEmpty_cons, List.nil_append, argFr, D, E, T, C, undefv, eqF, aeq, sheqs, sheq, Option.isNone_none, Option.isNone_some, Option.getD_some, Option.getD_none, rdCells, cellsOf, fill, putAt, if_true, if_false, reduceIte, ↓reduceIte, reduceCtorEq, decide_true, decide_false, decide_eq_true_eq, decide_eq_false_iff_not, decide_not, Bool.not_true, Bool.not_false, Bool.not_not, Bool.not_eq_true', Bool.and_true, Bool.true_and, Bool.and_false, Bool.false_and, Bool.and_self, Bool.or_true, Bool.true_or, Bool.or_false, Bool.false_or, Bool.or_self, Bool.false_eq_true, Bool.and_eq_true, Bool.or_eq_true, and_true, true_and, and_false, false_and, or_true, true_or, or_false, false_or, not_true_eq_false, not_false_eq_true, eq_self, Option.map_some, Option.map_none, Option.bind_some, Option.bind_none, Nat.reduceEqDiff, Nat.reduceAdd, Nat.reduceSub, Nat.reduceMul, Nat.reduceLT, Nat.reduceLeDiff, Nat.reducePow, Nat.testBit_eq_decide_div_mod_eq, Nat.reduceDiv, Nat.reduceMod, Nat.zero_add, Nat.add_zero, Nat.sub_self, Nat.le_refl, Nat.lt_irrefl, Nat.mul_one, Int.mul_one, Int.one_mul, Int.sub_zero, Int.add_zero, Int.zero_add, Int.reduceLT, Int.reduceLE, Int.reduceGT, Int.reduceGE, Int.reduceToNat, Int.reducePow, Int.reduceNeg, Int.reduceBEq, Int.reduceBNe, Int.reduceEq, Int.reduceAdd, Int.reduceSub, Int.reduceMul, beq_iff_eq, bne_iff_ne, bne_self_eq_false, bne_eq_false_iff_eq, beq_eq_false_iff_ne, ne_eq, beq_self_eq_true, List.all_cons, List.all_nil, cellv, sc, flatv, refs, refsF, refsC, List.flatMap_cons, List.flatMap_nil, List.append_nil, List.append_assoc, List.cons_append, List.length_append, List.length_set, Int.cast_ofNat_Int, List.length_cons, List.length_nil, List.getElem?_cons_zero, List.getElem?_cons_succ, List.set_cons_zero, List.set_cons_succ, List.take_succ_cons, List.take_zero, List.drop_zero, List.drop_succ_cons, List.contains_nil, Int.toNat_natCast, Int.lt_irrefl, Nat.min_eq_left, Nat.min_eq_right, natFn, aop_native, hk]
        simp only [diffX, hr, hn, if_true, Option.map_some]
    · rw [if_neg hn] at hk
      simp (disch := (first | omega | (simp only [lnE] <;> omega) | (refine Fit.mono ‹Fit _ _ _› ?_; simp only [lnE] <;> omega) | (refine Fit.draw ‹Fit _ _ _› ?_ ?_ <;> (simp only [lnE] <;> omega)) | (refine Fit.hid1 ‹Fit _ _ _› ?_ ?_ <;> (simp only [lnE] <;> omega)) | (refine Fit.draw1 ‹Fit _ _ _› ?_ ?_ ?_ <;> (simp only [lnE] <;> omega)) | (refine Fit.range0 ?_ ?_ <;> (simp only [lnE] <;> omega)) | fail)) only [syA, List.isEmpty_nil, List.isEmpty_cons, List.nil_append, argFr, D, E, T, C, undefv, eqF, aeq, sheqs, sheq, Option.isNone_none, Option.isNone_some, Option.getD_some, Option.getD_none, rdCells, cellsOf, fill, putAt, if_true, if_false, reduceIte, ↓reduceIte, reduceCtorEq, decide_true, decide_false, decide_eq_true_eq, decide_eq_false_iff_not, decide_not, Bool.not_true, Bool.not_false, Bool.not_not, Bool.not_eq_true', Bool.and_true, Bool.true_and, Bool.and_false, Bool.false_and, Bool.and_self, Bool.or_true, Bool.true_or, Bool.or_false, Bool.false_or, Bool.or_self, Bool.false_eq_true, Bool.and_eq_true, Bool.or_eq_true, and_true, true_and, and_false, false_and, or_true, true_or, or_false, false_or, not_true_eq_false, not_false_eq_true, eq_self, Option.map_some, Option.map_none, Option.bind_some, Option.bind_none, Nat.reduceEqDiff, Nat.reduceAdd, Nat.reduceSub, Nat.reduceMul, Nat.reduceLT, Nat.reduceLeDiff, Nat.reducePow, Nat.testBit_eq_decide_div_mod_eq, Nat.reduceDiv, Nat.reduceMod, Nat.zero_add, Nat.add_zero, Nat.sub_self, Nat.le_refl, Nat.lt_irrefl, Nat.mul_one, Int.mul_one, Int.one_mul, Int.sub_zero, Int.add_zero, Int.zero_add, Int.reduceLT, Int.reduceLE, Int.reduceGT, Int.reduceGE, Int.reduceToNat, Int.reducePow, Int.reduceNeg, Int.reduceBEq, Int.reduceBNe, Int.reduceEq, Int.reduceAdd, Int.reduceSub, Int.reduceMul, beq_iff_eq, bne_iff_ne, bne_self_eq_false, bne_eq_false_iff_eq, beq_eq_false_iff_ne, ne_eq, beq_self_eq_true, List.all_cons, List.all_nil, cellv, sc, flatv, refs, refsF, refsC, List.flatMap_cons, List.flatMap_nil, List.append_nil, List.append_assoc, List.cons_append, List.length_append, List.length_set, Int.cast_ofNat_Int, List.length_cons, List.length_nil, List.getElem?_cons_zero, List.getElem?_cons_succ, List.set_cons_zero, List.set_cons_succ, List.take_succ_cons, List.take_zero, List.drop_zero, List.drop_succ_cons, List.contains_nil, Int.toNat_natCast, Int.lt_irrefl, Nat.min_eq_left, Nat.min_eq_right, natFn, aop_native, hk]
      simp only [diffX, hn, normX, opX, retX, thenX, finX, if_false]
theorem set_i64s {t : List Int} {i : Nat} {v : Int} : (i64s t).set i (.int .i64 v) = i64s (t.set i v) := by simp [i64s, List.map_set]
theorem zeros_u8n (n : Nat) : List.replicate n (Value.int .u8 0) = u8s (List.replicate n 0) := by simp [u8s]
theorem zeros_i64n (n : Nat) : List.replicate n (Value.int .i64 0) = i64s (List.replicate n 0) := by simp [i64s]
theorem cellv_mem (l : List Nat) : ∀ x ∈ u8s l, cellv x = true := List.all_eq_true.1 (u8s_cellv l)
def wA (Z : List Nat) : List Nat := ((Z.set 0 1).set 1 2).set 257 2
def wB (Z : List Nat) : List Nat := ((Z.set 0 1).set 1 1).set 257 15
def wC (Z : List Nat) : List Nat := Z.set 257 1
def wD (Z : List Nat) : List Nat := Z.set 5 16
def wT (Z : List Int) : List Int := ((Z.set 0 5).set 1 2).set 9 7
def wN (Z : List Int) : List Int := Z.set 0 (-1)
def Z0 : List Nat := List.replicate 258 0
def Z1 : List Int := List.replicate 258 0
theorem sA : kSum (wA Z0) = 32768 := by decide +kernel
theorem sB : kSum (wB Z0) = 32769 := by decide +kernel
theorem sC : kSum (wC Z0) = 16384 := by decide +kernel
theorem sD : kSum (wD Z0) = 32769 := by decide +kernel
theorem fA : kFits (wA Z0) = true := by decide +kernel
theorem fB : kFits (wB Z0) = false := by decide +kernel
theorem fC : kFits (wC Z0) = true := by decide +kernel
theorem fD : kFits (wD Z0) = false := by decide +kernel
theorem cA : kComplete (wA Z0) = true := by decide +kernel
theorem cB : kComplete (wB Z0) = false := by decide +kernel
theorem cC : kComplete (wC Z0) = false := by decide +kernel
theorem tA : kTable (wA Z0) = true := by decide +kernel
theorem n0 : (kc (wA Z0))[0]? = some (.int .i64 255) := by rw [kc_at _ (by omega), show (wA Z0).count 0 = 255 by decide +kernel]; rfl
theorem n1 : (kc (wA Z0))[1]? = some (.int .i64 1) := by rw [kc_at _ (by omega), show (wA Z0).count 1 = 1 by decide +kernel]; rfl
theorem n2 : (kc (wA Z0))[2]? = some (.int .i64 2) := by rw [kc_at _ (by omega), show (wA Z0).count 2 = 2 by decide +kernel]; rfl
theorem costT : kCost (wT Z1) (wA Z0) = 9 := by decide +kernel
theorem costN : kCost (wN Z1) (wA Z0) = 0 := by decide +kernel
theorem lA : (wA Z0).length = 258 := by decide +kernel
theorem lB : (wB Z0).length = 258 := by decide +kernel
theorem lC : (wC Z0).length = 258 := by decide +kernel
theorem lD : (wD Z0).length = 258 := by decide +kernel
theorem lT : (wT Z1).length = 258 := by decide +kernel
theorem lN : (wN Z1).length = 258 := by decide +kernel
theorem yA : By (wA Z0) := by unfold By; decide +kernel
theorem yB : By (wB Z0) := by unfold By; decide +kernel
theorem yC : By (wC Z0) := by unfold By; decide +kernel
theorem yD : By (wD Z0) := by unfold By; decide +kernel
theorem rowsABA : rowsOf 3 (u8s (wA Z0) ++ (u8s (wB Z0) ++ u8s (wA Z0))) = some [wA Z0, wB Z0, wA Z0] := by
  have := rowsOf_rows (ls := [wA Z0, wB Z0, wA Z0]) (fun l hl => by
    simp only [List.mem_cons, List.not_mem_nil, or_false] at hl
    rcases hl with rfl | rfl | rfl
    · exact ⟨lA, yA⟩
    · exact ⟨lB, yB⟩
    · exact ⟨lA, yA⟩) []
  simpa using this
theorem dABA : kDiff [wA Z0, wB Z0, wA Z0] = 2 := by decide +kernel
theorem diffABA (σ : St) (pl : Bool) : diffX 0 3 σ (some (pl, u8s (wA Z0) ++ (u8s (wB Z0) ++ u8s (wA Z0)))) = some (.int .i64 2, σ) := by
  simp only [diffX, List.drop_zero, rowsABA, dABA, Option.map_some]
  rw [if_pos (by omega)]; rfl
set_option maxRecDepth 100000 in
theorem put3 {A B : List Nat} {zs : List Value} (hA : A.length = 258) (hB : B.length = 258) (hz : zs.length = 774) : putAt (putAt (putAt zs 0 (u8s A)) 258 (u8s B)) 516 (u8s A) = u8s A ++ (u8s B ++ u8s A) := by
  have e1 : (u8s A).length = 258 := by rw [u8s_length, hA]
  have e2 : (u8s B).length = 258 := by rw [u8s_length, hB]
  have l1 : (putAt zs 0 (u8s A)).length = 774 := by rw [putAt_length, hz]
  have l2 : (putAt (putAt zs 0 (u8s A)) 258 (u8s B)).length = 774 := by rw [putAt_length, l1]
  apply List.ext_getElem?
  intro j
  rw [putAt_get _ _ _ _ (by omega), putAt_get _ _ _ _ (by omega), putAt_get _ _ _ _ (by omega)]
  rw [List.getElem?_append, List.getElem?_append, e1, e2]
  by_cases h1 : j < 258
  · rw [if_neg (by omega), if_neg (by omega), if_pos (by omega), if_pos h1]; rfl
  · by_cases h2 : j < 516
    · rw [if_neg (by omega), if_pos (by omega), if_neg h1, if_pos (by omega)]
    · by_cases h3 : j < 774
      · rw [if_pos (by omega), if_neg h1, if_neg (by omega)]
        congr 1
      · rw [if_neg (by omega), if_neg (by omega), if_neg (by omega), if_neg h1, if_neg (by omega), List.getElem?_eq_none (by omega), List.getElem?_eq_none (by omega)]
theorem zu : List.replicate 258 (Value.int .u8 0) = u8s Z0 := zeros_u8n 258
theorem zi : List.replicate 258 (Value.int .i64 0) = i64s Z1 := zeros_i64n 258
theorem wA_eq (Z : List Nat) : ((Z.set 0 1).set 1 2).set 257 2 = wA Z := rfl
theorem wB_eq (Z : List Nat) : ((Z.set 0 1).set 1 1).set 257 15 = wB Z := rfl
theorem wT_eq (Z : List Int) : ((Z.set 0 5).set 1 2).set 9 7 = wT Z := rfl
theorem wN_eq (Z : List Int) : Z.set 0 (-1) = wN Z := rfl
set_option maxRecDepth 100000 in
theorem wakes_walk (hF : Fit hp.length L H) : Lrun env (.func 26) [] ⟨hp, L, H, d⟩ = some (.bool true, ⟨hp, L, H, d⟩) := by
  rw [Lrun_sym 26 _ _ fn26]
  have hZ : Z0.length = 258 := by simp [Z0]
  have hZ1 : Z1.length = 258 := by simp [Z1]
  have e1 := zu
  have e2 := zi
  have eC : Z0.set 257 1 = wC Z0 := rfl
  have eD : Z0.set 5 16 = wD Z0 := rfl
  have hs : ∀ (l : List Nat) (i : Nat), (l.set i 0).length = l.length := fun l i => List.length_set
  have r1 := @rowsABA
  have F3 := put3 (zs := List.replicate 774 (Value.int .u8 0)) lA lB (by rw [List.length_replicate])
  have l774 : (u8s (wA Z0) ++ (u8s (wB Z0) ++ u8s (wA Z0))).length = 774 := by rw [List.length_append, List.length_append, u8s_length, u8s_length, lA, lB]
  have a774 : (u8s (wA Z0) ++ (u8s (wB Z0) ++ u8s (wA Z0))).all AM.sc = true := by rw [List.all_append, List.all_append, u8s_scs, u8s_scs]; rfl
  have s774 : small 774 = true := by decide
  have hk : (kc (wA Z0)).length = (kc []).length := by rw [kc_len, kc_len]
  simp (disch := (first | omega | (simp only [lnE] <;> omega) | (refine Fit.mono ‹Fit _ _ _› ?_; simp only [lnE] <;> omega) | (refine Fit.draw ‹Fit _ _ _› ?_ ?_ <;> (simp only [lnE] <;> omega)) | (refine Fit.hid1 ‹Fit _ _ _› ?_ ?_ <;> (simp only [lnE] <;> omega)) | (refine Fit.draw1 ‹Fit _ _ _› ?_ ?_ ?_ <;> (simp only [lnE] <;> omega)) | (refine Fit.range0 ?_ ?_ <;> (simp only [lnE] <;> omega)) | fail)) only [syA, List.isEmpty_nil, List.isEmpty_cons, List.nil_append, argFr, D, E, T, C, undefv, eqF, aeq, sheqs, sheq, Option.isNone_none, Option.isNone_some, Option.getD_some, Option.getD_none, rdCells, cellsOf, fill, putAt, if_true, if_false, reduceIte, ↓reduceIte, reduceCtorEq, decide_true, decide_false, decide_eq_true_eq, decide_eq_false_iff_not, decide_not, Bool.not_true, Bool.not_false, Bool.not_not, Bool.not_eq_true', Bool.and_true, Bool.true_and, Bool.and_false, Bool.false_and, Bool.and_self, Bool.or_true, Bool.true_or, Bool.or_false, Bool.false_or, Bool.or_self, Bool.false_eq_true, Bool.and_eq_true, Bool.or_eq_true, and_true, true_and, and_false, false_and, or_true, true_or, or_false, false_or, not_true_eq_false, not_false_eq_true, eq_self, Option.map_some, Option.map_none, Option.bind_some, Option.bind_none, Nat.reduceEqDiff, Nat.reduceAdd, Nat.reduceSub, Nat.reduceMul, Nat.reduceLT, Nat.reduceLeDiff, Nat.reducePow, Nat.testBit_eq_decide_div_mod_eq, Nat.reduceDiv, Nat.reduceMod, Nat.zero_add, Nat.add_zero, Nat.sub_self, Nat.le_refl, Nat.lt_irrefl, Nat.mul_one, Int.mul_one, Int.one_mul, Int.sub_zero, Int.add_zero, Int.zero_add, Int.reduceLT, Int.reduceLE, Int.reduceGT, Int.reduceGE, Int.reduceToNat, Int.reducePow, Int.reduceNeg, Int.reduceBEq, Int.reduceBNe, Int.reduceEq, Int.reduceAdd, Int.reduceSub, Int.reduceMul, beq_iff_eq, bne_iff_ne, bne_self_eq_false, bne_eq_false_iff_eq, beq_eq_false_iff_ne, ne_eq, beq_self_eq_true, List.all_cons, List.all_nil, cellv, sc, flatv, refs, refsF, refsC, List.flatMap_cons, List.flatMap_nil, List.append_nil, List.append_assoc, List.cons_append, List.length_append, List.length_set, Int.cast_ofNat_Int, List.length_cons, List.length_nil, List.getElem?_cons_zero, List.getElem?_cons_succ, List.set_cons_zero, List.set_cons_succ, List.take_succ_cons, List.take_zero, List.drop_zero, List.drop_succ_cons, List.contains_nil, Int.toNat_natCast, Int.lt_irrefl, Nat.min_eq_left, Nat.min_eq_right, hF.not0, hF.not1, hF.up0, hF.up1, ac26, e1, e2, hZ, hZ1, set_u8s, set_i64s, i64s_len, wA_eq, wB_eq, wT_eq, wN_eq, eC, eD, lA, lB, lC, lD, lT, lN, take258 lA, take258 lB, take258 lC, take258 lD, take258i lT, counts_walk lA yA, kc_nil, kc_len, kc_cellv, kc_scs, putAt_all hk, sum_walk lA yA, sum_walk lB yB, sum_walk lC yC, sum_walk lD yD, sA, sB, sC, sD, fits_walk lA yA, fits_walk lB yB, fits_walk lC yC, fits_walk lD yD, fA, fB, fC, fD, complete_walk lA yA, complete_walk lB yB, complete_walk lC yC, cA, cB, cC, table_walk lA yA, tA, n0, n1, n2, cost_walk lT lA yA, cost_walk lN lA yA, costT, costN, F3, List.length_replicate, u8s_cellv, putAt_length, s774, l774, a774, diff_sym, diffABA]
end
end KrA
end Go.Proofs.Yteaapmfpojeibaa
