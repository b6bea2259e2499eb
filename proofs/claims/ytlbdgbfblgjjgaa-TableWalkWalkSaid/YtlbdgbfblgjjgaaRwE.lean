/-
  WALKS WITH RANKS: New that fails, the law's arena. Conditions: none.
-/
import Derived.Test.YtlbdgbfblgjjgaaRwD
set_option linter.all false
namespace Go.Proofs.Ytlbdgbfblgjjgaa
namespace ArA
open Go Go.RowKit AM ArEnv
section
variable {hp : List Blk} {L : Nat} {H d : List Nat} {r q w : Nat} {A : Arn}
set_option maxRecDepth 40000 in
theorem rnew_nil (hF : Fit hp.length L H) (s m t z ix k : Int) :
    Lrun env (.func 34) [.pointer none, .agg #[.int .i64 s, .int .i64 m], .int .i64 ix, .agg #[.int .i64 t, .int .i64 z], .int .i64 k] ⟨hp, L, H, d⟩ = some (.tuple #[.pointer none, .int .i64 2], ⟨hp, L, H, d⟩) := by
  rw [Lrun_sym 34 _ _ fn34]
  simp (disch := (first | omega | (simp only [lnE] <;> omega) | (refine Fit.mono ‹Fit _ _ _› ?_ <;> (simp only [lnE] <;> omega)) | (refine Fit.draw ‹Fit _ _ _› ?_ ?_ <;> (simp only [lnE] <;> omega)) | (refine Fit.hid1 ‹Fit _ _ _› ?_ ?_ <;> (simp only [lnE] <;> omega)) | (refine Fit.draw1 ‹Fit _ _ _› ?_ ?_ ?_ <;> (simp only [lnE] <;> omega)) | (refine Fit.range0 ?_ ?_ <;> (simp only [lnE] <;> omega)) | fail)) only [syA, syB, argFr, D, E, T, C, undefv, eqF, aeq, sheqs, sheq, rdCells, cellsOf, fill, putAt, if_true, if_false, reduceIte, ↓reduceIte, reduceCtorEq, eq_self, Nat.reduceEqDiff, Nat.reduceAdd, Nat.reduceSub, Nat.reduceMul, Nat.reduceLT, Nat.reduceLeDiff, Nat.reducePow, Nat.reduceDiv, Nat.reduceMod, Int.reduceLT, Int.reduceLE, Int.reduceGT, Int.reduceGE, Int.reduceToNat, Int.reducePow, Int.reduceNeg, Int.reduceBEq, Int.reduceBNe, Int.reduceEq, Int.reduceAdd, Int.reduceSub, Int.reduceMul, cellv, sc, flatv, refs, refsF, refsC, hF.not0, hF.not1, hF.up0, hF.up1, ac34, rmake_nil]
set_option maxRecDepth 40000 in
theorem rnew_bad (hF : Fit hp.length L H) (k : ArOk hp.length r q H A) {s m t z ix kk : Int} (hv : rValid A s m t z kk = false) :
    Lrun env (.func 34) [arP r, .agg #[.int .i64 s, .int .i64 m], .int .i64 ix, .agg #[.int .i64 t, .int .i64 z], .int .i64 kk] ⟨put hp r q A, L, H, d⟩ = some (.tuple #[.pointer none, .int .i64 2], ⟨put hp r q A, L, H, d⟩) := by
  have hrl := k.r_lt
  have hql := k.q_lt
  have rb := fun nw => rmake_bad (d := []) (hp := hp ++ nw) (L := L) (H := H) (hF.mono (by simp)) (k.mono (by simp)) hv
  rw [Lrun_sym 34 _ _ fn34]
  simp (disch := (first | omega | (simp only [lnE, put_length] <;> omega) | (refine Fit.mono ‹Fit _ _ _› ?_ <;> (simp only [lnE, put_length] <;> omega)) | (refine Fit.draw ‹Fit _ _ _› ?_ ?_ <;> (simp only [lnE, put_length] <;> omega)) | (refine Fit.hid1 ‹Fit _ _ _› ?_ ?_ <;> (simp only [lnE, put_length] <;> omega)) | (refine Fit.draw1 ‹Fit _ _ _› ?_ ?_ ?_ <;> (simp only [lnE, put_length] <;> omega)) | (refine Fit.range0 ?_ ?_ <;> (simp only [lnE, put_length] <;> omega)) | (refine ArOk.mono ‹ArOk _ _ _ _ _› ?_ <;> (simp only [lnE, put_length] <;> omega)) | (refine ArOk.hid ‹ArOk _ _ _ _ _› ?_ ?_ <;> (simp only [lnE, put_length] <;> omega)) | (refine ArOk.hid0 ‹ArOk _ _ _ _ _› ?_ ?_ <;> (simp only [lnE, put_length] <;> omega)) | ((intro xr hxr; simp [AM.refs, refsF, refsC] at hxr) <;> (simp only [lnE, put_length] <;> omega)) | fail)) only [syA, syB, argFr, D, E, T, C, undefv, eqF, aeq, sheqs, sheq, rdCells, cellsOf, fill, putAt, if_true, if_false, reduceIte, ↓reduceIte, reduceCtorEq, eq_self, Nat.reduceEqDiff, Nat.reduceAdd, Nat.reduceSub, Nat.reduceMul, Nat.reduceLT, Nat.reduceLeDiff, Nat.reducePow, Nat.reduceDiv, Nat.reduceMod, Int.reduceLT, Int.reduceLE, Int.reduceGT, Int.reduceGE, Int.reduceToNat, Int.reducePow, Int.reduceNeg, Int.reduceBEq, Int.reduceBNe, Int.reduceEq, Int.reduceAdd, Int.reduceSub, Int.reduceMul, cellv, sc, flatv, refs, refsF, refsC, syR, Int.le_refl, hF.not0, hF.not1, hF.up0, hF.up1, k.hr, k.hq, ac34, rb]
set_option maxRecDepth 40000 in
theorem rnew_index (hF : Fit hp.length L H) (k : ArOk hp.length r q H A) (hw : L ≤ r ∧ L ≤ q) {s t z kk : Nat} {x : List Nat} {ix : Int} (hx : Holds A s x) (hv : rValid A s x.length t z kk = true) (hix : ¬ (1 ≤ ix ∧ ix ≤ x.length)) : ∃ B,
    (∀ d, Lrun env (.func 34) [arP r, .agg #[.int .i64 s, .int .i64 x.length], .int .i64 ix, .agg #[.int .i64 t, .int .i64 z], .int .i64 kk] ⟨put hp r q A, L, H, d⟩ =
      some (.tuple #[.pointer none, .int .i64 170], ⟨put hp r q B, L, H, d⟩)) ∧ Marked A B t x kk (256 * (x.length / kk)) ∧ Holds B s x ∧ ArOk hp.length r q H B := by
  obtain ⟨v1, v2, v3, v4, v5, v6⟩ := rValid_parts hv
  have b2 := Arn.has_iff.1 v2
  have hrl := k.r_lt
  have hql := k.q_lt
  obtain ⟨B, e1, hM⟩ := make_walk (hp := hp ++ [.cells 0 true [.int .i64 s, .int .i64 x.length], .cells 0 true [.int .i64 t, .int .i64 z]]) (L := L) (H := H) (r := r) (q := q) (hF.mono (by simp)) (k.mono (by simp)) hw hx hv
  rw [rSize_nat (by omega) (by omega)] at v6
  have v7 : 4 * (256 * (x.length / kk)) ≤ z := Int.ofNat_le.1 v6
  have hB : Holds B s x := hM.holds hx fun i hi => by clear hM; omega
  have kB := hM.ok k
  refine ⟨B, fun d => ?_, hM, hB, kB⟩
  rw [Lrun_sym 34 _ _ fn34]
  by_cases c1 : ix < 1
  · simp (disch := (first | omega | (simp only [lnE, put_length] <;> omega) | (refine Fit.mono ‹Fit _ _ _› ?_ <;> (simp only [lnE, put_length] <;> omega)) | (refine Fit.draw ‹Fit _ _ _› ?_ ?_ <;> (simp only [lnE, put_length] <;> omega)) | (refine Fit.hid1 ‹Fit _ _ _› ?_ ?_ <;> (simp only [lnE, put_length] <;> omega)) | (refine Fit.draw1 ‹Fit _ _ _› ?_ ?_ ?_ <;> (simp only [lnE, put_length] <;> omega)) | (refine Fit.range0 ?_ ?_ <;> (simp only [lnE, put_length] <;> omega)) | (refine ArOk.mono ‹ArOk _ _ _ _ _› ?_ <;> (simp only [lnE, put_length] <;> omega)) | (refine ArOk.hid ‹ArOk _ _ _ _ _› ?_ ?_ <;> (simp only [lnE, put_length] <;> omega)) | (refine ArOk.hid0 ‹ArOk _ _ _ _ _› ?_ ?_ <;> (simp only [lnE, put_length] <;> omega)) | ((intro xr hxr; simp [AM.refs, refsF, refsC] at hxr) <;> (simp only [lnE, put_length] <;> omega)) | fail)) only [syA, syB, argFr, D, E, T, C, undefv, eqF, aeq, sheqs, sheq, rdCells, cellsOf, fill, putAt, if_true, if_false, reduceIte, ↓reduceIte, reduceCtorEq, eq_self, Nat.reduceEqDiff, Nat.reduceAdd, Nat.reduceSub, Nat.reduceMul, Nat.reduceLT, Nat.reduceLeDiff, Nat.reducePow, Nat.reduceDiv, Nat.reduceMod, Int.reduceLT, Int.reduceLE, Int.reduceGT, Int.reduceGE, Int.reduceToNat, Int.reducePow, Int.reduceNeg, Int.reduceBEq, Int.reduceBNe, Int.reduceEq, Int.reduceAdd, Int.reduceSub, Int.reduceMul, cellv, sc, flatv, refs, refsF, refsC, syR, Int.le_refl, hF.not0, hF.not1, hF.up0, hF.up1, k.hr, k.hq, kB.hr, kB.hq, ac34, e1, c1]
  · have c2 : ix > x.length := by omega
    simp (disch := (first | omega | (simp only [lnE, put_length] <;> omega) | (refine Fit.mono ‹Fit _ _ _› ?_ <;> (simp only [lnE, put_length] <;> omega)) | (refine Fit.draw ‹Fit _ _ _› ?_ ?_ <;> (simp only [lnE, put_length] <;> omega)) | (refine Fit.hid1 ‹Fit _ _ _› ?_ ?_ <;> (simp only [lnE, put_length] <;> omega)) | (refine Fit.draw1 ‹Fit _ _ _› ?_ ?_ ?_ <;> (simp only [lnE, put_length] <;> omega)) | (refine Fit.range0 ?_ ?_ <;> (simp only [lnE, put_length] <;> omega)) | (refine ArOk.mono ‹ArOk _ _ _ _ _› ?_ <;> (simp only [lnE, put_length] <;> omega)) | (refine ArOk.hid ‹ArOk _ _ _ _ _› ?_ ?_ <;> (simp only [lnE, put_length] <;> omega)) | (refine ArOk.hid0 ‹ArOk _ _ _ _ _› ?_ ?_ <;> (simp only [lnE, put_length] <;> omega)) | ((intro xr hxr; simp [AM.refs, refsF, refsC] at hxr) <;> (simp only [lnE, put_length] <;> omega)) | fail)) only [syA, syB, argFr, D, E, T, C, undefv, eqF, aeq, sheqs, sheq, rdCells, cellsOf, fill, putAt, if_true, if_false, reduceIte, ↓reduceIte, reduceCtorEq, eq_self, Nat.reduceEqDiff, Nat.reduceAdd, Nat.reduceSub, Nat.reduceMul, Nat.reduceLT, Nat.reduceLeDiff, Nat.reducePow, Nat.reduceDiv, Nat.reduceMod, Int.reduceLT, Int.reduceLE, Int.reduceGT, Int.reduceGE, Int.reduceToNat, Int.reducePow, Int.reduceNeg, Int.reduceBEq, Int.reduceBNe, Int.reduceEq, Int.reduceAdd, Int.reduceSub, Int.reduceMul, cellv, sc, flatv, refs, refsF, refsC, syR, Int.le_refl, hF.not0, hF.not1, hF.up0, hF.up1, k.hr, k.hq, kB.hr, kB.hq, ac34, e1, c1, c2]
end
theorem rlm_store {l : List Nat} {n : Nat} : (Arn.laid (l.length + n + 1) (List.replicate (l.length + n + 1) 0)).part 0 l.length 0 l.length = true ∧ (Arn.laid (l.length + n + 1) (List.replicate (l.length + n + 1) 0)).store 0 l.length 0 l = rl l n := by
  have hp : (Arn.laid (l.length + n + 1) (List.replicate (l.length + n + 1) 0)).part 0 l.length 0 l.length = true := by
    rw [Arn.part_iff]; simp [Arn.laid]; omega
  refine ⟨hp, ?_⟩
  unfold Arn.store
  rw [if_pos hp]
  unfold Arn.setAt rl Arn.laid
  simp only [Int.zero_add, Int.toNat_zero, List.length_replicate, List.length_append, Nat.sub_self, List.replicate_zero, List.append_nil, Arn.mk.injEq]
  refine ⟨?_, by omega, by omega⟩
  unfold putN
  simp only [List.take_zero, List.nil_append, Nat.zero_add, List.drop_replicate]
  rw [show l.length + n + 1 - l.length = n + 1 by omega, show l.length + n + 1 - (l.length + (n + 1)) = 0 by omega, List.replicate_zero, List.append_nil]
end ArA
end Go.Proofs.Ytlbdgbfblgjjgaa
