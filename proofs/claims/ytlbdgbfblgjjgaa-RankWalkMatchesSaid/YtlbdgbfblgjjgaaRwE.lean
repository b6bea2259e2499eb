/-
  WALKS WITH RANKS: New that fails, the law's arena. Conditions: none.
-/
import Derived.Test.YtlbdgbfblgjjgaaRwD
set_option linter.all false
namespace Go.Proofs.Ytlbdgbfblgjjgaa
namespace ArA
open Go Go.RowKit AM ArEnv
section
variable {hp : List Blk} {L : Nat} {H d : List Nat} {r q w : Nat} {A : Arn}
set_option maxRecDepth 40000 in
theorem rnew_nil (hF : Fit hp.length L H) (s m t z ix k : Int) :
    Lrun env (.func 34) [.pointer none, .agg #[.int .i64 s, .int .i64 m], .int .i64 ix, .agg #[.int .i64 t, .int .i64 z], .int .i64 k] ⟨hp, L, H, d⟩ = some (.tuple #[.pointer none, .int .i64 2], ⟨hp, L, H, d⟩) := by
  rw [Lrun_sym 34 _ _ fn34]
  simp (disch := (first | omega | (simp only [lnE] <;> omega) | (refine Fit.mono ‹Fit _ _ _› ?_ <;> (simp only [lnE] <;> omega)) | (refine Fit.draw ‹Fit _ _ _› ?_ ?_ <;> (simp only [lnE] <;> omega)) | (refine Fit.hid1 ‹Fit _ _ _› ?_ ?_ <;> (simp only [lnE] <;> omega)) | (refine Fit.draw1 ‹Fit _ _ _› ?_ ?_ ?_ <;> (simp only [lnE] <;> omega)) | (refine Fit.range0 ?_ ?_ <;> (simp only [lnE] <;> omega)) | fail)) only [syA, syB, argFr, D, E, T, C, undefv, eqF, aeq, sheqs, sheq, rdCells, cellsOf, fill, putAt, if_true, if_false, reduceIte, ↓reduceIte, reduceCtorEq, eq_self, Nat.reduceEqDiff, Nat.reduceAdd, Nat.reduceSub, Nat.reduceMul, Nat.reduceLT, Nat.reduceLeDiff, Nat.reducePow, Nat.reduceDiv, Nat.reduceMod, Int.reduceLT, Int.reduceLE, Int.reduceGT, Int.reduceGE, Int.reduceToNat, Int.reducePow, Int.reduceNeg, Int.reduceBEq, Int.reduceBNe, Int.reduceEq, Int.reduceAdd, Int.reduceSub, Int.reduceMul, cellv, sc, flatv, refs, refsF, refsC, hF.not0, hF.not1, hF.up0, hF.up1, ac34, rmake_nil]
set_option maxRecDepth 40000 in
theorem rnew_bad (hF : Fit hp.length L H) (k : ArOk hp.length r q H A) {s m t z ix kk : Int} (hv : rValid A s m t z kk = false) :
    Lrun env (.func 34) [arP r, .agg #[.int .i64 s, .int .i64 m], .int .i64 ix, .agg #[.int .i64 t, .int .i64 z], .int .i64 kk] ⟨put hp r q A, L, H, d⟩ = some (.tuple #[.pointer none, .int .i64 2], ⟨put hp r q A, L, H, d⟩) := by
  have hrl := k.r_lt
  have hql := k.q_lt
  have rb := fun nw => rmake_bad (d := []) (hp := hp ++ nw) (L := L) (H := H) (hF.mono (by simp)) (k.mono (by simp)) hv
  rw [Lrun_sym 34 _ _ fn34]
  simp (disch := (first | omega | (simp only [lnE, put_length] <;> omega) | (refine Fit.mono ‹Fit _ _ _› ?_ <;> (simp only [lnE, put_length] <;> omega)) | (refine Fit.draw ‹Fit _ _ _› ?_ ?_ <;> (simp only [lnE, put_length] <;> omega)) | (refine Fit.hid1 ‹Fit _ _ _› ?_ ?_ <;> (simp only [lnE, put_length] <;> omega)) | (refine Fit.draw1 ‹Fit _ _ _› ?_ ?_ ?_ <;> (simp only [lnE, put_length] <;> omega)) | (refine Fit.range0 ?_ ?_ <;> (simp only [lnE, put_length] <;> omega)) | (refine ArOk.mono ‹ArOk _ _ _ _ _› ?_ <;> (simp only [lnE, put_length] <;> omega)) | (refine ArOk.hid ‹ArOk _ _ _ _ _› ?_ ?_ <;> (simp only [lnE, put_length] <;> omega)) | (refine ArOk.hid0 ‹ArOk _ _ _ _ _› ?_ ?_ <;> (simp only [lnE, put_length] <;> omega)) | ((intro xr hxr; simp [AM.refs, refsF, refsC] at hxr) <;> (simp only [lnE, put_length] <;> omega)) | fail)) only [syA, syB, argFr, D, E, T, C, undefv, eqF, aeq, sheqs, sheq, rdCells, cellsOf, fill, putAt, if_true, if_false, reduceIte, ↓reduceIte, reduceCtorEq, eq_self, Nat.reduceEqDiff, Nat.reduceAdd, Nat.reduceSub, Nat.reduceMul, Nat.reduceLT, Nat.reduceLeDiff, Nat.reducePow, Nat.reduceDiv, Nat.reduceMod, Int.reduceLT, Int.reduceLE, Int.reduceGT, Int.reduceGE, Int.reduceToNat, Int.reducePow, Int.reduceNeg, Int.reduceBEq, Int.reduceBNe, Int.reduceEq, Int.reduceAdd, Int.reduceSub, Int.reduceMul, cellv, sc, flatv, refs, refsF, refsC, syR, Int.le_refl, hF.not0, hF.not1, hF.up0, hF.up1, k.hr, k.hq, ac34, rb]
set_option maxRecDepth 40000 in
theorem rnew_index (hF : Fit hp.length L H) (k : ArOk hp.length r q H A) (hw : L ≤ r ∧ L ≤ q) {s t z kk : Nat} {x : List Nat} {ix : Int} (hx : Holds A s x) (hv : rValid A s x.length t z kk = true) (hix : ¬ (1 ≤ ix ∧ ix ≤ x.length)) : ∃ B,
    (∀ d, Lrun env (.func 34) [arP r, .agg #[.int .i64 s, .int .i64 x.length], .int .i64 ix, .agg #[.int .i64 t, .int .i64 z], .int .i64 kk] ⟨put hp r q A, L, H, d⟩ =
      some (.tuple #[.pointer none, .int .i64 170], ⟨put hp r q B, L, H, d⟩)) ∧ Marked A B t x kk (256 * (x.length / kk)) ∧ Holds B s x ∧ ArOk hp.length r q H B := by
  obtain ⟨v1, v2, v3, v4, v5, v6⟩ := rValid_parts hv
  have b2 := Arn.has_iff.1 v2
  have hrl := k.r_lt
  have hql := k.q_lt
  obtain ⟨B, e1, hM⟩ := make_walk (hp := hp ++ [.cells 0 true [.int .i64 s, .int .i64 x.length], .cells 0 true [.int .i64 t, .int .i64 z]]) (L := L) (H := H) (r := r) (q := q) (hF.mono (by simp)) (k.mono (by simp)) hw hx hv
  rw [rSize_nat (by omega) (by omega)] at v6
  have v7 : 4 * (256 * (x.length / kk)) ≤ z := Int.ofNat_le.1 v6
  have hB : Holds B s x := hM.holds hx fun i hi => by clear hM; omega
  have kB := hM.ok k
  refine ⟨B, fun d => ?_, hM, hB, kB⟩
  rw [Lrun_sym 34 _ _ fn34]
  by_cases c1 : ix < 1
  · simp (disch := (first | omega | (simp only [lnE, put_length] <;> omega) | (refine Fit.mono ‹Fit _ _ _› ?_ <;> (simp only [lnE, put_length] <;> omega)) | (refine Fit.draw ‹Fit _ _ _› ?_ ?_ <;> (simp only [lnE, put_length] <;> omega)) | (refine Fit.hid1 ‹Fit _ _ _› ?_ ?_ <;> (simp only [lnE, put_length] <;> omega)) | (refine Fit.draw1 ‹Fit _ _ _› ?_ ?_ ?_ <;> (simp only [lnE, put_length] <;> omega)) | (refine Fit.range0 ?_ ?_ <;> (simp only [lnE, put_length] <;> omega)) | (refine ArOk.mono ‹ArOk _ _ _ _ _› ?_ <;> (simp only [lnE, put_length] <;> omega)) | (refine ArOk.hid ‹ArOk _ _ _ _ _› ?_ ?_ <;> (simp only [lnE, put_length] <;> omega)) | (refine ArOk.hid0 ‹ArOk _ _ _ _ _› ?_ ?_ <;> (simp only [lnE, put_length] <;> omega)) | ((intro xr hxr; simp [AM.refs, refsF, refsC] at hxr) <;> (simp only [lnE, put_length] <;> omega)) | fail)) only [syA, syB, argFr, D, E, T, C, undefv, eqF, aeq, sheqs, sheq, rdCells, cellsOf, fill, putAt, if_true, if_false, reduceIte, ↓reduceIte, reduceCtorEq, eq_self, Nat.reduceEqDiff, Nat.reduceAdd, Nat.reduceSub, Nat.reduceMul, Nat.reduceLT, Nat.reduceLeDiff, Nat.reducePow, Nat.reduceDiv, Nat.reduceMod, Int.reduceLT, Int.reduceLE, Int.reduceGT, Int.reduceGE, Int.reduceToNat, Int.reducePow, Int.reduceNeg, Int.reduceBEq, Int.reduceBNe, Int.reduceEq, Int.reduceAdd, Int.reduceSub, Int.reduceMul, cellv, sc, flatv, refs, refsF, refsC, syR, Int.le_refl, hF.not0, hF.not1, hF.up0, hF.up1, k.hr, k.hq, kB.hr, kB.hq, ac34, e1, c1]
  · have c2 : ix > x.length := by omega
    simp (disch := (first | omega | (simp only [lnE, put_length] <;> omega) | (refine Fit.mono ‹Fit _ _ _› ?_ <;> (simp only [lnE, put_length] <;> omega)) | (refine Fit.draw ‹Fit _ _ _› ?_ ?_ <;> (simp only [lnE, put_length] <;> omega)) | (refine Fit.hid1 ‹Fit _ _ _› ?_ ?_ <;> (simp only [lnE, put_length] <;> omega)) | (refine Fit.draw1 ‹Fit _ _ _› ?_ ?_ ?_ <;> (simp only [lnE, put_length] <;> omega)) | (refine Fit.range0 ?_ ?_ <;> (simp only [lnE, put_length] <;> omega)) | (refine ArOk.mono ‹ArOk _ _ _ _ _› ?_ <;> (simp only [lnE, put_length] <;> omega)) | (refine ArOk.hid ‹ArOk _ _ _ _ _› ?_ ?_ <;> (simp only [lnE, put_length] <;> omega)) | (refine ArOk.hid0 ‹ArOk _ _ _ _ _› ?_ ?_ <;> (simp only [lnE, put_length] <;> omega)) | ((intro xr hxr; simp [AM.refs, refsF, refsC] at hxr) <;> (simp only [lnE, put_length] <;> omega)) | fail)) only [syA, syB, argFr, D, E, T, C, undefv, eqF, aeq, sheqs, sheq, rdCells, cellsOf, fill, putAt, if_true, if_false, reduceIte, ↓reduceIte, reduceCtorEq, eq_self, Nat.reduceEqDiff, Nat.reduceAdd, Nat.reduceSub, Nat.reduceMul, Nat.reduceLT, Nat.reduceLeDiff, Nat.reducePow, Nat.reduceDiv, Nat.reduceMod, Int.reduceLT, Int.reduceLE, Int.reduceGT, Int.reduceGE, Int.reduceToNat, Int.reducePow, Int.reduceNeg, Int.reduceBEq, Int.reduceBNe, Int.reduceEq, Int.reduceAdd, Int.reduceSub, Int.reduceMul, cellv, sc, flatv, refs, refsF, refsC, syR, Int.le_refl, hF.not0, hF.not1, hF.up0, hF.up1, k.hr, k.hq, kB.hr, kB.hq, ac34, e1, c1, c2]
end
theorem rlm_store {l : List Nat} {n : Nat} : (Arn.laid (l.length + n + 1) (List.replicate (l.length + n + 1) 0)).part 0 l.length 0 l.length = true ∧ (Arn.laid (l.length + n + 1) (List.replicate (l.length + n + 1) 0)).store 0 l.length 0 l = rl l n := by
  have hp : (Arn.laid (l.length + n + 1) (List.replicate (l.length + n + 1) 0)).part 0 l.length 0 l.length = true := by
    rw [Arn.part_iff]; simp [Arn.laid]; omega
  refine ⟨hp, ?_⟩
  unfold Arn.store
  rw [if_pos hp]
  unfold Arn.setAt rl Arn.laid
  simp only [Int.zero_add, Int.toNat_zero, List.length_replicate, List.length_append, Nat.sub_self, List.replicate_zero, List.append_nil, Arn.mk.injEq]
  refine ⟨?_, by omega, by omega⟩
  unfold putN
  simp only [List.take_zero, List.nil_append, Nat.zero_add, List.drop_replicate]
  rw [show l.length + n + 1 - l.length = n + 1 by omega, show l.length + n + 1 - (l.length + (n + 1)) = 0 by omega, List.replicate_zero, List.append_nil]
set_option maxRecDepth 40000 in
/-- The law's arena: the text, room for the marks (sz), e + 1 bytes more. -/
theorem laid21_walk {hp : List Blk} {L : Nat} {H d : List Nat} {v : Value} {l : List Nat} {kk : Int} {sz e : Nat} (hF : Fit hp.length L H) (hr : Rd ⟨hp, L, H, []⟩ v l) (hl : l.length ≤ 1000) (hs : (if kk > 0 then 1024 * (l.length : Int).tdiv kk else 0) = sz) (hsz : sz ≤ 1000000) (he : e ≤ 1000) :
    Lrun env (.func 33) [v, .int .i64 kk, .int .i64 (e + 1 : Nat)] ⟨hp, L, H, d⟩ =
      some (.tuple #[arP hp.length, .agg #[.int .i64 0, .int .i64 l.length], .agg #[.int .i64 l.length, .int .i64 sz]], ⟨put (hp ++ [default, default]) hp.length (hp.length + 1) (rl l (sz + e)), L, H, d⟩) := by
  have hlen := hr.lenF
  have t1 := laid_taken (N := l.length + (sz + e) + 1) (l := []) (m := l.length) (by simp; omega)
  have t2 := laid_taken (N := l.length + (sz + e) + 1) (l := List.replicate l.length 0) (m := sz) (by simp; omega)
  have t3 := laid_taken (N := l.length + (sz + e) + 1) (l := List.replicate (l.length + sz) 0) (m := e + 1) (by simp; omega)
  rw [List.replicate_append_replicate, List.length_replicate] at t2 t3
  rw [show l.length + sz + (e + 1) = l.length + (sz + e) + 1 by omega] at t3
  simp only [List.nil_append, List.length_nil, Int.natCast_zero] at t1
  rw [← new_laid] at t1
  obtain ⟨p1, p2⟩ := rlm_store (l := l) (n := sz + e)
  have c0 : (l.length : Int) + sz + (e + 1 : Nat) = ((l.length + (sz + e) + 1 : Nat) : Int) := by omega
  have c1 : ((l.length + (sz + e) + 1 : Nat) : Int) ≤ 1048576 := by omega
  have c3 : (1 : Int) ≤ ((l.length + (sz + e) + 1 : Nat) : Int) := by omega
  have hw : L ≤ hp.length + 2 ∧ L ≤ hp.length + 2 + 1 := by have := hF.1; omega
  have hh1 := hF.not1 2
  have hh2 : H.contains (hp.length + 2 + 1) = false := hF.not1 3
  have hz : ∀ n, By (List.replicate n 0) := fun n x hx => by rw [List.mem_replicate] at hx; omega
  have k0 : ArOk (hp.length + 4) (hp.length + 2) (hp.length + 2 + 1) H (Arn.new (l.length + (sz + e) + 1)) := ArOk.new (by omega) (by omega) (by omega) (by omega) hh1 hh2
  have k1 : ArOk (hp.length + 4) (hp.length + 2) (hp.length + 2 + 1) H (Arn.laid (l.length + (sz + e) + 1) (List.replicate l.length 0)) := ArOk.laid (by omega) (by omega) (by omega) (hz _) (by simp; omega) (by omega) hh1 hh2
  have k2 : ArOk (hp.length + 4) (hp.length + 2) (hp.length + 2 + 1) H (Arn.laid (l.length + (sz + e) + 1) (List.replicate (l.length + sz) 0)) := ArOk.laid (by omega) (by omega) (by omega) (hz _) (by simp; omega) (by omega) hh1 hh2
  have k3 : ArOk (hp.length + 4) (hp.length + 2) (hp.length + 2 + 1) H (Arn.laid (l.length + (sz + e) + 1) (List.replicate (l.length + (sz + e) + 1) 0)) := ArOk.laid (by omega) (by omega) (by omega) (hz _) (by simp) (by omega) hh1 hh2
  have e4 : ∀ (B0 B1 : Blk) (nw : List Blk), hp.length + 4 ≤ (hp ++ (B0 :: B1 :: default :: default :: nw)).length := fun _ _ _ => by simp
  have tk1 := fun B0 B1 nw => take_walk (d := []) (hp := hp ++ (B0 :: B1 :: default :: default :: nw)) (r := hp.length + 2) (q := hp.length + 2 + 1) (L := L) (H := H) (hF.mono (by simp)) (k0.mono (e4 B0 B1 nw)) hw l.length
  have tk2 := fun B0 B1 nw => take_walk (d := []) (hp := hp ++ (B0 :: B1 :: default :: default :: nw)) (r := hp.length + 2) (q := hp.length + 2 + 1) (L := L) (H := H) (hF.mono (by simp)) (k1.mono (e4 B0 B1 nw)) hw sz
  have tk3 := fun B0 B1 nw => take_walk (d := []) (hp := hp ++ (B0 :: B1 :: default :: default :: nw)) (r := hp.length + 2) (q := hp.length + 2 + 1) (L := L) (H := H) (hF.mono (by simp)) (k2.mono (e4 B0 B1 nw)) hw (e + 1 : Nat)
  have st := fun B0 B1 nw => store_walk (d := []) (hp := hp ++ (B0 :: B1 :: default :: default :: nw)) (r := hp.length + 2) (q := hp.length + 2 + 1) (L := L) (H := H) (by omega : l.length ≤ 1048576) (hF.mono (by simp)) (k3.mono (e4 B0 B1 nw)) hw 0 l.length 0 (fun nw => by rw [List.append_assoc]; exact hr.put (by omega) (by omega))
  simp only [t1] at tk1
  simp only [t2] at tk2
  simp only [t3] at tk3
  simp only [p1, p2] at st
  have hnat : (((l.length + (sz + e) + 1 : Nat) : Int)).toNat = l.length + (sz + e) + 1 := by omega
  rw [Lrun_sym 33 _ _ fn33]
  by_cases hk : kk > 0
  · rw [if_pos hk] at hs
    have hk0 : ¬ kk = 0 := by omega
    have hm : 1024 * (l.length : Int).tdiv kk = sz := hs
    have hbd : 0 ≤ (l.length : Int).tdiv kk ∧ (l.length : Int).tdiv kk ≤ 1000 := by omega
    simp (disch := (first | omega | (simp only [lnE, put_length] <;> omega) | (refine Fit.mono ‹Fit _ _ _› ?_ <;> (simp only [lnE, put_length] <;> omega)) | (refine Fit.draw ‹Fit _ _ _› ?_ ?_ <;> (simp only [lnE, put_length] <;> omega)) | (refine Fit.hid1 ‹Fit _ _ _› ?_ ?_ <;> (simp only [lnE, put_length] <;> omega)) | (refine Fit.draw1 ‹Fit _ _ _› ?_ ?_ ?_ <;> (simp only [lnE, put_length] <;> omega)) | (refine Fit.range0 ?_ ?_ <;> (simp only [lnE, put_length] <;> omega)) | (refine ArOk.mono ‹ArOk _ _ _ _ _› ?_ <;> (simp only [lnE, put_length] <;> omega)) | (refine ArOk.hid ‹ArOk _ _ _ _ _› ?_ ?_ <;> (simp only [lnE, put_length] <;> omega)) | (refine ArOk.hid0 ‹ArOk _ _ _ _ _› ?_ ?_ <;> (simp only [lnE, put_length] <;> omega)) | ((intro xr hxr; simp [AM.refs, refsF, refsC] at hxr) <;> (simp only [lnE, put_length] <;> omega)) | fail)) only [syA, syB, argFr, D, E, T, C, undefv, eqF, aeq, sheqs, sheq, rdCells, cellsOf, fill, putAt, if_true, if_false, reduceIte, ↓reduceIte, reduceCtorEq, eq_self, Nat.reduceEqDiff, Nat.reduceAdd, Nat.reduceSub, Nat.reduceMul, Nat.reduceLT, Nat.reduceLeDiff, Nat.reducePow, Nat.reduceDiv, Nat.reduceMod, Int.reduceLT, Int.reduceLE, Int.reduceGT, Int.reduceGE, Int.reduceToNat, Int.reducePow, Int.reduceNeg, Int.reduceBEq, Int.reduceBNe, Int.reduceEq, Int.reduceAdd, Int.reduceSub, Int.reduceMul, cellv, sc, flatv, refs, refsF, refsC, syR, Int.le_refl, hF.not0, hF.not1, hF.up0, hF.up1, ac33, hlen, hk, hk0, hm, new_walk, c0, c1, c3, hnat, tk1, tk2, tk3, st]
    rw [gc_put_new (by omega) (by simp) (by omega) (by simp) (by omega) (by simp [refs, refsF, refsC, arP])]
    simp [gcX, ren, renF, renC, joinDirty, List.idxOf, List.findIdx_cons, arP]
  · rw [if_neg hk] at hs
    have hz0 : sz = 0 := by omega
    subst hz0
    simp only [Int.natCast_zero, Int.add_zero, Nat.zero_add, Nat.add_zero] at *
    simp (disch := (first | omega | (simp only [lnE, put_length] <;> omega) | (refine Fit.mono ‹Fit _ _ _› ?_ <;> (simp only [lnE, put_length] <;> omega)) | (refine Fit.draw ‹Fit _ _ _› ?_ ?_ <;> (simp only [lnE, put_length] <;> omega)) | (refine Fit.hid1 ‹Fit _ _ _› ?_ ?_ <;> (simp only [lnE, put_length] <;> omega)) | (refine Fit.draw1 ‹Fit _ _ _› ?_ ?_ ?_ <;> (simp only [lnE, put_length] <;> omega)) | (refine Fit.range0 ?_ ?_ <;> (simp only [lnE, put_length] <;> omega)) | (refine ArOk.mono ‹ArOk _ _ _ _ _› ?_ <;> (simp only [lnE, put_length] <;> omega)) | (refine ArOk.hid ‹ArOk _ _ _ _ _› ?_ ?_ <;> (simp only [lnE, put_length] <;> omega)) | (refine ArOk.hid0 ‹ArOk _ _ _ _ _› ?_ ?_ <;> (simp only [lnE, put_length] <;> omega)) | ((intro xr hxr; simp [AM.refs, refsF, refsC] at hxr) <;> (simp only [lnE, put_length] <;> omega)) | fail)) only [syA, syB, argFr, D, E, T, C, undefv, eqF, aeq, sheqs, sheq, rdCells, cellsOf, fill, putAt, if_true, if_false, reduceIte, ↓reduceIte, reduceCtorEq, eq_self, Nat.reduceEqDiff, Nat.reduceAdd, Nat.reduceSub, Nat.reduceMul, Nat.reduceLT, Nat.reduceLeDiff, Nat.reducePow, Nat.reduceDiv, Nat.reduceMod, Int.reduceLT, Int.reduceLE, Int.reduceGT, Int.reduceGE, Int.reduceToNat, Int.reducePow, Int.reduceNeg, Int.reduceBEq, Int.reduceBNe, Int.reduceEq, Int.reduceAdd, Int.reduceSub, Int.reduceMul, cellv, sc, flatv, refs, refsF, refsC, syR, Int.le_refl, hF.not0, hF.not1, hF.up0, hF.up1, ac33, hlen, hk, new_walk, c0, c1, c3, hnat, tk1, tk2, tk3, st]
    rw [gc_put_new (by omega) (by simp) (by omega) (by simp) (by omega) (by simp [refs, refsF, refsC, arP])]
    simp [gcX, ren, renF, renC, joinDirty, List.idxOf, List.findIdx_cons, arP]
end ArA
end Go.Proofs.Ytlbdgbfblgjjgaa
