/-
  THE REFERENCE'S ARENA on the abstract machine: SetWord, Load, Store. Conditions: none.
-/
import Derived.Test.YtfefeikkjebfoaaRaA
set_option linter.all false
namespace Go.Proofs.Ytfefeikkjebfoaa
namespace ArA
open Go Go.RowKit AM ArEnv
section
variable {hp : List Blk} {r q L : Nat} {H d : List Nat} {A : Arn}
theorem rasetw_walk (hF : Fit hp.length L H) (k : ArOk hp.length r q H A) (hw : L ≤ r ∧ L ≤ q) (s len i : Int) (v : Nat) (hv : v < 4294967296) :
    Lrun env (.func 64) [arP r, .agg #[.int .i64 s, .int .i64 len], .int .i64 i, .int .u32 v] ⟨put hp r q A, L, H, d⟩ = some (.bool (A.wpart s len i), ⟨put hp r q (A.setWord s len i v), L, H, d⟩) := by
  have h1 := k.r_lt
  have h2 := k.q_lt
  have h3 := k.live0
  have h4 := k.live1
  have h5 := k.size
  have hne := k.ne
  have hin := fun nw => rawd_walk (d := []) (L := L) (H := H) (hp := hp ++ nw) (r := r) (q := q) (hF.mono (by simp)) (k.mono (by simp)) s len i
  rw [Lrun_sym 64 _ _ fn64]
  cases hh : A.wpart s len i with
  | false =>
    simp (disch := (first | omega | (simp only [lnE, put_length] <;> omega) | (refine Fit.mono ‹Fit _ _ _› ?_ <;> (simp only [lnE, put_length] <;> omega)) | (refine Fit.draw ‹Fit _ _ _› ?_ ?_ <;> (simp only [lnE, put_length] <;> omega)) | (refine Fit.hid1 ‹Fit _ _ _› ?_ ?_ <;> (simp only [lnE, put_length] <;> omega)) | (refine Fit.hidc1 ‹Fit _ _ _› ?_ ?_ <;> (simp only [lnE, put_length] <;> omega)) | (refine Fit.hidc2 ‹Fit _ _ _› ?_ ?_ ?_ <;> (simp only [lnE, put_length] <;> omega)) | (refine Fit.draw1 ‹Fit _ _ _› ?_ ?_ ?_ <;> (simp only [lnE, put_length] <;> omega)) | (refine Fit.range0 ?_ ?_ <;> (simp only [lnE, put_length] <;> omega)) | (refine ArOk.mono ‹ArOk _ _ _ _ _› ?_ <;> (simp only [lnE, put_length] <;> omega)) | (refine ArOk.hid ‹ArOk _ _ _ _ _› ?_ ?_ <;> (simp only [lnE, put_length] <;> omega)) | (refine ArOk.hid0 ‹ArOk _ _ _ _ _› ?_ ?_ <;> (simp only [lnE, put_length] <;> omega)) | ((intro xr hxr; simp [AM.refs, refsF, refsC] at hxr) <;> (simp only [lnE, put_length] <;> omega)) | fail)) only [syA, syB, argFr, D, E, T, C, undefv, eqF, aeq, sheqs, sheq, rdCells, cellsOf, fill, putAt, if_true, if_false, reduceIte, ↓reduceIte, reduceCtorEq, eq_self, Nat.reduceEqDiff, Nat.reduceAdd, Nat.reduceSub, Nat.reduceMul, Nat.reduceLT, Nat.reduceLeDiff, Nat.reducePow, Nat.reduceDiv, Nat.reduceMod, Int.reduceLT, Int.reduceLE, Int.reduceGT, Int.reduceGE, Int.reduceToNat, Int.reducePow, Int.reduceNeg, Int.reduceBEq, Int.reduceBNe, Int.reduceEq, Int.reduceAdd, Int.reduceSub, Int.reduceMul, cellv, sc, flatv, refs, refsF, refsC, syR, Int.le_refl, hF.not0, hF.not1, hF.up0, hF.up1, k.hr, k.hq, ac64, hin, hh]
    simp [Arn.setWord, hh]
  | true =>
    have hp4 := k.wpart_le hh
    obtain ⟨w0, w1, w2, w3, w4⟩ := hp4
    have hql : (q < L) = False := eq_false (by omega)
    obtain ⟨w, hwe⟩ : ∃ w : Nat, s + 4 * i = (w : Nat) := ⟨(s + 4 * i).toNat, by omega⟩
    have hwl : w + 4 ≤ A.bs.length := by omega
    have r0 : 0 ≤ (w : Int) ∧ (w : Int) < (A.bs.length : Int) := by omega
    have r1 : 0 ≤ (w : Int) + 1 ∧ (w : Int) + 1 < (A.bs.length : Int) := by omega
    have r2 : 0 ≤ (w : Int) + 2 ∧ (w : Int) + 2 < (A.bs.length : Int) := by omega
    have r3 : 0 ≤ (w : Int) + 3 ∧ (w : Int) + 3 < (A.bs.length : Int) := by omega
    have t1 : ((w : Int) + 1).toNat = w + 1 := by omega
    have t2 : ((w : Int) + 2).toNat = w + 2 := by omega
    have t3 : ((w : Int) + 3).toNat = w + 3 := by omega
    have b0 : w + 1 ≤ A.bs.length := by omega
    have b1 : w + 1 + 1 ≤ A.bs.length := by omega
    have b2 : w + 2 + 1 ≤ A.bs.length := by omega
    have b3 : w + 3 + 1 ≤ A.bs.length := by omega
    have d0 : (v : Int).tmod 256 = ((v % 256 : Nat) : Int) := by rw [tmod_pos (by omega)]; omega
    have d1 : ((v : Int).tdiv 256).tmod 256 = ((v / 256 % 256 : Nat) : Int) := by rw [tdiv_pos (by omega), tmod_pos (by omega)]; omega
    have d2 : ((v : Int).tdiv 65536).tmod 256 = ((v / 65536 % 256 : Nat) : Int) := by rw [tdiv_pos (by omega), tmod_pos (by omega)]; omega
    have d3 : (v : Int).tdiv 16777216 = ((v / 16777216 % 256 : Nat) : Int) := by rw [tdiv_pos (by omega)]; omega
    have q1 : 0 ≤ (v : Int).tdiv 256 ∧ (v : Int).tdiv 256 ≤ 4294967295 := by rw [tdiv_pos (by omega)]; omega
    have q2 : 0 ≤ (v : Int).tdiv 65536 ∧ (v : Int).tdiv 65536 ≤ 4294967295 := by rw [tdiv_pos (by omega)]; omega
    have wr : ∀ n : Nat, IntKind.u8.wrap ((n % 256 : Nat) : Int) = ((n % 256 : Nat) : Int) := fun n => by rw [wu8m]; omega
    have ev : A.setWord s len i v = ⟨(((A.bs.set w (v % 256)).set (w + 1) (v / 256 % 256)).set (w + 2) (v / 65536 % 256)).set (w + 3) (v / 16777216 % 256), A.live, A.peak⟩ := by
      unfold Arn.setWord
      rw [if_pos hh]
      unfold Arn.setAt
      rw [hwe, Int.toNat_natCast]
      unfold split4
      rw [putN_four hwl]
    rw [ev]
    simp (disch := (first | omega | (simp only [lnE, put_length] <;> omega) | (refine Fit.mono ‹Fit _ _ _› ?_ <;> (simp only [lnE, put_length] <;> omega)) | (refine Fit.draw ‹Fit _ _ _› ?_ ?_ <;> (simp only [lnE, put_length] <;> omega)) | (refine Fit.hid1 ‹Fit _ _ _› ?_ ?_ <;> (simp only [lnE, put_length] <;> omega)) | (refine Fit.hidc1 ‹Fit _ _ _› ?_ ?_ <;> (simp only [lnE, put_length] <;> omega)) | (refine Fit.hidc2 ‹Fit _ _ _› ?_ ?_ ?_ <;> (simp only [lnE, put_length] <;> omega)) | (refine Fit.draw1 ‹Fit _ _ _› ?_ ?_ ?_ <;> (simp only [lnE, put_length] <;> omega)) | (refine Fit.range0 ?_ ?_ <;> (simp only [lnE, put_length] <;> omega)) | (refine ArOk.mono ‹ArOk _ _ _ _ _› ?_ <;> (simp only [lnE, put_length] <;> omega)) | (refine ArOk.hid ‹ArOk _ _ _ _ _› ?_ ?_ <;> (simp only [lnE, put_length] <;> omega)) | (refine ArOk.hid0 ‹ArOk _ _ _ _ _› ?_ ?_ <;> (simp only [lnE, put_length] <;> omega)) | ((intro xr hxr; simp [AM.refs, refsF, refsC] at hxr) <;> (simp only [lnE, put_length] <;> omega)) | fail)) only [syA, syB, argFr, D, E, T, C, undefv, eqF, aeq, sheqs, sheq, rdCells, cellsOf, fill, putAt, if_true, if_false, reduceIte, ↓reduceIte, reduceCtorEq, eq_self, Nat.reduceEqDiff, Nat.reduceAdd, Nat.reduceSub, Nat.reduceMul, Nat.reduceLT, Nat.reduceLeDiff, Nat.reducePow, Nat.reduceDiv, Nat.reduceMod, Int.reduceLT, Int.reduceLE, Int.reduceGT, Int.reduceGE, Int.reduceToNat, Int.reducePow, Int.reduceNeg, Int.reduceBEq, Int.reduceBNe, Int.reduceEq, Int.reduceAdd, Int.reduceSub, Int.reduceMul, cellv, sc, flatv, refs, refsF, refsC, syR, Int.le_refl, hF.not0, hF.not1, hF.up0, hF.up1, k.hr, k.hq, ac64, hin, hh, hwe, hql, r0, r1, r2, r3, t1, t2, t3, b0, b1, b2, b3, d0, d1, d2, d3, q1, q2, wr, List.length_set]
theorem raload_walk (hF : Fit hp.length L H) (k : ArOk hp.length r q H A) (s n : Int) :
    Lrun env (.func 32) [arP r, .agg #[.int .i64 s, .int .i64 n]] ⟨put hp r q A, L, H, d⟩ = some (sl hp.length ((A.loadO s n).getD []).length (A.loadO s n), ⟨put (hp ++ slB ((A.loadO s n).getD []).length (A.loadO s n)) r q A, L, H, d⟩) := by
  have h1 := k.r_lt
  have h2 := k.q_lt
  have h3 := k.live0
  have h4 := k.live1
  have h5 := k.size
  have hne := k.ne
  have hw := fun nw s n => rfhas_walk (d := []) (L := L) (H := H) (hp := hp ++ nw) (r := r) (q := q) (hF.mono (by simp)) (k.mono (by simp)) s n
  rw [Lrun_sym 32 _ _ fn32]
  cases hh : A.has s n with
  | false =>
    simp (disch := (first | omega | (simp only [lnE, put_length] <;> omega) | (refine Fit.mono ‹Fit _ _ _› ?_ <;> (simp only [lnE, put_length] <;> omega)) | (refine Fit.draw ‹Fit _ _ _› ?_ ?_ <;> (simp only [lnE, put_length] <;> omega)) | (refine Fit.hid1 ‹Fit _ _ _› ?_ ?_ <;> (simp only [lnE, put_length] <;> omega)) | (refine Fit.hidc1 ‹Fit _ _ _› ?_ ?_ <;> (simp only [lnE, put_length] <;> omega)) | (refine Fit.hidc2 ‹Fit _ _ _› ?_ ?_ ?_ <;> (simp only [lnE, put_length] <;> omega)) | (refine Fit.draw1 ‹Fit _ _ _› ?_ ?_ ?_ <;> (simp only [lnE, put_length] <;> omega)) | (refine Fit.range0 ?_ ?_ <;> (simp only [lnE, put_length] <;> omega)) | (refine ArOk.mono ‹ArOk _ _ _ _ _› ?_ <;> (simp only [lnE, put_length] <;> omega)) | (refine ArOk.hid ‹ArOk _ _ _ _ _› ?_ ?_ <;> (simp only [lnE, put_length] <;> omega)) | (refine ArOk.hid0 ‹ArOk _ _ _ _ _› ?_ ?_ <;> (simp only [lnE, put_length] <;> omega)) | ((intro xr hxr; simp [AM.refs, refsF, refsC] at hxr) <;> (simp only [lnE, put_length] <;> omega)) | fail)) only [syA, syB, argFr, D, E, T, C, undefv, eqF, aeq, sheqs, sheq, rdCells, cellsOf, fill, putAt, if_true, if_false, reduceIte, ↓reduceIte, reduceCtorEq, eq_self, Nat.reduceEqDiff, Nat.reduceAdd, Nat.reduceSub, Nat.reduceMul, Nat.reduceLT, Nat.reduceLeDiff, Nat.reducePow, Nat.reduceDiv, Nat.reduceMod, Int.reduceLT, Int.reduceLE, Int.reduceGT, Int.reduceGE, Int.reduceToNat, Int.reducePow, Int.reduceNeg, Int.reduceBEq, Int.reduceBNe, Int.reduceEq, Int.reduceAdd, Int.reduceSub, Int.reduceMul, cellv, sc, flatv, refs, refsF, refsC, syR, Int.le_refl, hF.not0, hF.not1, hF.up0, hF.up1, k.hr, k.hq, ac32, hw, hh, Arn.loadO, sl_none, slB_none]
  | true =>
    have hh' := Arn.has_iff.1 hh
    obtain ⟨s, rfl⟩ := Int.eq_ofNat_of_zero_le hh'.1
    obtain ⟨n, rfl⟩ := Int.eq_ofNat_of_zero_le hh'.2.1
    have c3 : 0 ≤ (s : Int) ∧ (s : Int) ≤ (s : Int) + n ∧ (s : Int) + n ≤ (A.bs.length : Int) := by omega
    have e1 : ((s : Int) + (n : Int)).toNat - s = n := by omega
    have hl : ((A.bs.drop s).take n).length = n := by simp; omega
    have hlo : A.loadO s n = some ((A.bs.drop s).take n) := by unfold Arn.loadO; rw [if_pos hh, Int.toNat_natCast, Int.toNat_natCast]
    have hcs : ((u8s A.bs).drop s).take n = u8s ((A.bs.drop s).take n) := by rw [← u8s_drop, ← u8s_take]
    have sm : AM.small 0 = true := rfl
    have c6 : s + n ≤ A.bs.length := by omega
    rw [hlo]
    generalize (A.bs.drop s).take n = x at *
    subst hl
    have a1 := append_lit0 (hp := put (hp ++ [.cells 0 true [.int .i64 s, .int .i64 x.length]]) r q A) (L := L) (H := H) (d := []) (l := x) (by rw [put_length]; exact hF.mono (by simp)) (by omega)
    rw [put_app (by simp; omega) (by simp; omega), put_app (by simp; omega) (by simp; omega)] at a1
    simp only [put_length, List.append_assoc, List.cons_append, List.nil_append, List.length_append, List.length_cons, List.length_nil, Nat.zero_add, Nat.reduceAdd] at a1
    simp (disch := (first | omega | (simp only [lnE, put_length] <;> omega) | (refine Fit.mono ‹Fit _ _ _› ?_ <;> (simp only [lnE, put_length] <;> omega)) | (refine Fit.draw ‹Fit _ _ _› ?_ ?_ <;> (simp only [lnE, put_length] <;> omega)) | (refine Fit.hid1 ‹Fit _ _ _› ?_ ?_ <;> (simp only [lnE, put_length] <;> omega)) | (refine Fit.hidc1 ‹Fit _ _ _› ?_ ?_ <;> (simp only [lnE, put_length] <;> omega)) | (refine Fit.hidc2 ‹Fit _ _ _› ?_ ?_ ?_ <;> (simp only [lnE, put_length] <;> omega)) | (refine Fit.draw1 ‹Fit _ _ _› ?_ ?_ ?_ <;> (simp only [lnE, put_length] <;> omega)) | (refine Fit.range0 ?_ ?_ <;> (simp only [lnE, put_length] <;> omega)) | (refine ArOk.mono ‹ArOk _ _ _ _ _› ?_ <;> (simp only [lnE, put_length] <;> omega)) | (refine ArOk.hid ‹ArOk _ _ _ _ _› ?_ ?_ <;> (simp only [lnE, put_length] <;> omega)) | (refine ArOk.hid0 ‹ArOk _ _ _ _ _› ?_ ?_ <;> (simp only [lnE, put_length] <;> omega)) | ((intro xr hxr; simp [AM.refs, refsF, refsC] at hxr) <;> (simp only [lnE, put_length] <;> omega)) | fail)) only [syA, syB, argFr, D, E, T, C, undefv, eqF, aeq, sheqs, sheq, rdCells, cellsOf, fill, putAt, if_true, if_false, reduceIte, ↓reduceIte, reduceCtorEq, eq_self, Nat.reduceEqDiff, Nat.reduceAdd, Nat.reduceSub, Nat.reduceMul, Nat.reduceLT, Nat.reduceLeDiff, Nat.reducePow, Nat.reduceDiv, Nat.reduceMod, Int.reduceLT, Int.reduceLE, Int.reduceGT, Int.reduceGE, Int.reduceToNat, Int.reducePow, Int.reduceNeg, Int.reduceBEq, Int.reduceBNe, Int.reduceEq, Int.reduceAdd, Int.reduceSub, Int.reduceMul, cellv, sc, flatv, refs, refsF, refsC, syR, Int.le_refl, hF.not0, hF.not1, hF.up0, hF.up1, k.hr, k.hq, ac32, hw, hh, sm, c3, e1, c6, a1, hcs, sl_some, slB_some, Option.getD_some]
    rw [gc_keep 1 rfl (by simp [refs, refsF, refsC, put_length]) (by simp [refs, refsF, refsC, put_length])]
    simp (disch := (first | omega | (simp only [lnE, put_length] <;> omega) | (refine Fit.mono ‹Fit _ _ _› ?_ <;> (simp only [lnE, put_length] <;> omega)) | (refine Fit.draw ‹Fit _ _ _› ?_ ?_ <;> (simp only [lnE, put_length] <;> omega)) | (refine Fit.hid1 ‹Fit _ _ _› ?_ ?_ <;> (simp only [lnE, put_length] <;> omega)) | (refine Fit.hidc1 ‹Fit _ _ _› ?_ ?_ <;> (simp only [lnE, put_length] <;> omega)) | (refine Fit.hidc2 ‹Fit _ _ _› ?_ ?_ ?_ <;> (simp only [lnE, put_length] <;> omega)) | (refine Fit.draw1 ‹Fit _ _ _› ?_ ?_ ?_ <;> (simp only [lnE, put_length] <;> omega)) | (refine Fit.range0 ?_ ?_ <;> (simp only [lnE, put_length] <;> omega)) | (refine ArOk.mono ‹ArOk _ _ _ _ _› ?_ <;> (simp only [lnE, put_length] <;> omega)) | (refine ArOk.hid ‹ArOk _ _ _ _ _› ?_ ?_ <;> (simp only [lnE, put_length] <;> omega)) | (refine ArOk.hid0 ‹ArOk _ _ _ _ _› ?_ ?_ <;> (simp only [lnE, put_length] <;> omega)) | ((intro xr hxr; simp [AM.refs, refsF, refsC] at hxr) <;> (simp only [lnE, put_length] <;> omega)) | fail)) only [syA, syB, argFr, D, E, T, C, undefv, eqF, aeq, sheqs, sheq, rdCells, cellsOf, fill, putAt, if_true, if_false, reduceIte, ↓reduceIte, reduceCtorEq, eq_self, Nat.reduceEqDiff, Nat.reduceAdd, Nat.reduceSub, Nat.reduceMul, Nat.reduceLT, Nat.reduceLeDiff, Nat.reducePow, Nat.reduceDiv, Nat.reduceMod, Int.reduceLT, Int.reduceLE, Int.reduceGT, Int.reduceGE, Int.reduceToNat, Int.reducePow, Int.reduceNeg, Int.reduceBEq, Int.reduceBNe, Int.reduceEq, Int.reduceAdd, Int.reduceSub, Int.reduceMul, cellv, sc, flatv, refs, refsF, refsC, syR, Int.le_refl, hF.not0, hF.not1, hF.up0, hF.up1, k.hr, k.hq, ren, renF, renC, one_new]
end
end ArA
end Go.Proofs.Ytfefeikkjebfoaa
