/-
  RANKS: a text laid into an arena. Conditions: none.
-/
import Derived.Test.YtfefeikkjebfoaaRkC
set_option linter.all false
namespace Go.Proofs.Ytfefeikkjebfoaa
namespace ArA
open Go Go.RowKit AM ArEnv

theorem rsize_walk {hp : List Blk} {L : Nat} {H d : List Nat} (hF : Fit hp.length L H) (m k : Int) : Lrun env (.func 51) [.int .i64 m, .int .i64 k] ⟨hp, L, H, d⟩ = some (.int .i64 (rSize m k), ⟨hp, L, H, d⟩) := by
  rw [Lrun_sym 51 _ _ fn51]
  have hb := rSize_le m k
  by_cases h : 0 ≤ m ∧ m ≤ 65536 ∧ 1 ≤ k ∧ k ≤ 65536
  · have e : rSize m k = 1024 * m.tdiv k := by unfold rSize; rw [if_pos h, Int.mul_comm]
    rw [e] at hb ⊢
    have c1 : ¬ m < 0 := by omega
    have c2 : ¬ m > 65536 := by omega
    have c3 : ¬ k < 1 := by omega
    have c4 : ¬ k > 65536 := by omega
    have hk0 : ¬ k = 0 := by omega
    simp (disch := (first | omega | (simp only [lnE] <;> omega) | (refine Fit.mono ‹Fit _ _ _› ?_ <;> (simp only [lnE] <;> omega)) | (refine Fit.draw ‹Fit _ _ _› ?_ ?_ <;> (simp only [lnE] <;> omega)) | (refine Fit.hid1 ‹Fit _ _ _› ?_ ?_ <;> (simp only [lnE] <;> omega)) | (refine Fit.hidc1 ‹Fit _ _ _› ?_ ?_ <;> (simp only [lnE] <;> omega)) | (refine Fit.hidc2 ‹Fit _ _ _› ?_ ?_ ?_ <;> (simp only [lnE] <;> omega)) | (refine Fit.draw1 ‹Fit _ _ _› ?_ ?_ ?_ <;> (simp only [lnE] <;> omega)) | (refine Fit.range0 ?_ ?_ <;> (simp only [lnE] <;> omega)) | fail)) only [syA, syB, argFr, D, E, T, C, undefv, eqF, aeq, sheqs, sheq, rdCells, cellsOf, fill, putAt, if_true, if_false, reduceIte, ↓reduceIte, reduceCtorEq, eq_self, Nat.reduceEqDiff, Nat.reduceAdd, Nat.reduceSub, Nat.reduceMul, Nat.reduceLT, Nat.reduceLeDiff, Nat.reducePow, Nat.reduceDiv, Nat.reduceMod, Int.reduceLT, Int.reduceLE, Int.reduceGT, Int.reduceGE, Int.reduceToNat, Int.reducePow, Int.reduceNeg, Int.reduceBEq, Int.reduceBNe, Int.reduceEq, Int.reduceAdd, Int.reduceSub, Int.reduceMul, cellv, sc, flatv, refs, refsF, refsC, hF.not0, hF.not1, hF.up0, hF.up1, ac51, c1, c2, c3, c4, hk0]
  · have e : rSize m k = 0 := by unfold rSize; rw [if_neg h]
    rw [e]
    by_cases c1 : m < 0
    · simp (disch := (first | omega | (simp only [lnE] <;> omega) | (refine Fit.mono ‹Fit _ _ _› ?_ <;> (simp only [lnE] <;> omega)) | (refine Fit.draw ‹Fit _ _ _› ?_ ?_ <;> (simp only [lnE] <;> omega)) | (refine Fit.hid1 ‹Fit _ _ _› ?_ ?_ <;> (simp only [lnE] <;> omega)) | (refine Fit.hidc1 ‹Fit _ _ _› ?_ ?_ <;> (simp only [lnE] <;> omega)) | (refine Fit.hidc2 ‹Fit _ _ _› ?_ ?_ ?_ <;> (simp only [lnE] <;> omega)) | (refine Fit.draw1 ‹Fit _ _ _› ?_ ?_ ?_ <;> (simp only [lnE] <;> omega)) | (refine Fit.range0 ?_ ?_ <;> (simp only [lnE] <;> omega)) | fail)) only [syA, syB, argFr, D, E, T, C, undefv, eqF, aeq, sheqs, sheq, rdCells, cellsOf, fill, putAt, if_true, if_false, reduceIte, ↓reduceIte, reduceCtorEq, eq_self, Nat.reduceEqDiff, Nat.reduceAdd, Nat.reduceSub, Nat.reduceMul, Nat.reduceLT, Nat.reduceLeDiff, Nat.reducePow, Nat.reduceDiv, Nat.reduceMod, Int.reduceLT, Int.reduceLE, Int.reduceGT, Int.reduceGE, Int.reduceToNat, Int.reducePow, Int.reduceNeg, Int.reduceBEq, Int.reduceBNe, Int.reduceEq, Int.reduceAdd, Int.reduceSub, Int.reduceMul, cellv, sc, flatv, refs, refsF, refsC, hF.not0, hF.not1, hF.up0, hF.up1, ac51, c1]
    by_cases c2 : m > 65536
    · simp (disch := (first | omega | (simp only [lnE] <;> omega) | (refine Fit.mono ‹Fit _ _ _› ?_ <;> (simp only [lnE] <;> omega)) | (refine Fit.draw ‹Fit _ _ _› ?_ ?_ <;> (simp only [lnE] <;> omega)) | (refine Fit.hid1 ‹Fit _ _ _› ?_ ?_ <;> (simp only [lnE] <;> omega)) | (refine Fit.hidc1 ‹Fit _ _ _› ?_ ?_ <;> (simp only [lnE] <;> omega)) | (refine Fit.hidc2 ‹Fit _ _ _› ?_ ?_ ?_ <;> (simp only [lnE] <;> omega)) | (refine Fit.draw1 ‹Fit _ _ _› ?_ ?_ ?_ <;> (simp only [lnE] <;> omega)) | (refine Fit.range0 ?_ ?_ <;> (simp only [lnE] <;> omega)) | fail)) only [syA, syB, argFr, D, E, T, C, undefv, eqF, aeq, sheqs, sheq, rdCells, cellsOf, fill, putAt, if_true, if_false, reduceIte, ↓reduceIte, reduceCtorEq, eq_self, Nat.reduceEqDiff, Nat.reduceAdd, Nat.reduceSub, Nat.reduceMul, Nat.reduceLT, Nat.reduceLeDiff, Nat.reducePow, Nat.reduceDiv, Nat.reduceMod, Int.reduceLT, Int.reduceLE, Int.reduceGT, Int.reduceGE, Int.reduceToNat, Int.reducePow, Int.reduceNeg, Int.reduceBEq, Int.reduceBNe, Int.reduceEq, Int.reduceAdd, Int.reduceSub, Int.reduceMul, cellv, sc, flatv, refs, refsF, refsC, hF.not0, hF.not1, hF.up0, hF.up1, ac51, c1, c2]
    by_cases c3 : k < 1
    · simp (disch := (first | omega | (simp only [lnE] <;> omega) | (refine Fit.mono ‹Fit _ _ _› ?_ <;> (simp only [lnE] <;> omega)) | (refine Fit.draw ‹Fit _ _ _› ?_ ?_ <;> (simp only [lnE] <;> omega)) | (refine Fit.hid1 ‹Fit _ _ _› ?_ ?_ <;> (simp only [lnE] <;> omega)) | (refine Fit.hidc1 ‹Fit _ _ _› ?_ ?_ <;> (simp only [lnE] <;> omega)) | (refine Fit.hidc2 ‹Fit _ _ _› ?_ ?_ ?_ <;> (simp only [lnE] <;> omega)) | (refine Fit.draw1 ‹Fit _ _ _› ?_ ?_ ?_ <;> (simp only [lnE] <;> omega)) | (refine Fit.range0 ?_ ?_ <;> (simp only [lnE] <;> omega)) | fail)) only [syA, syB, argFr, D, E, T, C, undefv, eqF, aeq, sheqs, sheq, rdCells, cellsOf, fill, putAt, if_true, if_false, reduceIte, ↓reduceIte, reduceCtorEq, eq_self, Nat.reduceEqDiff, Nat.reduceAdd, Nat.reduceSub, Nat.reduceMul, Nat.reduceLT, Nat.reduceLeDiff, Nat.reducePow, Nat.reduceDiv, Nat.reduceMod, Int.reduceLT, Int.reduceLE, Int.reduceGT, Int.reduceGE, Int.reduceToNat, Int.reducePow, Int.reduceNeg, Int.reduceBEq, Int.reduceBNe, Int.reduceEq, Int.reduceAdd, Int.reduceSub, Int.reduceMul, cellv, sc, flatv, refs, refsF, refsC, hF.not0, hF.not1, hF.up0, hF.up1, ac51, c1, c2, c3]
    · have c4 : k > 65536 := by omega
      simp (disch := (first | omega | (simp only [lnE] <;> omega) | (refine Fit.mono ‹Fit _ _ _› ?_ <;> (simp only [lnE] <;> omega)) | (refine Fit.draw ‹Fit _ _ _› ?_ ?_ <;> (simp only [lnE] <;> omega)) | (refine Fit.hid1 ‹Fit _ _ _› ?_ ?_ <;> (simp only [lnE] <;> omega)) | (refine Fit.hidc1 ‹Fit _ _ _› ?_ ?_ <;> (simp only [lnE] <;> omega)) | (refine Fit.hidc2 ‹Fit _ _ _› ?_ ?_ ?_ <;> (simp only [lnE] <;> omega)) | (refine Fit.draw1 ‹Fit _ _ _› ?_ ?_ ?_ <;> (simp only [lnE] <;> omega)) | (refine Fit.range0 ?_ ?_ <;> (simp only [lnE] <;> omega)) | fail)) only [syA, syB, argFr, D, E, T, C, undefv, eqF, aeq, sheqs, sheq, rdCells, cellsOf, fill, putAt, if_true, if_false, reduceIte, ↓reduceIte, reduceCtorEq, eq_self, Nat.reduceEqDiff, Nat.reduceAdd, Nat.reduceSub, Nat.reduceMul, Nat.reduceLT, Nat.reduceLeDiff, Nat.reducePow, Nat.reduceDiv, Nat.reduceMod, Int.reduceLT, Int.reduceLE, Int.reduceGT, Int.reduceGE, Int.reduceToNat, Int.reducePow, Int.reduceNeg, Int.reduceBEq, Int.reduceBNe, Int.reduceEq, Int.reduceAdd, Int.reduceSub, Int.reduceMul, cellv, sc, flatv, refs, refsF, refsC, hF.not0, hF.not1, hF.up0, hF.up1, ac51, c1, c2, c3, c4]
/-- The text, the room for the marks, and one byte more. -/
def rl (l : List Nat) (sz : Nat) : Arn := Arn.laid (l.length + sz + 1) (l ++ List.replicate (sz + 1) 0)
theorem rl_store {l : List Nat} {sz : Nat} : (Arn.laid (l.length + sz + 1) (List.replicate (l.length + sz + 1) 0)).part 0 l.length 0 l.length = true ∧ (Arn.laid (l.length + sz + 1) (List.replicate (l.length + sz + 1) 0)).store 0 l.length 0 l = rl l sz := by
  have hp : (Arn.laid (l.length + sz + 1) (List.replicate (l.length + sz + 1) 0)).part 0 l.length 0 l.length = true := by
    rw [Arn.part_iff]; simp [Arn.laid]; omega
  refine ⟨hp, ?_⟩
  unfold Arn.store
  rw [if_pos hp]
  unfold Arn.setAt rl Arn.laid
  simp only [Int.zero_add, Int.toNat_zero, List.length_replicate, List.length_append, Nat.sub_self, List.replicate_zero, List.append_nil, Arn.mk.injEq]
  refine ⟨?_, by omega, by omega⟩
  unfold putN
  simp only [List.take_zero, List.nil_append, Nat.zero_add, List.drop_replicate]
  rw [show l.length + sz + 1 - l.length = sz + 1 by omega, show l.length + sz + 1 - (l.length + (sz + 1)) = 0 by omega, List.replicate_zero, List.append_nil]
theorem laid20_walk {hp : List Blk} {L : Nat} {H d : List Nat} {v : Value} {l : List Nat} {kk : Int} {sz : Nat} (hF : Fit hp.length L H) (hr : Rd ⟨hp, L, H, []⟩ v l) (hl : l.length ≤ 1000) (hs : rSize l.length kk = sz) (hsz : sz ≤ 1000000) :
    Lrun env (.func 58) [v, .int .i64 kk] ⟨hp, L, H, d⟩ =
      some (.tuple #[arP hp.length, .agg #[.int .i64 0, .int .i64 l.length], .agg #[.int .i64 l.length, .int .i64 sz]], ⟨put (hp ++ [default, default]) hp.length (hp.length + 1) (rl l sz), L, H, d⟩) := by
  have hlen := hr.lenF
  have t1 := laid_taken (N := l.length + sz + 1) (l := []) (m := l.length) (by simp; omega)
  have t2 := laid_taken (N := l.length + sz + 1) (l := List.replicate l.length 0) (m := sz) (by simp <;> omega)
  have t3 := laid_taken (N := l.length + sz + 1) (l := List.replicate (l.length + sz) 0) (m := 1) (by simp)
  rw [List.replicate_append_replicate, List.length_replicate] at t2 t3
  simp only [List.nil_append, List.length_nil, Int.natCast_zero] at t1
  rw [← new_laid] at t1
  obtain ⟨p1, p2⟩ := rl_store (l := l) (sz := sz)
  have c1 : (l.length : Int) + sz + 1 ≤ 1048576 := by omega
  have c2 : ((l.length : Int) + sz + 1).toNat = l.length + sz + 1 := by omega
  have c3 : (1 : Int) ≤ (l.length : Int) + sz + 1 := by omega
  have hw : L ≤ hp.length + 2 ∧ L ≤ hp.length + 2 + 1 := by have := hF.1; omega
  have hh1 := hF.not1 2
  have hh2 : H.contains (hp.length + 2 + 1) = false := hF.not1 3
  have hz : ∀ n, By (List.replicate n 0) := fun n x hx => by rw [List.mem_replicate] at hx; omega
  have k0 : ArOk (hp.length + 4) (hp.length + 2) (hp.length + 2 + 1) H (Arn.new (l.length + sz + 1)) := ArOk.new (by omega) (by omega) (by omega) (by omega) hh1 hh2
  have k1 : ArOk (hp.length + 4) (hp.length + 2) (hp.length + 2 + 1) H (Arn.laid (l.length + sz + 1) (List.replicate l.length 0)) := ArOk.laid (by omega) (by omega) (by omega) (hz _) (by simp <;> omega) (by omega) hh1 hh2
  have k2 : ArOk (hp.length + 4) (hp.length + 2) (hp.length + 2 + 1) H (Arn.laid (l.length + sz + 1) (List.replicate (l.length + sz) 0)) := ArOk.laid (by omega) (by omega) (by omega) (hz _) (by simp) (by omega) hh1 hh2
  have k3 : ArOk (hp.length + 4) (hp.length + 2) (hp.length + 2 + 1) H (Arn.laid (l.length + sz + 1) (List.replicate (l.length + sz + 1) 0)) := ArOk.laid (by omega) (by omega) (by omega) (hz _) (by simp) (by omega) hh1 hh2
  have e4 : ∀ (B0 B1 : Blk) (nw : List Blk), hp.length + 4 ≤ (hp ++ (B0 :: B1 :: default :: default :: nw)).length := fun _ _ _ => by simp
  have tk1 := fun B0 B1 nw => take_walk (d := []) (hp := hp ++ (B0 :: B1 :: default :: default :: nw)) (r := hp.length + 2) (q := hp.length + 2 + 1) (L := L) (H := H) (hF.mono (by simp)) (k0.mono (e4 B0 B1 nw)) hw l.length
  have tk2 := fun B0 B1 nw => take_walk (d := []) (hp := hp ++ (B0 :: B1 :: default :: default :: nw)) (r := hp.length + 2) (q := hp.length + 2 + 1) (L := L) (H := H) (hF.mono (by simp)) (k1.mono (e4 B0 B1 nw)) hw sz
  have tk3 := fun B0 B1 nw => take_walk (d := []) (hp := hp ++ (B0 :: B1 :: default :: default :: nw)) (r := hp.length + 2) (q := hp.length + 2 + 1) (L := L) (H := H) (hF.mono (by simp)) (k2.mono (e4 B0 B1 nw)) hw (1 : Nat)
  have st := fun B0 B1 nw => store_walk (d := []) (hp := hp ++ (B0 :: B1 :: default :: default :: nw)) (r := hp.length + 2) (q := hp.length + 2 + 1) (L := L) (H := H) (by omega : l.length ≤ 1048576) (hF.mono (by simp)) (k3.mono (e4 B0 B1 nw)) hw 0 l.length 0 (fun nw => by rw [List.append_assoc]; exact hr.put (by omega) (by omega))
  simp only [t1] at tk1
  simp only [t2] at tk2
  simp only [Int.natCast_one] at t3 tk3
  simp only [t3] at tk3
  simp only [p1, p2] at st
  have up := hF.up1
  rw [Lrun_sym 58 _ _ fn58]
  simp (disch := (first | omega | (simp only [lnE, put_length] <;> omega) | (refine Fit.mono ‹Fit _ _ _› ?_ <;> (simp only [lnE, put_length] <;> omega)) | (refine Fit.draw ‹Fit _ _ _› ?_ ?_ <;> (simp only [lnE, put_length] <;> omega)) | (refine Fit.hid1 ‹Fit _ _ _› ?_ ?_ <;> (simp only [lnE, put_length] <;> omega)) | (refine Fit.hidc1 ‹Fit _ _ _› ?_ ?_ <;> (simp only [lnE, put_length] <;> omega)) | (refine Fit.hidc2 ‹Fit _ _ _› ?_ ?_ ?_ <;> (simp only [lnE, put_length] <;> omega)) | (refine Fit.draw1 ‹Fit _ _ _› ?_ ?_ ?_ <;> (simp only [lnE, put_length] <;> omega)) | (refine Fit.range0 ?_ ?_ <;> (simp only [lnE, put_length] <;> omega)) | (refine ArOk.mono ‹ArOk _ _ _ _ _› ?_ <;> (simp only [lnE, put_length] <;> omega)) | (refine ArOk.hid ‹ArOk _ _ _ _ _› ?_ ?_ <;> (simp only [lnE, put_length] <;> omega)) | (refine ArOk.hid0 ‹ArOk _ _ _ _ _› ?_ ?_ <;> (simp only [lnE, put_length] <;> omega)) | ((intro xr hxr; simp [AM.refs, refsF, refsC] at hxr) <;> (simp only [lnE, put_length] <;> omega)) | fail)) only [syA, syB, argFr, D, E, T, C, undefv, eqF, aeq, sheqs, sheq, rdCells, cellsOf, fill, putAt, if_true, if_false, reduceIte, ↓reduceIte, reduceCtorEq, eq_self, Nat.reduceEqDiff, Nat.reduceAdd, Nat.reduceSub, Nat.reduceMul, Nat.reduceLT, Nat.reduceLeDiff, Nat.reducePow, Nat.reduceDiv, Nat.reduceMod, Int.reduceLT, Int.reduceLE, Int.reduceGT, Int.reduceGE, Int.reduceToNat, Int.reducePow, Int.reduceNeg, Int.reduceBEq, Int.reduceBNe, Int.reduceEq, Int.reduceAdd, Int.reduceSub, Int.reduceMul, cellv, sc, flatv, refs, refsF, refsC, syR, Int.le_refl, hF.not0, hF.not1, hF.up0, hF.up1, ac58, hlen, hs, rsize_walk, new_walk, c1, c2, c3, tk1, tk2, tk3, st]
  rw [gc_put_new (by omega) (by simp) (by omega) (by simp) (by omega) (by simp [refs, refsF, refsC, arP])]
  simp [gcX, ren, renF, renC, joinDirty, List.idxOf, List.findIdx_cons, arP]
end ArA
end Go.Proofs.Ytfefeikkjebfoaa
