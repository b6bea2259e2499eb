/-
  WALKS WITH A TABLE: the law's arena, and a walk that is made in it. Conditions: none.
-/
import Derived.Test.YtlbdgbfblgjjgaaTwC
import Derived.Test.YtlbdgbfblgjjgaaRwE
import Derived.Test.YtlbdgbfblgjjgaaBk17b
set_option linter.all false
namespace Go.Proofs.Ytlbdgbfblgjjgaa
namespace ArA
open Go Go.RowKit AM ArEnv
theorem wakes22_walk (σ : St) : Lrun env (.func 11) [] σ = some (.bool true, σ) := by
  obtain ⟨hp, L, H, d⟩ := σ
  rw [Lrun_sym 11 _ _ fn11]
  simp (disch := (first | omega | (simp only [lnE] <;> omega) | (refine Fit.mono ‹Fit _ _ _› ?_ <;> (simp only [lnE] <;> omega)) | (refine Fit.draw ‹Fit _ _ _› ?_ ?_ <;> (simp only [lnE] <;> omega)) | (refine Fit.hid1 ‹Fit _ _ _› ?_ ?_ <;> (simp only [lnE] <;> omega)) | (refine Fit.draw1 ‹Fit _ _ _› ?_ ?_ ?_ <;> (simp only [lnE] <;> omega)) | (refine Fit.range0 ?_ ?_ <;> (simp only [lnE] <;> omega)) | fail)) only [syA, syB, argFr, D, E, T, C, undefv, eqF, aeq, sheqs, sheq, rdCells, cellsOf, fill, putAt, if_true, if_false, reduceIte, ↓reduceIte, reduceCtorEq, eq_self, Nat.reduceEqDiff, Nat.reduceAdd, Nat.reduceSub, Nat.reduceMul, Nat.reduceLT, Nat.reduceLeDiff, Nat.reducePow, Nat.reduceDiv, Nat.reduceMod, Int.reduceLT, Int.reduceLE, Int.reduceGT, Int.reduceGE, Int.reduceToNat, Int.reducePow, Int.reduceNeg, Int.reduceBEq, Int.reduceBNe, Int.reduceEq, Int.reduceAdd, Int.reduceSub, Int.reduceMul, cellv, sc, flatv, refs, refsF, refsC, constFn]
set_option maxRecDepth 40000 in
/-- The law's arena: the column, room for the table, 5 bytes more. -/
theorem laid22_walk {hp : List Blk} {L : Nat} {H d : List Nat} {v : Value} {l : List Nat} (hF : Fit hp.length L H) (hr : Rd ⟨hp, L, H, []⟩ v l) (hl : l.length ≤ 1000) :
    Lrun env (.func 25) [v] ⟨hp, L, H, d⟩ =
      some (.tuple #[arP hp.length, .agg #[.int .i64 0, .int .i64 l.length], .agg #[.int .i64 l.length, .int .i64 (4 * l.length + 4 : Nat)]], ⟨put (hp ++ [default, default]) hp.length (hp.length + 1) (rl l (4 * l.length + 4 + 4)), L, H, d⟩) := by
  have hlen := hr.lenF
  obtain ⟨sz, hszn⟩ : ∃ sz, 4 * l.length + 4 = sz := ⟨_, rfl⟩
  have t1 := laid_taken (N := l.length + (sz + 4) + 1) (l := []) (m := l.length) (by simp; omega)
  have t2 := laid_taken (N := l.length + (sz + 4) + 1) (l := List.replicate l.length 0) (m := sz) (by simp; omega)
  have t3 := laid_taken (N := l.length + (sz + 4) + 1) (l := List.replicate (l.length + sz) 0) (m := 5) (by simp; omega)
  rw [List.replicate_append_replicate, List.length_replicate] at t2 t3
  rw [show l.length + sz + 5 = l.length + (sz + 4) + 1 by omega] at t3
  simp only [List.nil_append, List.length_nil, Int.natCast_zero] at t1
  rw [← new_laid] at t1
  obtain ⟨p1, p2⟩ := rlm_store (l := l) (n := sz + 4)
  have c0 : 5 * (l.length : Int) + 9 = ((l.length + (sz + 4) + 1 : Nat) : Int) := by omega
  have c00 : 4 * ((l.length : Int) + 1) = (sz : Int) := by omega
  have c1 : ((l.length + (sz + 4) + 1 : Nat) : Int) ≤ 1048576 := by omega
  have c3 : (1 : Int) ≤ ((l.length + (sz + 4) + 1 : Nat) : Int) := by omega
  have c4 : (sz : Int) ≤ 100000 := by omega
  have c5 : (l.length : Int) ≤ 1000 := by omega
  have hw : L ≤ hp.length + 2 ∧ L ≤ hp.length + 2 + 1 := by have := hF.1; omega
  have hh1 := hF.not1 2
  have hh2 : H.contains (hp.length + 2 + 1) = false := hF.not1 3
  have hz : ∀ n, By (List.replicate n 0) := fun n x hx => by rw [List.mem_replicate] at hx; omega
  have k0 : ArOk (hp.length + 4) (hp.length + 2) (hp.length + 2 + 1) H (Arn.new (l.length + (sz + 4) + 1)) := ArOk.new (by omega) (by omega) (by omega) (by omega) hh1 hh2
  have k1 : ArOk (hp.length + 4) (hp.length + 2) (hp.length + 2 + 1) H (Arn.laid (l.length + (sz + 4) + 1) (List.replicate l.length 0)) := ArOk.laid (by omega) (by omega) (by omega) (hz _) (by simp; omega) (by omega) hh1 hh2
  have k2 : ArOk (hp.length + 4) (hp.length + 2) (hp.length + 2 + 1) H (Arn.laid (l.length + (sz + 4) + 1) (List.replicate (l.length + sz) 0)) := ArOk.laid (by omega) (by omega) (by omega) (hz _) (by simp; omega) (by omega) hh1 hh2
  have k3 : ArOk (hp.length + 4) (hp.length + 2) (hp.length + 2 + 1) H (Arn.laid (l.length + (sz + 4) + 1) (List.replicate (l.length + (sz + 4) + 1) 0)) := ArOk.laid (by omega) (by omega) (by omega) (hz _) (by simp) (by omega) hh1 hh2
  have e4 : ∀ (B0 B1 : Blk) (nw : List Blk), hp.length + 4 ≤ (hp ++ (B0 :: B1 :: default :: default :: nw)).length := fun _ _ _ => by simp
  have tk1 := fun B0 B1 nw => take_walk (d := []) (hp := hp ++ (B0 :: B1 :: default :: default :: nw)) (r := hp.length + 2) (q := hp.length + 2 + 1) (L := L) (H := H) (hF.mono (by simp)) (k0.mono (e4 B0 B1 nw)) hw l.length
  have tk2 := fun B0 B1 nw => take_walk (d := []) (hp := hp ++ (B0 :: B1 :: default :: default :: nw)) (r := hp.length + 2) (q := hp.length + 2 + 1) (L := L) (H := H) (hF.mono (by simp)) (k1.mono (e4 B0 B1 nw)) hw sz
  have tk3 := fun B0 B1 nw => take_walk (d := []) (hp := hp ++ (B0 :: B1 :: default :: default :: nw)) (r := hp.length + 2) (q := hp.length + 2 + 1) (L := L) (H := H) (hF.mono (by simp)) (k2.mono (e4 B0 B1 nw)) hw (5 : Nat)
  have st := fun B0 B1 nw => store_walk (d := []) (hp := hp ++ (B0 :: B1 :: default :: default :: nw)) (r := hp.length + 2) (q := hp.length + 2 + 1) (L := L) (H := H) (by omega : l.length ≤ 1048576) (hF.mono (by simp)) (k3.mono (e4 B0 B1 nw)) hw 0 l.length 0 (fun nw => by rw [List.append_assoc]; exact hr.put (by omega) (by omega))
  simp only [t1] at tk1
  simp only [t2] at tk2
  simp only [Int.cast_ofNat_Int] at t3 tk3
  simp only [t3] at tk3
  simp only [p1, p2] at st
  have hnat : (((l.length + (sz + 4) + 1 : Nat) : Int)).toNat = l.length + (sz + 4) + 1 := by omega
  rw [hszn]
  clear hszn t1 t2 t3 p1 p2
  rw [Lrun_sym 25 _ _ fn25]
  simp (disch := (first | omega | (simp only [lnE, put_length] <;> omega) | (refine Fit.mono ‹Fit _ _ _› ?_ <;> (simp only [lnE, put_length] <;> omega)) | (refine Fit.draw ‹Fit _ _ _› ?_ ?_ <;> (simp only [lnE, put_length] <;> omega)) | (refine Fit.hid1 ‹Fit _ _ _› ?_ ?_ <;> (simp only [lnE, put_length] <;> omega)) | (refine Fit.draw1 ‹Fit _ _ _› ?_ ?_ ?_ <;> (simp only [lnE, put_length] <;> omega)) | (refine Fit.range0 ?_ ?_ <;> (simp only [lnE, put_length] <;> omega)) | (refine ArOk.mono ‹ArOk _ _ _ _ _› ?_ <;> (simp only [lnE, put_length] <;> omega)) | (refine ArOk.hid ‹ArOk _ _ _ _ _› ?_ ?_ <;> (simp only [lnE, put_length] <;> omega)) | (refine ArOk.hid0 ‹ArOk _ _ _ _ _› ?_ ?_ <;> (simp only [lnE, put_length] <;> omega)) | ((intro xr hxr; simp [AM.refs, refsF, refsC] at hxr) <;> (simp only [lnE, put_length] <;> omega)) | fail)) only [syA, syB, argFr, D, E, T, C, undefv, eqF, aeq, sheqs, sheq, rdCells, cellsOf, fill, putAt, if_true, if_false, reduceIte, ↓reduceIte, reduceCtorEq, eq_self, Nat.reduceEqDiff, Nat.reduceAdd, Nat.reduceSub, Nat.reduceMul, Nat.reduceLT, Nat.reduceLeDiff, Nat.reducePow, Nat.reduceDiv, Nat.reduceMod, Int.reduceLT, Int.reduceLE, Int.reduceGT, Int.reduceGE, Int.reduceToNat, Int.reducePow, Int.reduceNeg, Int.reduceBEq, Int.reduceBNe, Int.reduceEq, Int.reduceAdd, Int.reduceSub, Int.reduceMul, cellv, sc, flatv, refs, refsF, refsC, syR, Int.le_refl, hF.not0, hF.not1, hF.up0, hF.up1, ac25, hlen, new_walk, c0, c00, c1, c3, c4, hnat, tk1, tk2, tk3, st]
  rw [gc_put_new (by omega) (by simp) (by omega) (by simp) (by omega) (by simp [refs, refsF, refsC, arP])]
  simp [gcX, ren, renF, renC, joinDirty, List.idxOf, List.findIdx_cons, arP]
theorem tvalid_rl {l : List Nat} (h1 : 1 ≤ l.length) (h2 : l.length ≤ 1000) : tValid (rl l (4 * l.length + 4 + 4)) (0 : Nat) l.length l.length (4 * l.length + 4 : Nat) = true := by
  obtain ⟨a1, a2⟩ := rl_has9 (l := l) (sz := 4 * l.length + 4) (e := 4)
  unfold tValid
  rw [a1, a2]
  simp; omega
/-- A walk is made in the law's arena. -/
theorem made22 {hp : List Blk} {x : List Nat} (hb : By x) (hx1 : 1 ≤ x.length) (hx : x.length ≤ 1000) {ix : Nat} (hix : 1 ≤ ix ∧ ix ≤ x.length) (L : Nat) (hL : L ≤ hp.length) (d0 : List Blk) (hd0 : d0.length = 2) : ∃ B,
    (∀ d, Lrun env (.func 18) [arP hp.length, .agg #[.int .i64 0, .int .i64 x.length], .int .i64 ix, .agg #[.int .i64 x.length, .int .i64 (4 * x.length + 4 : Nat)]] ⟨put (hp ++ [default, default] ++ d0) hp.length (hp.length + 1) (rl x (4 * x.length + 4 + 4)), L, [], d⟩ =
      some (.tuple #[.pointer (some ⟨hp.length + 4, 0, some 0⟩), .int .i64 0], ⟨put (hp ++ [default, default] ++ d0 ++ [fB hp.length 0 x.length (4 * x.length + 4) ix x.length 0 0 0]) hp.length (hp.length + 1) B, L, [], d⟩)) ∧
    TbOk (hp.length + 5) hp.length (hp.length + 1) (hp.length + 4) L [] B 0 x.length (4 * x.length + 4) ix x := by
  have k0 : ArOk (hp.length + 2) hp.length (hp.length + 1) [] (rl x (4 * x.length + 4 + 4)) := rl_ok (by omega) (by omega) (by omega) rfl rfl hb (by omega)
  have hlen : (hp ++ [default, default] ++ d0).length = hp.length + 4 := by simp [hd0]
  obtain ⟨B, n1, m1, h1, k1⟩ := tnew_walk (ix := ix) (t := x.length) (z := 4 * x.length + 4) (hp := hp ++ [default, default] ++ d0) (L := L) (H := []) (r := hp.length) (q := hp.length + 1) ⟨by omega, Low.nil _⟩ (k0.mono (by omega)) (by omega) (rl_holds x _) (tvalid_rl hx1 hx) hb hix
  simp only [hlen, Int.natCast_zero] at n1
  refine ⟨B, fun d => n1 d, ?_⟩
  exact ⟨(m1.ok k0).mono (by omega), h1, fun w hw => m1.wordV (n := x.length + 1) (by rw [rl_live]; omega) (by omega) (by omega) (by omega) (by omega) hw hix.2, hix.2, by omega, by omega, by omega, by omega, rfl, by omega, hb⟩
end ArA
end Go.Proofs.Ytlbdgbfblgjjgaa
