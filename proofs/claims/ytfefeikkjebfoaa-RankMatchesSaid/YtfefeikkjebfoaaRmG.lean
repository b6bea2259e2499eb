/-
  RANKS: Make in both arenas; the arenas made. Conditions: none.
-/
import Derived.Test.YtfefeikkjebfoaaRmF
set_option linter.all false
namespace Go.Proofs.Ytfefeikkjebfoaa
namespace ArA
open Go Go.RowKit AM ArEnv
section
variable {hp : List Blk} {L : Nat} {H d : List Nat} {r q r' q' : Nat} {A B : Arn}
theorem make_both (hF : Fit hp.length L H) (k : ArOk hp.length r q H A) (k' : ArOk hp.length r' q' H B) (h1 : r ≠ r') (h2 : r ≠ q') (h3 : q ≠ r') (h4 : q ≠ q') (hw : L ≤ r ∧ L ≤ q) (hw' : L ≤ r' ∧ L ≤ q') (hbs : B.bs = A.bs) (hlv : B.live = A.live) (s m t z kk : Int) : ∃ (e : Int) (A' B' : Arn),
    (∀ d, Lrun env (.func 56) [arP r, .agg #[.int .i64 s, .int .i64 m], .agg #[.int .i64 t, .int .i64 z], .int .i64 kk] ⟨put (put hp r q A) r' q' B, L, H, d⟩ = some (.int .i64 e, ⟨put (put hp r q A') r' q' B, L, H, d⟩)) ∧
    (∀ d, Lrun env (.func 57) [arP r', .agg #[.int .i64 s, .int .i64 m], .agg #[.int .i64 t, .int .i64 z], .int .i64 kk] ⟨put (put hp r q A') r' q' B, L, H, d⟩ = some (.int .i64 e, ⟨put (put hp r q A') r' q' B', L, H, d⟩)) ∧
    B'.bs = A'.bs ∧ A'.live = A.live ∧ B'.live = B.live ∧ A'.bs.length = A.bs.length ∧ By A'.bs ∧ (∀ n H, ArOk n r q H A → ArOk n r q H A') ∧ (∀ n H, ArOk n r' q' H B → ArOk n r' q' H B') := by
  have hvB : rValid B s m t z kk = rValid A s m t z kk := rValid_live hlv s m t z kk
  have hl1 := k.live1
  have hl : ∀ {r q : Nat} {A : Arn}, (put hp r q A).length = hp.length := put_length
  cases hv : rValid A s m t z kk with
  | false =>
    refine ⟨2, A, B, fun d => ?_, fun d => ?_, hbs, rfl, rfl, rfl, k.by_, fun _ _ h => h, fun _ _ h => h⟩
    · rw [put_comm h1 h2 h3 h4, rmake_bad (by rw [hl]; exact hF) (k.mono (by rw [hl]; exact Nat.le_refl _)) hv]
    · rw [rfmake_bad (by rw [hl]; exact hF) (k'.mono (by rw [hl]; exact Nat.le_refl _)) (by rw [hvB]; exact hv)]
  | true =>
    rw [hv] at hvB
    obtain ⟨v1, v2, v3, v4, v5, v6⟩ := rValid_parts hv
    have b1 := Arn.has_iff.1 v1
    have b2 := Arn.has_iff.1 v2
    obtain ⟨s, rfl⟩ := Int.eq_ofNat_of_zero_le (by omega : 0 ≤ s)
    obtain ⟨t, rfl⟩ := Int.eq_ofNat_of_zero_le (by omega : 0 ≤ t)
    obtain ⟨z, rfl⟩ := Int.eq_ofNat_of_zero_le (by omega : 0 ≤ z)
    obtain ⟨kk, rfl⟩ := Int.eq_ofNat_of_zero_le (by omega : 0 ≤ kk)
    obtain ⟨m, rfl⟩ := Int.eq_ofNat_of_zero_le (by omega : 0 ≤ m)
    have hxl : ((A.bs.drop s).take m).length = m := by simp; omega
    have hxA : Holds A s ((A.bs.drop s).take m) := ⟨by rw [hxl]; omega, fun i hi => by
      rw [hxl] at hi
      rw [List.getElem_take, List.getElem_drop, List.getElem?_eq_getElem]⟩
    have hxB : Holds B s ((A.bs.drop s).take m) := ⟨by rw [hlv]; exact hxA.live, fun i hi => by rw [hbs]; exact hxA.get i hi⟩
    generalize (A.bs.drop s).take m = x at *
    subst hxl
    obtain ⟨A', a1, a2⟩ := make_walk (hp := put hp r' q' B) (L := L) (H := H) (by rw [hl]; exact hF) (k.mono (by rw [hl]; exact Nat.le_refl _)) hw hxA hv
    obtain ⟨B', b1, b2⟩ := rfmake_walk (hp := put hp r q A') (L := L) (H := H) (by rw [hl]; exact hF) (k'.mono (by rw [hl]; exact Nat.le_refl _)) hw' hxB hvB
    refine ⟨0, A', B', fun d => ?_, b1, marked_eq hbs a2 b2, a2.live, b2.live, a2.len, a2.by_, fun _ _ h => a2.ok h, fun _ _ h => b2.ok h⟩
    rw [put_comm h1 h2 h3 h4, a1 d, put_comm (Ne.symm h1) (Ne.symm h3) (Ne.symm h2) (Ne.symm h4)]
end
theorem Rd.put2 {hp nw : List Blk} {L L' r q r' q' : Nat} {H d d' : List Nat} {v : Value} {l : List Nat} {A B : Arn} (k : Rd ⟨hp, L, H, d⟩ v l) (hr : hp.length ≤ r) (hq : hp.length ≤ q) (hr' : hp.length ≤ r') (hq' : hp.length ≤ q') : Rd ⟨put (put (hp ++ nw) r q A) r' q' B, L', H, d'⟩ v l :=
  k.more fun b x hx hh => by
    have hb := (List.getElem?_eq_some_iff.1 hx).1
    simp only at hb hx hh
    exact ⟨by simp only; rw [put_o (by omega) (by omega), put_o (by omega) (by omega), get_left hb]; exact hx, hh⟩
/-- The reference's arena with all its bytes live. -/
def Arn.all (l : List Nat) : Arn := ⟨l, l.length, 0⟩
theorem both_walk {hp : List Blk} {L : Nat} {H d : List Nat} {v : Value} {l : List Nat} (hF : Fit hp.length L H) (hr : Rd ⟨hp, L, H, []⟩ v l) (h0 : 1 ≤ l.length) (hl : l.length ≤ 6000) :
    Lrun env (.func 47) [v] ⟨hp, L, H, d⟩ =
      some (.tuple #[arP hp.length, arP (hp.length + 2)], ⟨put (put (hp ++ [default, default, default, default]) hp.length (hp.length + 1) (Arn.laid l.length l)) (hp.length + 2) (hp.length + 3) (Arn.all l), L, H, d⟩) := by
  have hlen := hr.lenF
  have htk := new_taken (N := l.length) (n := l.length) (Nat.le_refl _)
  rw [new_take (Nat.le_refl _)] at htk
  have hpart := laid_part (N := l.length) (l := List.replicate l.length 0) (n := l.length) (by simp)
  have hst := laid_store (N := l.length) (l := List.replicate l.length 0) (m := l) (by simp) (by simp)
  have hw : L ≤ hp.length ∧ L ≤ hp.length + 1 := by have := hF.1; omega
  have hh0 := hF.not0
  have hh1 := hF.not1 1
  have hh3 := hF.not1 3
  have hh4 : H.contains (hp.length + 3 + 1) = false := hF.not1 4
  have hz : By (List.replicate l.length 0) := fun x hx => by rw [List.mem_replicate] at hx; omega
  have k0 : ArOk (hp.length + 2) hp.length (hp.length + 1) H (Arn.new l.length) := ArOk.new (by omega) (by omega) (by omega) (by omega) hh0 hh1
  have k1 : ArOk (hp.length + 2) hp.length (hp.length + 1) H (Arn.laid l.length (List.replicate l.length 0)) := ArOk.laid (by omega) (by omega) (by omega) hz (by simp) (by omega) hh0 hh1
  have e2 : ∀ nw : List Blk, hp.length + 2 ≤ (hp ++ (default :: default :: nw)).length := fun _ => by simp
  have tk := fun nw => take_walk (d := []) (hp := hp ++ (default :: default :: nw)) (r := hp.length) (q := hp.length + 1) (L := L) (H := H) (hF.mono (by simp)) (k0.mono (e2 nw)) hw l.length
  simp only [htk] at tk
  have st := fun nw => store_walk (d := []) (hp := hp ++ (default :: default :: nw)) (r := hp.length) (q := hp.length + 1) (L := L) (H := H) (by omega : l.length ≤ 1048576) (hF.mono (by simp)) (k1.mono (e2 nw)) hw 0 l.length 0 (fun nw => by rw [List.append_assoc]; exact hr.put (by omega) (by omega))
  simp only [hst, hpart] at st
  have c1 : (1 : Int) ≤ l.length := by omega
  have c2 : (l.length : Int) ≤ 1048576 := by omega
  have up := hF.up1
  have hnews := fun nw A B => (Rd.put2 (L' := L) (d' := []) (nw := nw) (r := hp.length) (q := hp.length + 1) (r' := hp.length + 3) (q' := hp.length + 3 + 1) (A := A) (B := B) hr (by omega) (by omega) (by omega) (by omega)).news
  have nbl : (Arn.new l.length).bs.length = l.length := by simp [Arn.new]
  have hm : min l.length l.length = l.length := Nat.min_self _
  have hn0 : ¬ l.length = 0 := by omega
  have hp0 : putN (Arn.new l.length).bs 0 l = l := by simp [putN, Arn.new]
  have hqL : (hp.length + 3 + 1 < L) = False := eq_false (by omega)
  have htk2 : (u8s l).take l.length = u8s l := by rw [← u8s_take, List.take_length]
  have hpb : (Arn.new l.length).peak = 0 := rfl
  rw [Lrun_sym 47 _ _ fn47]
  simp (disch := (first | omega | (simp only [lnE, put_length] <;> omega) | (refine Fit.mono ‹Fit _ _ _› ?_ <;> (simp only [lnE, put_length] <;> omega)) | (refine Fit.draw ‹Fit _ _ _› ?_ ?_ <;> (simp only [lnE, put_length] <;> omega)) | (refine Fit.hid1 ‹Fit _ _ _› ?_ ?_ <;> (simp only [lnE, put_length] <;> omega)) | (refine Fit.hidc1 ‹Fit _ _ _› ?_ ?_ <;> (simp only [lnE, put_length] <;> omega)) | (refine Fit.hidc2 ‹Fit _ _ _› ?_ ?_ ?_ <;> (simp only [lnE, put_length] <;> omega)) | (refine Fit.draw1 ‹Fit _ _ _› ?_ ?_ ?_ <;> (simp only [lnE, put_length] <;> omega)) | (refine Fit.range0 ?_ ?_ <;> (simp only [lnE, put_length] <;> omega)) | (refine ArOk.mono ‹ArOk _ _ _ _ _› ?_ <;> (simp only [lnE, put_length] <;> omega)) | (refine ArOk.hid ‹ArOk _ _ _ _ _› ?_ ?_ <;> (simp only [lnE, put_length] <;> omega)) | (refine ArOk.hid0 ‹ArOk _ _ _ _ _› ?_ ?_ <;> (simp only [lnE, put_length] <;> omega)) | ((intro xr hxr; simp [AM.refs, refsF, refsC] at hxr) <;> (simp only [lnE, put_length] <;> omega)) | fail)) only [syA, syB, argFr, D, E, T, C, undefv, eqF, aeq, sheqs, sheq, rdCells, cellsOf, fill, putAt, if_true, if_false, reduceIte, ↓reduceIte, reduceCtorEq, eq_self, Nat.reduceEqDiff, Nat.reduceAdd, Nat.reduceSub, Nat.reduceMul, Nat.reduceLT, Nat.reduceLeDiff, Nat.reducePow, Nat.reduceDiv, Nat.reduceMod, Int.reduceLT, Int.reduceLE, Int.reduceGT, Int.reduceGE, Int.reduceToNat, Int.reducePow, Int.reduceNeg, Int.reduceBEq, Int.reduceBNe, Int.reduceEq, Int.reduceAdd, Int.reduceSub, Int.reduceMul, cellv, sc, flatv, refs, refsF, refsC, syR, Int.le_refl, hF.not0, hF.not1, hF.up0, hF.up1, ac47, hlen, new_walk, c1, c2, tk, st, rfnew_walk, Int.toNat_natCast, hnews, copyX_some, nbl, hm, hn0, hqL, htk2, hp0, Nat.mul_one, Nat.zero_add, u8s_cellv, u8s_sc, hpb, u8s_length, Nat.le_refl, hh4]
  rw [gc_put_two (by omega) (by simp) (by omega) (by simp) (by omega) (by simp) (by omega) (by simp) (by omega) (by omega) (by omega) (by omega) (by omega) (by omega) (by simp [refs, refsF, refsC, arP])]
  simp [gcX, ren, renF, renC, joinDirty, List.idxOf, List.findIdx_cons, arP, Arn.all]
  have z1 : (hp.length == hp.length + 3) = false := by rw [beq_eq_false_iff_ne]; omega
  have z2 : (hp.length == hp.length + 2) = false := by rw [beq_eq_false_iff_ne]; omega
  rw [if_neg (by omega), z1, z2]
  rfl
end ArA
end Go.Proofs.Ytfefeikkjebfoaa
