/-
  THE TRANSFORM BY BUCKETS: Turn, on the abstract machine. Conditions: none.
-/
import Derived.Test.YtlphmnhkkhcjfaaHbK
set_option linter.all false
namespace Go.Proofs.Ytlphmnhkkhcjfaa
namespace ArA
open Go Go.RowKit AM ArEnv
section
variable {hp : List Blk} {L : Nat} {H d : List Nat} {r q : Nat} {A : Arn}
theorem bturn_bad (hF : Fit hp.length L H) (k : ArOk hp.length r q H A) {s m c n t z : Int} (hv : bValid A s m c n t z = false) :
    Lrun env (.func 28) [arP r, .agg #[.int .i64 s, .int .i64 m], .agg #[.int .i64 c, .int .i64 n], .agg #[.int .i64 t, .int .i64 z]] ⟨put hp r q A, L, H, d⟩ = some (.tuple #[.int .i64 0, .int .i64 0, .int .i64 2], ⟨put hp r q A, L, H, d⟩) := by
  have hrl := k.r_lt
  have hql := k.q_lt
  have va := fun d nw => bvalid_walk (d := d) (hp := hp ++ nw) (L := L) (H := H) (r := r) (q := q) (A := A) (hF.mono (by simp)) (k.mono (by simp)) s m c n t z
  simp only [hv] at va
  rw [Lrun_sym 28 _ _ fn28]
  simp (disch := (first | omega | (simp only [lnE, put_length] <;> omega) | (refine Fit.mono ‹Fit _ _ _› ?_ <;> (simp only [lnE, put_length] <;> omega)) | (refine Fit.draw ‹Fit _ _ _› ?_ ?_ <;> (simp only [lnE, put_length] <;> omega)) | (refine Fit.hid1 ‹Fit _ _ _› ?_ ?_ <;> (simp only [lnE, put_length] <;> omega)) | (refine Fit.draw1 ‹Fit _ _ _› ?_ ?_ ?_ <;> (simp only [lnE, put_length] <;> omega)) | (refine Fit.range0 ?_ ?_ <;> (simp only [lnE, put_length] <;> omega)) | (refine ArOk.mono ‹ArOk _ _ _ _ _› ?_ <;> (simp only [lnE, put_length] <;> omega)) | (refine ArOk.hid ‹ArOk _ _ _ _ _› ?_ ?_ <;> (simp only [lnE, put_length] <;> omega)) | (refine ArOk.hid0 ‹ArOk _ _ _ _ _› ?_ ?_ <;> (simp only [lnE, put_length] <;> omega)) | ((intro xr hxr; simp [AM.refs, refsF, refsC] at hxr) <;> (simp only [lnE, put_length] <;> omega)) | fail)) only [syA, syB, argFr, D, E, T, C, undefv, eqF, aeq, sheqs, sheq, rdCells, cellsOf, fill, putAt, if_true, if_false, reduceIte, ↓reduceIte, reduceCtorEq, eq_self, Nat.reduceEqDiff, Nat.reduceAdd, Nat.reduceSub, Nat.reduceMul, Nat.reduceLT, Nat.reduceLeDiff, Nat.reducePow, Nat.reduceDiv, Nat.reduceMod, Int.reduceLT, Int.reduceLE, Int.reduceGT, Int.reduceGE, Int.reduceToNat, Int.reducePow, Int.reduceNeg, Int.reduceBEq, Int.reduceBNe, Int.reduceEq, Int.reduceAdd, Int.reduceSub, Int.reduceMul, cellv, sc, flatv, refs, refsF, refsC, syR, Int.le_refl, hF.not0, hF.not1, hF.up0, hF.up1, k.hr, k.hq, ac28, va]
theorem bValid_parts {A : Arn} {s m c n t z : Int} (h : bValid A s m c n t z = true) : A.has s m = true ∧ A.has c n = true ∧ A.has t z = true ∧ (1 ≤ m ∧ m ≤ 65536 ∧ n = m ∧ 4 ≤ z) ∧ rApart s m c n = true ∧ rApart s m t z = true ∧ rApart c n t z = true := by
  unfold bValid at h
  simp only [Bool.and_eq_true, decide_eq_true_eq] at h
  exact ⟨h.1.1.1.1.1.1, h.1.1.1.1.1.2, h.1.1.1.1.2, h.1.1.1.2, h.1.1.2, h.1.2, h.2⟩
/-- The cells that Turn makes. -/
def tNew (hn r s m c t z : Nat) : List Blk := [.cells 0 true [.int .i64 s, .int .i64 m], .cells 0 true [.int .i64 c, .int .i64 m], .cells 0 true [.int .i64 t, .int .i64 z], hB r s m t z 0, .cells 0 false [.pointer (some ⟨hn + 3, 0, some 0⟩)], .cells 0 true [.int .i64 (-1)]]
def bRoom (x : List Nat) (z : Nat) : Nat := min (z / 4) (x.length + 1)
theorem bturn_loop (hF : Fit hp.length L H) (k : ArOk hp.length r q H A) (hw : L ≤ r ∧ L ≤ q) {s c t z : Nat} {x : List Nat} (hx : Holds A s x) (hb : By x) (hv : bValid A s x.length c x.length t z = true) : ∃ fr A2 B2 V bf bl,
    Liter env lb28_1 [8, 15, 12, 9, 11, 14, 6, 0, 13, 5] (hp.length + 6) (outSt r (hp.length + 4) (hp.length + 5) hp.length (hp.length + 1) 0 0 (bRoom x z) 0 0) ⟨put (hp ++ tNew hp.length r s x.length c t z) r q A, L, H, []⟩ =
      some (.exit 0, fr, ⟨put (((hp ++ tNew hp.length r s x.length c t z).set (hp.length + 3) bf).set (hp.length + 5) bl) r q B2, L, H, []⟩) ∧ fr.get 8 = some (.int .i64 (turnR x).2.1) ∧ fr.get 9 = some (.int .i64 ((x.length + 1 + bRoom x z - 1) / bRoom x z : Nat)) ∧ Words A2 B2 t (z / 4) V ∧ Cols A A2 c (turnR x).1 := by
  obtain ⟨v1, v2, v3, v4, v5, v6, v7⟩ := bValid_parts hv
  have b1 := Arn.has_iff.1 v1
  have b2 := Arn.has_iff.1 v2
  have b3 := Arn.has_iff.1 v3
  have hl1 := k.live1
  have hsz := k.size
  have hrl := k.r_lt
  have hql := k.q_lt
  unfold rApart at v5 v6 v7
  rw [decide_eq_true_eq] at v5 v6 v7
  have ho := ordR_ord x
  have hol := ho.len
  obtain ⟨t1, t2⟩ := turnR_is x
  have hlen : (hp ++ tNew hp.length r s x.length c t z).length = hp.length + 6 := by simp [tNew]
  have hF1 : Fit (hp ++ tNew hp.length r s x.length c t z).length L H := hF.mono (by simp)
  have gn : ∀ i, (hp ++ tNew hp.length r s x.length c t z)[hp.length + i]? = (tNew hp.length r s x.length c t z)[i]? := fun i => by rw [List.getElem?_append_right (by omega), Nat.add_sub_cancel_left]
  have g0 := gn 0
  rw [Nat.add_zero] at g0
  have hnH : ∀ i, H.contains (hp.length + i) = false := hF.not1
  have h0H := hnH 0
  rw [Nat.add_zero] at h0H
  have hok : HpOk (hp ++ tNew hp.length r s x.length c t z) r q (hp.length + 3) L H A s t z (z / 4) 0 x :=
    { k := k.mono (by simp), hx := hx, hm := by omega, hf := gn 3, hr := by omega, hq := by omega, hid := hnH 3, hw := hw, hwf := by have := hF.1; omega, hz := by omega, hn := by omega, hs := by omega, hap := fun i hi => by omega }
  have aok : AskOk (hp ++ tNew hp.length r s x.length c t z) r q (hp.length + 3) (hp.length + 5) (hp.length + 4) H (lastO (ordR x (x.length + 1)) 0) :=
    { hl := gn 5, hg := gn 4, lr := by omega, lq := by omega, lf := by omega, gr := by omega, gq := by omega, gf := by omega, lH := hnH 5, gH := hnH 4 }
  have bok : BoxOk (hp ++ tNew hp.length r s x.length c t z) r q (hp.length + 3) (hp.length + 5) (hp.length + 4) hp.length (hp.length + 1) H s x.length c :=
    { h5 := g0, h6 := gn 1, r5 := by omega, q5 := by omega, f5 := by omega, l5 := by omega, r6 := by omega, q6 := by omega, f6 := by omega, l6 := by omega, lg := by omega, H5 := h0H, H6 := hnH 1 }
  have w0 := Words.self (A := A) (t := t) (n := z / 4) k.by_ (by omega)
  obtain ⟨fr, A2, B2, V, bf, bl, i1, i2, i3, i4, i5⟩ := passes_loop (L := L) (H := H) (cs := c) (room := bRoom x z) (A := A) ho hb (by have := hF.1; omega) hw (by omega) (fun i p hi hp => by omega) (fun i hi => by omega) (by unfold bRoom; omega) (by unfold bRoom; omega) (by unfold bRoom; omega)
    (x.length + 1) 0 0 _ A A 0 _ (by omega) (by omega) hF1 hok aok bok w0 (by rw [List.take_zero]; exact Cols.nil k.by_ c)
  rw [hlen] at i1
  refine ⟨fr, A2, B2, V, bf, bl, ?_, by rw [t2]; exact i2, by rw [Nat.zero_add] at i3; exact i3, i4, by rw [t1]; exact i5⟩
  exact i1
end
end ArA
end Go.Proofs.Ytlphmnhkkhcjfaa
