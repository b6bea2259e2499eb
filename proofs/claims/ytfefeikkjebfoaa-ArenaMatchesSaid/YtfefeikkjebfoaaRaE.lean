/-
  THE ARENA AND ITS REFERENCE side by side: all operations. Conditions: none.
-/
import Derived.Test.YtfefeikkjebfoaaRaD
set_option linter.all false
namespace Go.Proofs.Ytfefeikkjebfoaa
namespace ArA
open Go Go.RowKit AM ArEnv
section
variable {hp : List Blk} {L : Nat} {r q r' q' : Nat} {A : Arn} {dd : List Nat}
theorem small_loop {hq : List Blk} {v : Value} {ds : List AD} (R : R6 ⟨hq, L, [], []⟩ v ds) (hds : ds.length ≤ 9223372036854775807) :
    ∀ (c j : Nat), j + c = ds.length → (∃ fr, Liter env lb25_0 [0, 3] hq.length [(0, v), (3, .int .i64 j)] ⟨hq, L, [], []⟩ = some (.exit 0, fr, ⟨hq, L, [], []⟩) ∧ fr.get 0 = some v ∧ ∀ (i : Nat) (hi : i < ds.length), j ≤ i → ds[i].b.length ≤ 300) ∨
      ∃ fr, Liter env lb25_0 [0, 3] hq.length [(0, v), (3, .int .i64 j)] ⟨hq, L, [], []⟩ = some (.ret, fr, ⟨hq, L, [], []⟩) ∧ fr.get 2 = some (.bool false)
  | 0, j, h => by
    obtain rfl : j = ds.length := by omega
    obtain ⟨a, e, rfl⟩ := R.len
    refine .inl ?_
    rw [iter_by lb25_0.eq_1]
    simp (disch := (first | omega | (simp only [lnE] <;> omega) | (refine Fit.mono ‹Fit _ _ _› ?_ <;> (simp only [lnE] <;> omega)) | (refine Fit.draw ‹Fit _ _ _› ?_ ?_ <;> (simp only [lnE] <;> omega)) | (refine Fit.hid1 ‹Fit _ _ _› ?_ ?_ <;> (simp only [lnE] <;> omega)) | (refine Fit.hidc1 ‹Fit _ _ _› ?_ ?_ <;> (simp only [lnE] <;> omega)) | (refine Fit.hidc2 ‹Fit _ _ _› ?_ ?_ ?_ <;> (simp only [lnE] <;> omega)) | (refine Fit.draw1 ‹Fit _ _ _› ?_ ?_ ?_ <;> (simp only [lnE] <;> omega)) | (refine Fit.range0 ?_ ?_ <;> (simp only [lnE] <;> omega)) | fail)) only [syA, syB, argFr, D, E, T, C, undefv, eqF, aeq, sheqs, sheq, rdCells, cellsOf, fill, putAt, if_true, if_false, reduceIte, ↓reduceIte, reduceCtorEq, eq_self, Nat.reduceEqDiff, Nat.reduceAdd, Nat.reduceSub, Nat.reduceMul, Nat.reduceLT, Nat.reduceLeDiff, Nat.reducePow, Nat.reduceDiv, Nat.reduceMod, Int.reduceLT, Int.reduceLE, Int.reduceGT, Int.reduceGE, Int.reduceToNat, Int.reducePow, Int.reduceNeg, Int.reduceBEq, Int.reduceBNe, Int.reduceEq, Int.reduceAdd, Int.reduceSub, Int.reduceMul, cellv, sc, flatv, refs, refsF, refsC]
    exact ⟨_, rfl, rfl, fun i hi h => by omega⟩
  | c + 1, j, h => by
    have hj : j < ds.length := by omega
    have ih := small_loop R hds c (j + 1) (by omega)
    have hlen := (R.rd ds[j] (List.getElem_mem hj)).lenF
    obtain ⟨b, pl, cs, rfl, hh, hb, g, gl, c0, c1, c2, c3, c4, c5, c6⟩ := R.at_ hj
    simp only at hh hb
    have q1 : (j : Int) < ds.length := by omega
    have q2 : 0 ≤ (j : Int) ∧ (j : Int) < ds.length := by omega
    rw [iter_by lb25_0.eq_1]
    by_cases hb3 : (ds[j].b.length : Int) > 300
    · refine .inr ?_
      simp (disch := (first | omega | (simp only [lnE] <;> omega) | (refine Fit.mono ‹Fit _ _ _› ?_ <;> (simp only [lnE] <;> omega)) | (refine Fit.draw ‹Fit _ _ _› ?_ ?_ <;> (simp only [lnE] <;> omega)) | (refine Fit.hid1 ‹Fit _ _ _› ?_ ?_ <;> (simp only [lnE] <;> omega)) | (refine Fit.hidc1 ‹Fit _ _ _› ?_ ?_ <;> (simp only [lnE] <;> omega)) | (refine Fit.hidc2 ‹Fit _ _ _› ?_ ?_ ?_ <;> (simp only [lnE] <;> omega)) | (refine Fit.draw1 ‹Fit _ _ _› ?_ ?_ ?_ <;> (simp only [lnE] <;> omega)) | (refine Fit.range0 ?_ ?_ <;> (simp only [lnE] <;> omega)) | fail)) only [syA, syB, argFr, D, E, T, C, undefv, eqF, aeq, sheqs, sheq, rdCells, cellsOf, fill, putAt, if_true, if_false, reduceIte, ↓reduceIte, reduceCtorEq, eq_self, Nat.reduceEqDiff, Nat.reduceAdd, Nat.reduceSub, Nat.reduceMul, Nat.reduceLT, Nat.reduceLeDiff, Nat.reducePow, Nat.reduceDiv, Nat.reduceMod, Int.reduceLT, Int.reduceLE, Int.reduceGT, Int.reduceGE, Int.reduceToNat, Int.reducePow, Int.reduceNeg, Int.reduceBEq, Int.reduceBNe, Int.reduceEq, Int.reduceAdd, Int.reduceSub, Int.reduceMul, cellv, sc, flatv, refs, refsF, refsC, q1, q2, hh, hb, c5, hlen, hb3]
      exact ⟨_, rfl, rfl⟩
    · rcases ih with ⟨fr, e1, e2, e3⟩ | ⟨fr, e1, e2⟩
      · refine .inl ?_
        simp only [Int.natCast_add, Int.natCast_one] at e1
        simp (disch := (first | omega | (simp only [lnE] <;> omega) | (refine Fit.mono ‹Fit _ _ _› ?_ <;> (simp only [lnE] <;> omega)) | (refine Fit.draw ‹Fit _ _ _› ?_ ?_ <;> (simp only [lnE] <;> omega)) | (refine Fit.hid1 ‹Fit _ _ _› ?_ ?_ <;> (simp only [lnE] <;> omega)) | (refine Fit.hidc1 ‹Fit _ _ _› ?_ ?_ <;> (simp only [lnE] <;> omega)) | (refine Fit.hidc2 ‹Fit _ _ _› ?_ ?_ ?_ <;> (simp only [lnE] <;> omega)) | (refine Fit.draw1 ‹Fit _ _ _› ?_ ?_ ?_ <;> (simp only [lnE] <;> omega)) | (refine Fit.range0 ?_ ?_ <;> (simp only [lnE] <;> omega)) | fail)) only [syA, syB, argFr, D, E, T, C, undefv, eqF, aeq, sheqs, sheq, rdCells, cellsOf, fill, putAt, if_true, if_false, reduceIte, ↓reduceIte, reduceCtorEq, eq_self, Nat.reduceEqDiff, Nat.reduceAdd, Nat.reduceSub, Nat.reduceMul, Nat.reduceLT, Nat.reduceLeDiff, Nat.reducePow, Nat.reduceDiv, Nat.reduceMod, Int.reduceLT, Int.reduceLE, Int.reduceGT, Int.reduceGE, Int.reduceToNat, Int.reducePow, Int.reduceNeg, Int.reduceBEq, Int.reduceBNe, Int.reduceEq, Int.reduceAdd, Int.reduceSub, Int.reduceMul, cellv, sc, flatv, refs, refsF, refsC, q1, q2, hh, hb, c5, hlen, hb3, e1]
        refine ⟨fr, by first | exact e1 | rfl, e2, fun i hi hji => ?_⟩
        by_cases hij : i = j
        · subst hij; omega
        · exact e3 i hi (by omega)
      · refine .inr ?_
        simp only [Int.natCast_add, Int.natCast_one] at e1
        simp (disch := (first | omega | (simp only [lnE] <;> omega) | (refine Fit.mono ‹Fit _ _ _› ?_ <;> (simp only [lnE] <;> omega)) | (refine Fit.draw ‹Fit _ _ _› ?_ ?_ <;> (simp only [lnE] <;> omega)) | (refine Fit.hid1 ‹Fit _ _ _› ?_ ?_ <;> (simp only [lnE] <;> omega)) | (refine Fit.hidc1 ‹Fit _ _ _› ?_ ?_ <;> (simp only [lnE] <;> omega)) | (refine Fit.hidc2 ‹Fit _ _ _› ?_ ?_ ?_ <;> (simp only [lnE] <;> omega)) | (refine Fit.draw1 ‹Fit _ _ _› ?_ ?_ ?_ <;> (simp only [lnE] <;> omega)) | (refine Fit.range0 ?_ ?_ <;> (simp only [lnE] <;> omega)) | fail)) only [syA, syB, argFr, D, E, T, C, undefv, eqF, aeq, sheqs, sheq, rdCells, cellsOf, fill, putAt, if_true, if_false, reduceIte, ↓reduceIte, reduceCtorEq, eq_self, Nat.reduceEqDiff, Nat.reduceAdd, Nat.reduceSub, Nat.reduceMul, Nat.reduceLT, Nat.reduceLeDiff, Nat.reducePow, Nat.reduceDiv, Nat.reduceMod, Int.reduceLT, Int.reduceLE, Int.reduceGT, Int.reduceGE, Int.reduceToNat, Int.reducePow, Int.reduceNeg, Int.reduceBEq, Int.reduceBNe, Int.reduceEq, Int.reduceAdd, Int.reduceSub, Int.reduceMul, cellv, sc, flatv, refs, refsF, refsC, q1, q2, hh, hb, c5, hlen, hb3, e1]
        exact ⟨fr, by first | exact e1 | rfl, e2⟩
theorem small_walk {hq : List Blk} {v : Value} {ds : List AD} (R : R6 ⟨hq, L, [], []⟩ v ds) (hF : Fit hq.length L []) (hds : ds.length ≤ 9223372036854775807) : ∃ sm : Bool,
    (∀ d, Lrun env (.func 25) [v] ⟨hq, L, [], d⟩ = some (.bool sm, ⟨hq, L, [], d⟩)) ∧ (sm = true → ds.length ≤ 60 ∧ ∀ d ∈ ds, d.b.length ≤ 300) := by
  obtain ⟨a, e, hv⟩ := R.len
  rcases small_loop R hds ds.length 0 (by omega) with ⟨fr, e1, e2, e3⟩ | ⟨fr, e1, e2⟩
  · subst hv
    refine ⟨decide ((ds.length : Int) ≤ 60), fun d => ?_, fun h => ⟨by simp at h; omega, fun d hd => ?_⟩⟩
    · simp only [Int.natCast_zero] at e1
      rw [Lrun_sym 25 _ _ fn25]
      simp (disch := (first | omega | (simp only [lnE] <;> omega) | (refine Fit.mono ‹Fit _ _ _› ?_ <;> (simp only [lnE] <;> omega)) | (refine Fit.draw ‹Fit _ _ _› ?_ ?_ <;> (simp only [lnE] <;> omega)) | (refine Fit.hid1 ‹Fit _ _ _› ?_ ?_ <;> (simp only [lnE] <;> omega)) | (refine Fit.hidc1 ‹Fit _ _ _› ?_ ?_ <;> (simp only [lnE] <;> omega)) | (refine Fit.hidc2 ‹Fit _ _ _› ?_ ?_ ?_ <;> (simp only [lnE] <;> omega)) | (refine Fit.draw1 ‹Fit _ _ _› ?_ ?_ ?_ <;> (simp only [lnE] <;> omega)) | (refine Fit.range0 ?_ ?_ <;> (simp only [lnE] <;> omega)) | fail)) only [syA, syB, argFr, D, E, T, C, undefv, eqF, aeq, sheqs, sheq, rdCells, cellsOf, fill, putAt, if_true, if_false, reduceIte, ↓reduceIte, reduceCtorEq, eq_self, Nat.reduceEqDiff, Nat.reduceAdd, Nat.reduceSub, Nat.reduceMul, Nat.reduceLT, Nat.reduceLeDiff, Nat.reducePow, Nat.reduceDiv, Nat.reduceMod, Int.reduceLT, Int.reduceLE, Int.reduceGT, Int.reduceGE, Int.reduceToNat, Int.reducePow, Int.reduceNeg, Int.reduceBEq, Int.reduceBNe, Int.reduceEq, Int.reduceAdd, Int.reduceSub, Int.reduceMul, cellv, sc, flatv, refs, refsF, refsC, hF.not0, hF.not1, hF.up0, hF.up1, ac25, e1, e2]
    · obtain ⟨i, hi, rfl⟩ := List.mem_iff_getElem.1 hd
      exact e3 i hi (by omega)
  · refine ⟨false, fun d => ?_, fun h => by cases h⟩
    simp only [Int.natCast_zero] at e1
    rw [Lrun_sym 25 _ _ fn25]
    simp (disch := (first | omega | (simp only [lnE] <;> omega) | (refine Fit.mono ‹Fit _ _ _› ?_ <;> (simp only [lnE] <;> omega)) | (refine Fit.draw ‹Fit _ _ _› ?_ ?_ <;> (simp only [lnE] <;> omega)) | (refine Fit.hid1 ‹Fit _ _ _› ?_ ?_ <;> (simp only [lnE] <;> omega)) | (refine Fit.hidc1 ‹Fit _ _ _› ?_ ?_ <;> (simp only [lnE] <;> omega)) | (refine Fit.hidc2 ‹Fit _ _ _› ?_ ?_ ?_ <;> (simp only [lnE] <;> omega)) | (refine Fit.draw1 ‹Fit _ _ _› ?_ ?_ ?_ <;> (simp only [lnE] <;> omega)) | (refine Fit.range0 ?_ ?_ <;> (simp only [lnE] <;> omega)) | fail)) only [syA, syB, argFr, D, E, T, C, undefv, eqF, aeq, sheqs, sheq, rdCells, cellsOf, fill, putAt, if_true, if_false, reduceIte, ↓reduceIte, reduceCtorEq, eq_self, Nat.reduceEqDiff, Nat.reduceAdd, Nat.reduceSub, Nat.reduceMul, Nat.reduceLT, Nat.reduceLeDiff, Nat.reducePow, Nat.reduceDiv, Nat.reduceMod, Int.reduceLT, Int.reduceLE, Int.reduceGT, Int.reduceGE, Int.reduceToNat, Int.reducePow, Int.reduceNeg, Int.reduceBEq, Int.reduceBNe, Int.reduceEq, Int.reduceAdd, Int.reduceSub, Int.reduceMul, cellv, sc, flatv, refs, refsF, refsC, hF.not0, hF.not1, hF.up0, hF.up1, ac25, e1, e2]
theorem gcFr_put2 {nw : List Blk} {fr : Fr} {H : List Nat} {B : Arn} (hr : r < hp.length) (hq : q < hp.length) (hr' : r' < hp.length) (hq' : q' < hp.length) (hv : ∀ p ∈ fr, ∀ x ∈ refs p.2, x < hp.length) :
    gcFr hp.length fr ⟨put (put (hp ++ nw) r q A) r' q' B, L, H, []⟩ = some (fr, ⟨put (put hp r q A) r' q' B, L, H, []⟩) := by
  rw [← put_app hr hq, ← put_app (by rw [put_length]; exact hr') (by rw [put_length]; exact hq')]
  exact gcFr_drop (by rw [put_length, put_length]) hv
def afr (r r' : Nat) (n i : Int) (v : Value) : Fr := [(9, .int .i64 i), (8, arP r'), (0, .int .i64 n), (5, arP r), (1, v)]
set_option maxRecDepth 100000 in
theorem am_next (hF : Fit hp.length L []) (k : ArOk hp.length r q [] A) (k' : ArOk hp.length r' q' [] A) (n1 : r ≠ r') (n2 : r ≠ q') (n3 : q ≠ r') (n4 : q ≠ q') (hw : L ≤ r ∧ L ≤ q) (hw' : L ≤ r' ∧ L ≤ q') {ds : List AD} {v : Value} {n : Nat} (hn : A.bs.length = n) (hds : ds.length ≤ 60 ∧ ∀ d ∈ ds, d.b.length ≤ 300) (hok : ∀ d ∈ ds, ADok d)
    {bs : List Blk} (R : R6 ⟨bs, L, [], []⟩ v ds) (hbs : bs.length ≤ r ∧ bs.length ≤ q ∧ bs.length ≤ r' ∧ bs.length ≤ q') (hpre : ∀ (b : Nat) (x : Blk), bs[b]? = some x → hp[b]? = some x) {i : Nat} (hi : i < ds.length) :
    Liter env lb5_0 [9, 8, 0, 5, 1] hp.length (afr r r' n i v) ⟨put (put hp r q A) r' q' A, L, [], []⟩
      = Liter env lb5_0 [9, 8, 0, 5, 1] hp.length (afr r r' n ((i : Int) + 1) v) ⟨put (put hp r q (opA ds[i] A)) r' q' (opA ds[i] A), L, [], []⟩ := by
  have hd := List.getElem_mem hi
  have hrl := k.r_lt
  have hql := k.q_lt
  have hrl' := k'.r_lt
  have hql' := k'.q_lt
  have hne := k.ne
  have hne' := k'.ne
  have hR : ∀ (nw : List Blk) (A B : Arn) (H : List Nat), (∀ x ∈ H, hp.length ≤ x) → R6 ⟨put (put (hp ++ nw) r q A) r' q' B, L, H, []⟩ v ds := fun nw A B H h => R.more fun b x hx hh => by
    have hbl := (List.getElem?_eq_some_iff.1 hx).1
    have hp1 := hpre b x hx
    have hpl := (List.getElem?_eq_some_iff.1 hp1).1
    simp only at hbl hx ⊢
    refine ⟨by rw [put_o (by omega) (by omega), put_o (by omega) (by omega), get_left hpl]; exact hp1, ?_⟩
    rw [← Bool.not_eq_true, List.contains_iff_mem]
    exact fun hm => by have := h b hm; omega
  have hby := (R.rd _ hd).by_
  have sw := fun d => same_walk (dd := d) hF k k' n1 n2 n3 n4 hw hw' (hok _ hd) (hds.2 _ hd) (fun nw A B H h => (hR nw A B H h).rd _ hd)
  have kC := opA_ok k hby
  have kC' := opA_ok k' hby
  have hCl := opA_len k hby
  have hC0 := kC.live0
  have hC1 := kC.live1
  have hC2 := kC.size
  obtain ⟨b, pl, cs, rfl, hh, hb, g, gl, c0, c1, c2, c3, c4, c5, c6⟩ := R.at_ hi
  simp only at hb
  have hbl := (List.getElem?_eq_some_iff.1 hb).1
  have hb1 := hpre b _ hb
  have hpl := (List.getElem?_eq_some_iff.1 hb1).1
  have hbq : r ≠ b ∧ q ≠ b ∧ r' ≠ b ∧ q' ≠ b := by omega
  obtain ⟨b1, b2, b3, b4⟩ := hbq
  have hcb : [b].contains hp.length = false := by simp; omega
  have gl2 : i * 6 + 2 + 2 ≤ cs.length := by omega
  have q1 : (i : Int) < ds.length := by omega
  have q2 : 0 ≤ (i : Int) ∧ (i : Int) < ds.length := by omega
  have q3 : (i : Int) ≤ 60 := by omega
  generalize opA ds[i] A = Z at *
  have hzn : Z.bs.length = n := by omega
  have hfr : ∀ p ∈ afr r r' n ((i : Int) + 1) (.slice (some ⟨b, 0, some 0⟩) ds.length 0), ∀ x ∈ refs p.2, x < hp.length := by
    intro p hp x hx
    unfold afr at hp
    simp only [List.mem_cons, List.not_mem_nil, or_false] at hp
    rcases hp with rfl | rfl | rfl | rfl | rfl <;> simp [AM.refs, refsF, refsC, arP] at hx <;> omega
  have hg := fun nw => gcFr_put2 (L := L) (H := []) (A := Z) (B := Z) (nw := nw) hrl hql hrl' hql' hfr
  unfold afr at hg ⊢
  rw [iter_by lb5_0.eq_1]
  cases hlo : Z.loadO ds[i].s ds[i].z with
  | none =>
    simp (disch := (first | omega | (simp only [lnE, put_length] <;> omega) | (refine Fit.mono ‹Fit _ _ _› ?_ <;> (simp only [lnE, put_length] <;> omega)) | (refine Fit.draw ‹Fit _ _ _› ?_ ?_ <;> (simp only [lnE, put_length] <;> omega)) | (refine Fit.hid1 ‹Fit _ _ _› ?_ ?_ <;> (simp only [lnE, put_length] <;> omega)) | (refine Fit.hidc1 ‹Fit _ _ _› ?_ ?_ <;> (simp only [lnE, put_length] <;> omega)) | (refine Fit.hidc2 ‹Fit _ _ _› ?_ ?_ ?_ <;> (simp only [lnE, put_length] <;> omega)) | (refine Fit.draw1 ‹Fit _ _ _› ?_ ?_ ?_ <;> (simp only [lnE, put_length] <;> omega)) | (refine Fit.range0 ?_ ?_ <;> (simp only [lnE, put_length] <;> omega)) | (refine ArOk.mono ‹ArOk _ _ _ _ _› ?_ <;> (simp only [lnE, put_length] <;> omega)) | (refine ArOk.hid ‹ArOk _ _ _ _ _› ?_ ?_ <;> (simp only [lnE, put_length] <;> omega)) | (refine ArOk.hid0 ‹ArOk _ _ _ _ _› ?_ ?_ <;> (simp only [lnE, put_length] <;> omega)) | ((intro xr hxr; simp [AM.refs, refsF, refsC] at hxr) <;> (simp only [lnE, put_length] <;> omega)) | fail)) only [syA, syB, argFr, D, E, T, C, undefv, eqF, aeq, sheqs, sheq, rdCells, cellsOf, fill, putAt, if_true, if_false, reduceIte, ↓reduceIte, reduceCtorEq, eq_self, Nat.reduceEqDiff, Nat.reduceAdd, Nat.reduceSub, Nat.reduceMul, Nat.reduceLT, Nat.reduceLeDiff, Nat.reducePow, Nat.reduceDiv, Nat.reduceMod, Int.reduceLT, Int.reduceLE, Int.reduceGT, Int.reduceGE, Int.reduceToNat, Int.reducePow, Int.reduceNeg, Int.reduceBEq, Int.reduceBNe, Int.reduceEq, Int.reduceAdd, Int.reduceSub, Int.reduceMul, cellv, sc, flatv, refs, refsF, refsC, syR, Int.le_refl, hF.not0, hF.not1, hF.up0, hF.up1, q1, q2, hb1, b1, b2, b3, b4, g, gl, gl2, hcb, c1, c6, sw, byte2, rabyte_walk, word2, raword_walk, load2, raload_walk, has2, rfhas_walk, mark2, peak2, left2, hzn, hlo, sl_none, slB_none, hg]
  | some x =>
    simp (disch := (first | omega | (simp only [lnE, put_length] <;> omega) | (refine Fit.mono ‹Fit _ _ _› ?_ <;> (simp only [lnE, put_length] <;> omega)) | (refine Fit.draw ‹Fit _ _ _› ?_ ?_ <;> (simp only [lnE, put_length] <;> omega)) | (refine Fit.hid1 ‹Fit _ _ _› ?_ ?_ <;> (simp only [lnE, put_length] <;> omega)) | (refine Fit.hidc1 ‹Fit _ _ _› ?_ ?_ <;> (simp only [lnE, put_length] <;> omega)) | (refine Fit.hidc2 ‹Fit _ _ _› ?_ ?_ ?_ <;> (simp only [lnE, put_length] <;> omega)) | (refine Fit.draw1 ‹Fit _ _ _› ?_ ?_ ?_ <;> (simp only [lnE, put_length] <;> omega)) | (refine Fit.range0 ?_ ?_ <;> (simp only [lnE, put_length] <;> omega)) | (refine ArOk.mono ‹ArOk _ _ _ _ _› ?_ <;> (simp only [lnE, put_length] <;> omega)) | (refine ArOk.hid ‹ArOk _ _ _ _ _› ?_ ?_ <;> (simp only [lnE, put_length] <;> omega)) | (refine ArOk.hid0 ‹ArOk _ _ _ _ _› ?_ ?_ <;> (simp only [lnE, put_length] <;> omega)) | ((intro xr hxr; simp [AM.refs, refsF, refsC] at hxr) <;> (simp only [lnE, put_length] <;> omega)) | fail)) only [syA, syB, argFr, D, E, T, C, undefv, eqF, aeq, sheqs, sheq, rdCells, cellsOf, fill, putAt, if_true, if_false, reduceIte, ↓reduceIte, reduceCtorEq, eq_self, Nat.reduceEqDiff, Nat.reduceAdd, Nat.reduceSub, Nat.reduceMul, Nat.reduceLT, Nat.reduceLeDiff, Nat.reducePow, Nat.reduceDiv, Nat.reduceMod, Int.reduceLT, Int.reduceLE, Int.reduceGT, Int.reduceGE, Int.reduceToNat, Int.reducePow, Int.reduceNeg, Int.reduceBEq, Int.reduceBNe, Int.reduceEq, Int.reduceAdd, Int.reduceSub, Int.reduceMul, cellv, sc, flatv, refs, refsF, refsC, syR, Int.le_refl, hF.not0, hF.not1, hF.up0, hF.up1, q1, q2, hb1, b1, b2, b3, b4, g, gl, gl2, hcb, c1, c6, sw, byte2, rabyte_walk, word2, raword_walk, load2, raload_walk, has2, rfhas_walk, mark2, peak2, left2, hzn, hlo, sl_some, slB_some, hg]
theorem am_loop (hF : Fit hp.length L []) (n1 : r ≠ r') (n2 : r ≠ q') (n3 : q ≠ r') (n4 : q ≠ q') (hw : L ≤ r ∧ L ≤ q) (hw' : L ≤ r' ∧ L ≤ q') {ds : List AD} {v : Value} {n : Nat} (hds : ds.length ≤ 60 ∧ ∀ d ∈ ds, d.b.length ≤ 300) (hok : ∀ d ∈ ds, ADok d)
    {bs : List Blk} (R : R6 ⟨bs, L, [], []⟩ v ds) (hbs : bs.length ≤ r ∧ bs.length ≤ q ∧ bs.length ≤ r' ∧ bs.length ≤ q') (hpre : ∀ (b : Nat) (x : Blk), bs[b]? = some x → hp[b]? = some x) :
    ∀ (m i : Nat) (A : Arn), i + m = ds.length → A.bs.length = n → ArOk hp.length r q [] A → ArOk hp.length r' q' [] A → ∃ fr Z, Liter env lb5_0 [9, 8, 0, 5, 1] hp.length (afr r r' n i v) ⟨put (put hp r q A) r' q' A, L, [], []⟩
      = some (.exit 0, fr, ⟨put (put hp r q Z) r' q' Z, L, [], []⟩) ∧ fr.get 5 = some (arP r) ∧ fr.get 8 = some (arP r') ∧ Z.bs.length = n ∧ ArOk hp.length r q [] Z ∧ ArOk hp.length r' q' [] Z
  | 0, i, A, e, hn, k, k' => by
    obtain rfl : i = ds.length := by omega
    obtain ⟨a, e, rfl⟩ := R.len
    rw [iter_by lb5_0.eq_1]
    unfold afr
    simp (disch := (first | omega | (simp only [lnE] <;> omega) | (refine Fit.mono ‹Fit _ _ _› ?_ <;> (simp only [lnE] <;> omega)) | (refine Fit.draw ‹Fit _ _ _› ?_ ?_ <;> (simp only [lnE] <;> omega)) | (refine Fit.hid1 ‹Fit _ _ _› ?_ ?_ <;> (simp only [lnE] <;> omega)) | (refine Fit.hidc1 ‹Fit _ _ _› ?_ ?_ <;> (simp only [lnE] <;> omega)) | (refine Fit.hidc2 ‹Fit _ _ _› ?_ ?_ ?_ <;> (simp only [lnE] <;> omega)) | (refine Fit.draw1 ‹Fit _ _ _› ?_ ?_ ?_ <;> (simp only [lnE] <;> omega)) | (refine Fit.range0 ?_ ?_ <;> (simp only [lnE] <;> omega)) | fail)) only [syA, syB, argFr, D, E, T, C, undefv, eqF, aeq, sheqs, sheq, rdCells, cellsOf, fill, putAt, if_true, if_false, reduceIte, ↓reduceIte, reduceCtorEq, eq_self, Nat.reduceEqDiff, Nat.reduceAdd, Nat.reduceSub, Nat.reduceMul, Nat.reduceLT, Nat.reduceLeDiff, Nat.reducePow, Nat.reduceDiv, Nat.reduceMod, Int.reduceLT, Int.reduceLE, Int.reduceGT, Int.reduceGE, Int.reduceToNat, Int.reducePow, Int.reduceNeg, Int.reduceBEq, Int.reduceBNe, Int.reduceEq, Int.reduceAdd, Int.reduceSub, Int.reduceMul, cellv, sc, flatv, refs, refsF, refsC]
    exact ⟨_, A, rfl, rfl, rfl, hn, k, k'⟩
  | m + 1, i, A, e, hn, k, k' => by
    have hi : i < ds.length := by omega
    have hby := (R.rd _ (List.getElem_mem hi)).by_
    obtain ⟨fr, Z, e1, e2⟩ := am_loop (n := n) hF n1 n2 n3 n4 hw hw' hds hok R hbs hpre m (i + 1) (opA ds[i] A) (by omega) ((opA_len k hby).trans hn) (opA_ok k hby) (opA_ok k' hby)
    refine ⟨fr, Z, ?_, e2⟩
    rw [am_next hF k k' n1 n2 n3 n4 hw hw' hn hds hok R hbs hpre hi]
    simp only [Int.natCast_add, Int.natCast_one] at e1
    exact e1
end
theorem new_bad {hp : List Blk} {L : Nat} {H d : List Nat} (b : Int) (h0 : ¬ (1 ≤ b ∧ b ≤ 1048576)) : Lrun env (.func 16) [.int .i64 b] ⟨hp, L, H, d⟩ = some (.tuple #[.pointer none, .int .i64 2], ⟨hp, L, H, d⟩) := by
  rw [Lrun_sym 16 _ _ fn16]
  by_cases c1 : b < 1
  · simp (disch := (first | omega | (simp only [lnE] <;> omega) | (refine Fit.mono ‹Fit _ _ _› ?_ <;> (simp only [lnE] <;> omega)) | (refine Fit.draw ‹Fit _ _ _› ?_ ?_ <;> (simp only [lnE] <;> omega)) | (refine Fit.hid1 ‹Fit _ _ _› ?_ ?_ <;> (simp only [lnE] <;> omega)) | (refine Fit.hidc1 ‹Fit _ _ _› ?_ ?_ <;> (simp only [lnE] <;> omega)) | (refine Fit.hidc2 ‹Fit _ _ _› ?_ ?_ ?_ <;> (simp only [lnE] <;> omega)) | (refine Fit.draw1 ‹Fit _ _ _› ?_ ?_ ?_ <;> (simp only [lnE] <;> omega)) | (refine Fit.range0 ?_ ?_ <;> (simp only [lnE] <;> omega)) | fail)) only [syA, syB, argFr, D, E, T, C, undefv, eqF, aeq, sheqs, sheq, rdCells, cellsOf, fill, putAt, if_true, if_false, reduceIte, ↓reduceIte, reduceCtorEq, eq_self, Nat.reduceEqDiff, Nat.reduceAdd, Nat.reduceSub, Nat.reduceMul, Nat.reduceLT, Nat.reduceLeDiff, Nat.reducePow, Nat.reduceDiv, Nat.reduceMod, Int.reduceLT, Int.reduceLE, Int.reduceGT, Int.reduceGE, Int.reduceToNat, Int.reducePow, Int.reduceNeg, Int.reduceBEq, Int.reduceBNe, Int.reduceEq, Int.reduceAdd, Int.reduceSub, Int.reduceMul, cellv, sc, flatv, refs, refsF, refsC, ac16, c1]
  · have c2 : b > 1048576 := by omega
    simp (disch := (first | omega | (simp only [lnE] <;> omega) | (refine Fit.mono ‹Fit _ _ _› ?_ <;> (simp only [lnE] <;> omega)) | (refine Fit.draw ‹Fit _ _ _› ?_ ?_ <;> (simp only [lnE] <;> omega)) | (refine Fit.hid1 ‹Fit _ _ _› ?_ ?_ <;> (simp only [lnE] <;> omega)) | (refine Fit.hidc1 ‹Fit _ _ _› ?_ ?_ <;> (simp only [lnE] <;> omega)) | (refine Fit.hidc2 ‹Fit _ _ _› ?_ ?_ ?_ <;> (simp only [lnE] <;> omega)) | (refine Fit.draw1 ‹Fit _ _ _› ?_ ?_ ?_ <;> (simp only [lnE] <;> omega)) | (refine Fit.range0 ?_ ?_ <;> (simp only [lnE] <;> omega)) | fail)) only [syA, syB, argFr, D, E, T, C, undefv, eqF, aeq, sheqs, sheq, rdCells, cellsOf, fill, putAt, if_true, if_false, reduceIte, ↓reduceIte, reduceCtorEq, eq_self, Nat.reduceEqDiff, Nat.reduceAdd, Nat.reduceSub, Nat.reduceMul, Nat.reduceLT, Nat.reduceLeDiff, Nat.reducePow, Nat.reduceDiv, Nat.reduceMod, Int.reduceLT, Int.reduceLE, Int.reduceGT, Int.reduceGE, Int.reduceToNat, Int.reducePow, Int.reduceNeg, Int.reduceBEq, Int.reduceBNe, Int.reduceEq, Int.reduceAdd, Int.reduceSub, Int.reduceMul, cellv, sc, flatv, refs, refsF, refsC, ac16, c1, c2]
theorem may_walk {hp : List Blk} {L : Nat} {H d : List Nat} (b : Int) : Lrun env (.func 26) [.int .i64 b] ⟨hp, L, H, d⟩ = some (.bool (decide (1 ≤ b ∧ b ≤ 1048576)), ⟨hp, L, H, d⟩) := by
  rw [Lrun_sym 26 _ _ fn26]
  by_cases c1 : b ≥ 1
  · have e : decide (1 ≤ b ∧ b ≤ 1048576) = decide (b ≤ 1048576) := by rw [decide_eq_decide]; omega
    rw [e]
    simp (disch := (first | omega | (simp only [lnE] <;> omega) | (refine Fit.mono ‹Fit _ _ _› ?_ <;> (simp only [lnE] <;> omega)) | (refine Fit.draw ‹Fit _ _ _› ?_ ?_ <;> (simp only [lnE] <;> omega)) | (refine Fit.hid1 ‹Fit _ _ _› ?_ ?_ <;> (simp only [lnE] <;> omega)) | (refine Fit.hidc1 ‹Fit _ _ _› ?_ ?_ <;> (simp only [lnE] <;> omega)) | (refine Fit.hidc2 ‹Fit _ _ _› ?_ ?_ ?_ <;> (simp only [lnE] <;> omega)) | (refine Fit.draw1 ‹Fit _ _ _› ?_ ?_ ?_ <;> (simp only [lnE] <;> omega)) | (refine Fit.range0 ?_ ?_ <;> (simp only [lnE] <;> omega)) | fail)) only [syA, syB, argFr, D, E, T, C, undefv, eqF, aeq, sheqs, sheq, rdCells, cellsOf, fill, putAt, if_true, if_false, reduceIte, ↓reduceIte, reduceCtorEq, eq_self, Nat.reduceEqDiff, Nat.reduceAdd, Nat.reduceSub, Nat.reduceMul, Nat.reduceLT, Nat.reduceLeDiff, Nat.reducePow, Nat.reduceDiv, Nat.reduceMod, Int.reduceLT, Int.reduceLE, Int.reduceGT, Int.reduceGE, Int.reduceToNat, Int.reducePow, Int.reduceNeg, Int.reduceBEq, Int.reduceBNe, Int.reduceEq, Int.reduceAdd, Int.reduceSub, Int.reduceMul, cellv, sc, flatv, refs, refsF, refsC, ac26, c1]
  · have e : decide (1 ≤ b ∧ b ≤ 1048576) = false := by rw [decide_eq_false_iff_not]; omega
    rw [e]
    simp (disch := (first | omega | (simp only [lnE] <;> omega) | (refine Fit.mono ‹Fit _ _ _› ?_ <;> (simp only [lnE] <;> omega)) | (refine Fit.draw ‹Fit _ _ _› ?_ ?_ <;> (simp only [lnE] <;> omega)) | (refine Fit.hid1 ‹Fit _ _ _› ?_ ?_ <;> (simp only [lnE] <;> omega)) | (refine Fit.hidc1 ‹Fit _ _ _› ?_ ?_ <;> (simp only [lnE] <;> omega)) | (refine Fit.hidc2 ‹Fit _ _ _› ?_ ?_ ?_ <;> (simp only [lnE] <;> omega)) | (refine Fit.draw1 ‹Fit _ _ _› ?_ ?_ ?_ <;> (simp only [lnE] <;> omega)) | (refine Fit.range0 ?_ ?_ <;> (simp only [lnE] <;> omega)) | fail)) only [syA, syB, argFr, D, E, T, C, undefv, eqF, aeq, sheqs, sheq, rdCells, cellsOf, fill, putAt, if_true, if_false, reduceIte, ↓reduceIte, reduceCtorEq, eq_self, Nat.reduceEqDiff, Nat.reduceAdd, Nat.reduceSub, Nat.reduceMul, Nat.reduceLT, Nat.reduceLeDiff, Nat.reducePow, Nat.reduceDiv, Nat.reduceMod, Int.reduceLT, Int.reduceLE, Int.reduceGT, Int.reduceGE, Int.reduceToNat, Int.reducePow, Int.reduceNeg, Int.reduceBEq, Int.reduceBNe, Int.reduceEq, Int.reduceAdd, Int.reduceSub, Int.reduceMul, cellv, sc, flatv, refs, refsF, refsC, ac26, c1]
theorem am_run {bs : List Blk} {v : Value} {ds : List AD} (b : Int) (hb0 : -9223372036854775808 ≤ b) (hb1 : b ≤ 9223372036854775807) (hok : ∀ d ∈ ds, ADok d) (hdl : ds.length ≤ 9223372036854775807) (R : R6 ⟨bs, bs.length, [], []⟩ v ds) :
    ∃ σ', Lrun env (.func 5) [.int .i64 b, v] ⟨bs, bs.length, [], []⟩ = some (.bool true, σ') := by
  have hF : Fit bs.length bs.length [] := ⟨Nat.le_refl _, Low.nil _⟩
  obtain ⟨sm, s1, s2⟩ := small_walk R hF hdl
  rw [Lrun_sym 5 _ _ fn5]
  cases sm with
  | false =>
    simp (disch := (first | omega | (simp only [lnE] <;> omega) | (refine Fit.mono ‹Fit _ _ _› ?_ <;> (simp only [lnE] <;> omega)) | (refine Fit.draw ‹Fit _ _ _› ?_ ?_ <;> (simp only [lnE] <;> omega)) | (refine Fit.hid1 ‹Fit _ _ _› ?_ ?_ <;> (simp only [lnE] <;> omega)) | (refine Fit.hidc1 ‹Fit _ _ _› ?_ ?_ <;> (simp only [lnE] <;> omega)) | (refine Fit.hidc2 ‹Fit _ _ _› ?_ ?_ ?_ <;> (simp only [lnE] <;> omega)) | (refine Fit.draw1 ‹Fit _ _ _› ?_ ?_ ?_ <;> (simp only [lnE] <;> omega)) | (refine Fit.range0 ?_ ?_ <;> (simp only [lnE] <;> omega)) | fail)) only [syA, syB, argFr, D, E, T, C, undefv, eqF, aeq, sheqs, sheq, rdCells, cellsOf, fill, putAt, if_true, if_false, reduceIte, ↓reduceIte, reduceCtorEq, eq_self, Nat.reduceEqDiff, Nat.reduceAdd, Nat.reduceSub, Nat.reduceMul, Nat.reduceLT, Nat.reduceLeDiff, Nat.reducePow, Nat.reduceDiv, Nat.reduceMod, Int.reduceLT, Int.reduceLE, Int.reduceGT, Int.reduceGE, Int.reduceToNat, Int.reducePow, Int.reduceNeg, Int.reduceBEq, Int.reduceBNe, Int.reduceEq, Int.reduceAdd, Int.reduceSub, Int.reduceMul, cellv, sc, flatv, refs, refsF, refsC, ac5, s1, wakes_walk]
    exact ⟨_, rfl⟩
  | true =>
    have hds := s2 rfl
    by_cases g1 : b > 4000
    · by_cases g2 : b ≤ 1048576
      · simp (disch := (first | omega | (simp only [lnE] <;> omega) | (refine Fit.mono ‹Fit _ _ _› ?_ <;> (simp only [lnE] <;> omega)) | (refine Fit.draw ‹Fit _ _ _› ?_ ?_ <;> (simp only [lnE] <;> omega)) | (refine Fit.hid1 ‹Fit _ _ _› ?_ ?_ <;> (simp only [lnE] <;> omega)) | (refine Fit.hidc1 ‹Fit _ _ _› ?_ ?_ <;> (simp only [lnE] <;> omega)) | (refine Fit.hidc2 ‹Fit _ _ _› ?_ ?_ ?_ <;> (simp only [lnE] <;> omega)) | (refine Fit.draw1 ‹Fit _ _ _› ?_ ?_ ?_ <;> (simp only [lnE] <;> omega)) | (refine Fit.range0 ?_ ?_ <;> (simp only [lnE] <;> omega)) | fail)) only [syA, syB, argFr, D, E, T, C, undefv, eqF, aeq, sheqs, sheq, rdCells, cellsOf, fill, putAt, if_true, if_false, reduceIte, ↓reduceIte, reduceCtorEq, eq_self, Nat.reduceEqDiff, Nat.reduceAdd, Nat.reduceSub, Nat.reduceMul, Nat.reduceLT, Nat.reduceLeDiff, Nat.reducePow, Nat.reduceDiv, Nat.reduceMod, Int.reduceLT, Int.reduceLE, Int.reduceGT, Int.reduceGE, Int.reduceToNat, Int.reducePow, Int.reduceNeg, Int.reduceBEq, Int.reduceBNe, Int.reduceEq, Int.reduceAdd, Int.reduceSub, Int.reduceMul, cellv, sc, flatv, refs, refsF, refsC, ac5, s1, wakes_walk, g1, g2]
        exact ⟨_, rfl⟩
      · have hm : decide (1 ≤ b ∧ b ≤ 1048576) = false := by rw [decide_eq_false_iff_not]; omega
        have nb := fun hp L H d => new_bad (hp := hp) (L := L) (H := H) (d := d) b (by omega)
        simp (disch := (first | omega | (simp only [lnE] <;> omega) | (refine Fit.mono ‹Fit _ _ _› ?_ <;> (simp only [lnE] <;> omega)) | (refine Fit.draw ‹Fit _ _ _› ?_ ?_ <;> (simp only [lnE] <;> omega)) | (refine Fit.hid1 ‹Fit _ _ _› ?_ ?_ <;> (simp only [lnE] <;> omega)) | (refine Fit.hidc1 ‹Fit _ _ _› ?_ ?_ <;> (simp only [lnE] <;> omega)) | (refine Fit.hidc2 ‹Fit _ _ _› ?_ ?_ ?_ <;> (simp only [lnE] <;> omega)) | (refine Fit.draw1 ‹Fit _ _ _› ?_ ?_ ?_ <;> (simp only [lnE] <;> omega)) | (refine Fit.range0 ?_ ?_ <;> (simp only [lnE] <;> omega)) | fail)) only [syA, syB, argFr, D, E, T, C, undefv, eqF, aeq, sheqs, sheq, rdCells, cellsOf, fill, putAt, if_true, if_false, reduceIte, ↓reduceIte, reduceCtorEq, eq_self, Nat.reduceEqDiff, Nat.reduceAdd, Nat.reduceSub, Nat.reduceMul, Nat.reduceLT, Nat.reduceLeDiff, Nat.reducePow, Nat.reduceDiv, Nat.reduceMod, Int.reduceLT, Int.reduceLE, Int.reduceGT, Int.reduceGE, Int.reduceToNat, Int.reducePow, Int.reduceNeg, Int.reduceBEq, Int.reduceBNe, Int.reduceEq, Int.reduceAdd, Int.reduceSub, Int.reduceMul, cellv, sc, flatv, refs, refsF, refsC, ac5, s1, wakes_walk, g1, g2, nb, may_walk, hm]
        exact ⟨_, rfl⟩
    by_cases g3 : b < 1
    · have hm : decide (1 ≤ b ∧ b ≤ 1048576) = false := by rw [decide_eq_false_iff_not]; omega
      have nb := fun hp L H d => new_bad (hp := hp) (L := L) (H := H) (d := d) b (by omega)
      simp (disch := (first | omega | (simp only [lnE] <;> omega) | (refine Fit.mono ‹Fit _ _ _› ?_ <;> (simp only [lnE] <;> omega)) | (refine Fit.draw ‹Fit _ _ _› ?_ ?_ <;> (simp only [lnE] <;> omega)) | (refine Fit.hid1 ‹Fit _ _ _› ?_ ?_ <;> (simp only [lnE] <;> omega)) | (refine Fit.hidc1 ‹Fit _ _ _› ?_ ?_ <;> (simp only [lnE] <;> omega)) | (refine Fit.hidc2 ‹Fit _ _ _› ?_ ?_ ?_ <;> (simp only [lnE] <;> omega)) | (refine Fit.draw1 ‹Fit _ _ _› ?_ ?_ ?_ <;> (simp only [lnE] <;> omega)) | (refine Fit.range0 ?_ ?_ <;> (simp only [lnE] <;> omega)) | fail)) only [syA, syB, argFr, D, E, T, C, undefv, eqF, aeq, sheqs, sheq, rdCells, cellsOf, fill, putAt, if_true, if_false, reduceIte, ↓reduceIte, reduceCtorEq, eq_self, Nat.reduceEqDiff, Nat.reduceAdd, Nat.reduceSub, Nat.reduceMul, Nat.reduceLT, Nat.reduceLeDiff, Nat.reducePow, Nat.reduceDiv, Nat.reduceMod, Int.reduceLT, Int.reduceLE, Int.reduceGT, Int.reduceGE, Int.reduceToNat, Int.reducePow, Int.reduceNeg, Int.reduceBEq, Int.reduceBNe, Int.reduceEq, Int.reduceAdd, Int.reduceSub, Int.reduceMul, cellv, sc, flatv, refs, refsF, refsC, ac5, s1, wakes_walk, g1, nb, may_walk, hm]
      exact ⟨_, rfl⟩
    obtain ⟨n, rfl⟩ := Int.eq_ofNat_of_zero_le (by omega : 0 ≤ b)
    have hm : decide (1 ≤ (n : Int) ∧ (n : Int) ≤ 1048576) = true := by rw [decide_eq_true_eq]; omega
    have k0 : ArOk (bs.length + 4) bs.length (bs.length + 1) [] (Arn.new n) := ArOk.new (by omega) (by omega) (by omega) (by omega) rfl rfl
    have k0' : ArOk (bs.length + 4) (bs.length + 2) (bs.length + 3) [] (Arn.new n) := ArOk.new (by omega) (by omega) (by omega) (by omega) rfl rfl
    have hpl : (bs ++ [default, default, default, default] : List Blk).length = bs.length + 4 := by simp
    obtain ⟨fr, Z, l1, l5, l8, zl, kZ, kZ'⟩ := am_loop (hp := bs ++ [default, default, default, default]) (L := bs.length) (r := bs.length) (q := bs.length + 1) (r' := bs.length + 2) (q' := bs.length + 3) (n := n) (hF.mono (by simp)) (by omega) (by omega) (by omega) (by omega) (by omega) (by omega) hds hok R (by omega) (fun b x h => by
      rw [List.getElem?_append_left (List.getElem?_eq_some_iff.1 h).1]; exact h) ds.length 0 (Arn.new n) (by omega) (by simp [Arn.new]) (by rw [hpl]; exact k0) (by rw [hpl]; exact k0')
    rw [hpl] at l1 kZ kZ'
    unfold afr at l1
    simp only [Int.natCast_zero] at l1
    have z0 := kZ.live0
    have z1 := kZ.live1
    have z2 := kZ.size
    obtain ⟨lv, hlv⟩ := Int.eq_ofNat_of_zero_le z0
    have hlo : Z.loadO 0 lv = some (Z.bs.take lv) := by
      unfold Arn.loadO
      rw [if_pos (by rw [Arn.has_iff]; omega)]
      simp
    have htl : (Z.bs.take lv).length = lv := by simp; omega
    have hut : (u8s Z.bs).take lv = u8s (Z.bs.take lv) := by rw [← u8s_take]
    have hut2 : (u8s (Z.bs.take lv)).take lv = u8s (Z.bs.take lv) := by rw [← u8s_take, List.take_take, Nat.min_self]
    have hul : (u8s (Z.bs.take lv)).length = lv := by rw [u8s_length, htl]
    have c1 : (1 : Int) ≤ n := by omega
    have c2 : (n : Int) ≤ 1048576 := by omega
    have c3 : 0 ≤ (lv : Int) ∧ (lv : Int) ≤ Z.bs.length := by omega
    have c4 : lv ≤ Z.bs.length := by omega
    simp (disch := (first | omega | (simp only [lnE, put_length] <;> omega) | (refine Fit.mono ‹Fit _ _ _› ?_ <;> (simp only [lnE, put_length] <;> omega)) | (refine Fit.draw ‹Fit _ _ _› ?_ ?_ <;> (simp only [lnE, put_length] <;> omega)) | (refine Fit.hid1 ‹Fit _ _ _› ?_ ?_ <;> (simp only [lnE, put_length] <;> omega)) | (refine Fit.hidc1 ‹Fit _ _ _› ?_ ?_ <;> (simp only [lnE, put_length] <;> omega)) | (refine Fit.hidc2 ‹Fit _ _ _› ?_ ?_ ?_ <;> (simp only [lnE, put_length] <;> omega)) | (refine Fit.draw1 ‹Fit _ _ _› ?_ ?_ ?_ <;> (simp only [lnE, put_length] <;> omega)) | (refine Fit.range0 ?_ ?_ <;> (simp only [lnE, put_length] <;> omega)) | (refine ArOk.mono ‹ArOk _ _ _ _ _› ?_ <;> (simp only [lnE, put_length] <;> omega)) | (refine ArOk.hid ‹ArOk _ _ _ _ _› ?_ ?_ <;> (simp only [lnE, put_length] <;> omega)) | (refine ArOk.hid0 ‹ArOk _ _ _ _ _› ?_ ?_ <;> (simp only [lnE, put_length] <;> omega)) | ((intro xr hxr; simp [AM.refs, refsF, refsC] at hxr) <;> (simp only [lnE, put_length] <;> omega)) | fail)) only [syA, syB, argFr, D, E, T, C, undefv, eqF, aeq, sheqs, sheq, rdCells, cellsOf, fill, putAt, if_true, if_false, reduceIte, ↓reduceIte, reduceCtorEq, eq_self, Nat.reduceEqDiff, Nat.reduceAdd, Nat.reduceSub, Nat.reduceMul, Nat.reduceLT, Nat.reduceLeDiff, Nat.reducePow, Nat.reduceDiv, Nat.reduceMod, Int.reduceLT, Int.reduceLE, Int.reduceGT, Int.reduceGE, Int.reduceToNat, Int.reducePow, Int.reduceNeg, Int.reduceBEq, Int.reduceBNe, Int.reduceEq, Int.reduceAdd, Int.reduceSub, Int.reduceMul, cellv, sc, flatv, refs, refsF, refsC, syR, Int.le_refl, hF.not0, hF.not1, hF.up0, hF.up1, ac5, s1, wakes_walk, g1, new_walk, c1, c2, may_walk, hm, rfnew_walk, Int.toNat_natCast, l1, l5, l8, load2, hlv, hlo, htl, hut, hut2, hul, c3, c4, Option.getD_some, sl_some, slB_some]
    exact gc_bool _ _ _ _ _ _
end ArA
end Go.Proofs.Ytfefeikkjebfoaa
