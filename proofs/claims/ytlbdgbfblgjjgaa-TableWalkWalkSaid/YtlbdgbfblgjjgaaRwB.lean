/-
  WALKS WITH RANKS: New, Next, Valid, Reset, Steps, Told on the abstract machine. Conditions: none.
-/
import Derived.Test.YtlbdgbfblgjjgaaRwA
set_option linter.all false
namespace Go.Proofs.Ytlbdgbfblgjjgaa
namespace AM
open Go Go.RowKit
theorem reach_oneW {base r : Nat} {hp : List Blk} (hb : ∀ x ∈ refsAt hp r, x < base) (hr : base ≤ r) : ∀ (ws acc : List Nat) (f : Nat), (∀ x ∈ ws, x = r ∨ x < base) → acc = [r] → reach hp base f ws acc = [r]
  | ws, acc, 0, _, ha => by rw [reach]; exact ha
  | [], acc, f + 1, _, ha => by rw [reach]; exact ha
  | x :: ws, acc, f + 1, hx, ha => by
    have h1 : (decide (x < base) || acc.contains x) = true := by
      rcases hx x (by simp) with h | h
      · rw [ha, h]; simp
      · simp [h]
    rw [reach, if_pos h1]
    exact reach_oneW hb hr ws acc f (fun y hy => hx y (by simp [hy])) ha
theorem renC_old {n m : Nat} : ∀ {v : Value}, (∀ r ∈ refsC v, r < n) → renC (one n m) v = v := by
  intro v h
  cases v with
  | pointer a => cases a with
    | none => rfl
    | some a => simp only [renC, one_old (h a.block (by simp [refsC]))]
  | slice a n e => cases a with
    | none => rfl
    | some a => simp only [renC, one_old (h a.block (by simp [refsC]))]
  | map a => cases a with
    | none => rfl
    | some a => simp only [renC, one_old (h a (by simp [refsC]))]
  | _ => rfl
theorem renB_old {n m : Nat} {b : Blk} (h : ∀ r ∈ refsB b, r < n) : renB (one n m) b = b := by
  cases b with
  | cells g pl cs =>
    cases pl with
    | true => rfl
    | false =>
      simp only [renB, Blk.cells.injEq, true_and]
      have : ∀ v ∈ cs, renC (one n m) v = v := fun v hv => renC_old fun r hr => h r (by simp only [refsB, List.mem_flatMap]; exact ⟨v, hv, hr⟩)
      conv => rhs; rw [← List.map_id cs]
      exact List.map_congr_left fun v hv => this v hv
  | map es => simp [renB]
/-- One new block is kept; what it refers to is old. -/
theorem gc_oneW {h nw : List Blk} {L : Nat} {H d : List Nat} {vs : List Value} {k : Nat} {b : Blk} (hk : nw[k]? = some b) (hB : ∀ r ∈ refsB b, r < h.length) (hv : ∀ v ∈ vs, ∀ r ∈ refs v, r < h.length ∨ r = h.length + k) (hx : ∃ v ∈ vs, h.length + k ∈ refs v) (hd : d = []) :
    gc h.length vs ⟨h ++ nw, L, H, d⟩ = some (vs.map (ren (one h.length (h.length + k))), ⟨h ++ [b], L, H, []⟩) := by
  subst hd
  have hkl : k < nw.length := (List.getElem?_eq_some_iff.1 hk).1
  have hb : (h ++ nw)[h.length + k]? = some b := by rw [List.getElem?_append_right (by omega), Nat.add_sub_cancel_left]; exact hk
  have hr0 : refsAt (h ++ nw) (h.length + k) = refsB b := by simp [refsAt, hb]
  unfold gc
  rw [if_neg (by simp only [List.length_append]; omega)]
  have hroots : ∀ r ∈ (vs.flatMap refs ++ (([] : List Nat).filter (· < h.length)).flatMap (refsAt (h ++ nw))).filter (h.length ≤ ·), r = h.length + k := fun r hr => by
    simp only [List.filter_nil, List.flatMap_nil, List.append_nil, List.mem_filter, List.mem_flatMap, decide_eq_true_eq] at hr
    obtain ⟨⟨v, h1, h2⟩, h3⟩ := hr
    rcases hv v h1 r h2 with h4 | h4
    · omega
    · exact h4
  have hne : h.length + k ∈ (vs.flatMap refs ++ (([] : List Nat).filter (· < h.length)).flatMap (refsAt (h ++ nw))).filter (h.length ≤ ·) := by
    simp only [List.filter_nil, List.flatMap_nil, List.append_nil, List.mem_filter, List.mem_flatMap, decide_eq_true_eq]
    obtain ⟨v, h1, h2⟩ := hx
    exact ⟨⟨v, h1, h2⟩, by omega⟩
  simp only []
  generalize hroot : (vs.flatMap refs ++ (([] : List Nat).filter (· < h.length)).flatMap (refsAt (h ++ nw))).filter (h.length ≤ ·) = roots at hroots hne
  cases roots with
  | nil => simp at hne
  | cons r rs =>
    have hr : r = h.length + k := hroots r (by simp)
    subst hr
    simp only []
    have hreach : reach (h ++ nw) h.length 4096 ((h.length + k) :: rs) [] = [h.length + k] := by
      rw [show 4096 = 4095 + 1 by rfl, reach]
      rw [if_neg (by simp)]
      exact reach_oneW (by rw [hr0]; exact hB) (by omega) _ _ _ (fun x hx => by
        rw [hr0, List.mem_append] at hx
        rcases hx with hx | hx
        · exact .inr (hB x hx)
        · exact .inl (hroots x (by simp [hx]))) rfl
    rw [hreach]
    unfold gcKeep
    have hok : (vs.all fun v => (refs v).all fun r => decide (r < h.length) || [h.length + k].contains r) = true := by
      rw [List.all_eq_true]
      intro v h1
      rw [List.all_eq_true]
      intro r h2
      rcases hv v h1 r h2 with h4 | h4
      · simp [h4]
      · simp [h4]
    have hok2 : ((refsB b).all fun r => decide (r < h.length) || [h.length + k].contains r) = true := by
      rw [List.all_eq_true]
      intro r h1
      simp [hB r h1]
    simp only [List.filter_nil]
    refine (if_pos ?_).trans ?_
    · simp only [nodupB, hok, List.all_nil, List.all_cons, hr0, List.length_append, hok2]
      simp
      exact hkl
    · have hg : (h ++ nw).getD (h.length + k) default = b := by rw [List.getD_eq_getElem?_getD, hb]; rfl
      have hrb := renB_old (n := h.length) (m := h.length + k) hB
      unfold one at hrb
      simp only [renAll, List.map_cons, List.map_nil, hg, List.take_left', hrb]
      rfl
end AM
namespace ArA
open Go Go.RowKit AM ArEnv
theorem wk_refs {r s m t z ix kk n row told steps : Nat} {x : List Nat} : refsB (.cells 0 false (wkC r s m t z ix kk x n row told steps)) = [r] := by
  simp [refsB, wkC, refsC, arP, lP_refs]
section
variable {hp : List Blk} {L : Nat} {H d : List Nat} {r q w : Nat} {A B : Arn} {s t z kk ix : Nat} {x : List Nat} {row told steps : Nat}
theorem rnew_loop (hF : Fit hp.length L H) (k : ArOk hp.length r q H B) (hx : Holds B s x) (hv : rValid B s x.length t z kk = true) (hkk : 1 ≤ kk) (hsm : x.length ≤ 65536)
    (hrk : ∀ c, c < 256 → ∀ p, p ≤ x.length → base B t z kk c p + tail x kk c p = (x.take p).count c) :
    ∀ (j n : Nat), n + j = 256 → ∃ fr,
    Liter env lb34_0 [14, 42, 13, 0, 8, 4, 6] (hp.length + 3) [(14, .int .i64 (csm x n : Nat)), (42, .int .i64 n), (13, .pointer (some ⟨hp.length + 2, 0, some 0⟩)), (0, arP r), (8, .pointer (some ⟨hp.length + 1, 0, some 0⟩)), (4, .int .i64 kk), (6, .pointer (some ⟨hp.length, 0, some 0⟩))]
      ⟨put (hp ++ [.cells 0 true [.int .i64 s, .int .i64 x.length], .cells 0 true [.int .i64 t, .int .i64 z], .cells 0 false (wkC r s x.length t z ix kk x n 0 0 0)]) r q B, L, H, []⟩ =
      some (.exit 0, fr, ⟨put (hp ++ [.cells 0 true [.int .i64 s, .int .i64 x.length], .cells 0 true [.int .i64 t, .int .i64 z], .cells 0 false (wkC r s x.length t z ix kk x 256 0 0 0)]) r q B, L, H, []⟩) ∧ fr.get 13 = some (.pointer (some ⟨hp.length + 2, 0, some 0⟩))
  | 0, n, e1 => by
    obtain rfl : n = 256 := by omega
    rw [iter_by lb34_0.eq_1]
    simp (disch := (first | omega | (simp only [lnE, put_length] <;> omega) | (refine Fit.mono ‹Fit _ _ _› ?_ <;> (simp only [lnE, put_length] <;> omega)) | (refine Fit.draw ‹Fit _ _ _› ?_ ?_ <;> (simp only [lnE, put_length] <;> omega)) | (refine Fit.hid1 ‹Fit _ _ _› ?_ ?_ <;> (simp only [lnE, put_length] <;> omega)) | (refine Fit.draw1 ‹Fit _ _ _› ?_ ?_ ?_ <;> (simp only [lnE, put_length] <;> omega)) | (refine Fit.range0 ?_ ?_ <;> (simp only [lnE, put_length] <;> omega)) | (refine ArOk.mono ‹ArOk _ _ _ _ _› ?_ <;> (simp only [lnE, put_length] <;> omega)) | (refine ArOk.hid ‹ArOk _ _ _ _ _› ?_ ?_ <;> (simp only [lnE, put_length] <;> omega)) | (refine ArOk.hid0 ‹ArOk _ _ _ _ _› ?_ ?_ <;> (simp only [lnE, put_length] <;> omega)) | ((intro xr hxr; simp [AM.refs, refsF, refsC] at hxr) <;> (simp only [lnE, put_length] <;> omega)) | fail)) only [syA, syB, argFr, D, E, T, C, undefv, eqF, aeq, sheqs, sheq, rdCells, cellsOf, fill, putAt, if_true, if_false, reduceIte, ↓reduceIte, reduceCtorEq, eq_self, Nat.reduceEqDiff, Nat.reduceAdd, Nat.reduceSub, Nat.reduceMul, Nat.reduceLT, Nat.reduceLeDiff, Nat.reducePow, Nat.reduceDiv, Nat.reduceMod, Int.reduceLT, Int.reduceLE, Int.reduceGT, Int.reduceGE, Int.reduceToNat, Int.reducePow, Int.reduceNeg, Int.reduceBEq, Int.reduceBNe, Int.reduceEq, Int.reduceAdd, Int.reduceSub, Int.reduceMul, cellv, sc, flatv, refs, refsF, refsC, syR, Int.le_refl]
    exact ⟨_, rfl, rfl⟩
  | j + 1, n, e1 => by
    obtain ⟨fr, f1, f2⟩ := rnew_loop hF k hx hv hkk hsm hrk j (n + 1) (by omega)
    have hrl := k.r_lt
    have hql := k.q_lt
    have hb : n < 256 := by omega
    have h1 : (n : Int) < 256 := by omega
    have h2 : 0 ≤ (n : Int) ∧ (n : Int) < 256 := by omega
    have rwA := fun nw => rank_walk (d := []) (L := L) (H := H) (hp := hp ++ nw) (r := r) (q := q) (c := n) (p := x.length) (hF.mono (by simp)) (k.mono (by simp)) hx (by omega) hv hkk (Nat.le_refl _) hb
    simp only [hrk n hb x.length (Nat.le_refl _), List.take_length] at rwA
    have c1 := csm_le x (n + 1)
    have c2 : (n + 1) * x.length ≤ 256 * 65536 := Nat.mul_le_mul (by omega) hsm
    have a1 : ((csm x n : Nat) : Int) + (x.count n : Nat) = (csm x (n + 1) : Nat) := by simp only [csm]; omega
    have hS := wkSL (r := r) (s := s) (m := x.length) (t := t) (z := z) (ix := ix) (kk := kk) (row := 0) (told := 0) (steps := 0) (x := x) hb
    have hwr : r ≠ hp.length + 2 := by omega
    have hwq : q ≠ hp.length + 2 := by omega
    have hwL : ¬ hp.length + 2 < L := by have := hF.1; omega
    have c5 : 7 + n + 1 ≤ 266 := by omega
    simp only [Int.natCast_add, Int.natCast_one] at f1
    rw [iter_by lb34_0.eq_1]
    simp (disch := (first | omega | (simp only [lnE, put_length] <;> omega) | (refine Fit.mono ‹Fit _ _ _› ?_ <;> (simp only [lnE, put_length] <;> omega)) | (refine Fit.draw ‹Fit _ _ _› ?_ ?_ <;> (simp only [lnE, put_length] <;> omega)) | (refine Fit.hid1 ‹Fit _ _ _› ?_ ?_ <;> (simp only [lnE, put_length] <;> omega)) | (refine Fit.draw1 ‹Fit _ _ _› ?_ ?_ ?_ <;> (simp only [lnE, put_length] <;> omega)) | (refine Fit.range0 ?_ ?_ <;> (simp only [lnE, put_length] <;> omega)) | (refine ArOk.mono ‹ArOk _ _ _ _ _› ?_ <;> (simp only [lnE, put_length] <;> omega)) | (refine ArOk.hid ‹ArOk _ _ _ _ _› ?_ ?_ <;> (simp only [lnE, put_length] <;> omega)) | (refine ArOk.hid0 ‹ArOk _ _ _ _ _› ?_ ?_ <;> (simp only [lnE, put_length] <;> omega)) | ((intro xr hxr; simp [AM.refs, refsF, refsC] at hxr) <;> (simp only [lnE, put_length] <;> omega)) | fail)) only [syA, syB, argFr, D, E, T, C, undefv, eqF, aeq, sheqs, sheq, rdCells, cellsOf, fill, putAt, if_true, if_false, reduceIte, ↓reduceIte, reduceCtorEq, eq_self, Nat.reduceEqDiff, Nat.reduceAdd, Nat.reduceSub, Nat.reduceMul, Nat.reduceLT, Nat.reduceLeDiff, Nat.reducePow, Nat.reduceDiv, Nat.reduceMod, Int.reduceLT, Int.reduceLE, Int.reduceGT, Int.reduceGE, Int.reduceToNat, Int.reducePow, Int.reduceNeg, Int.reduceBEq, Int.reduceBNe, Int.reduceEq, Int.reduceAdd, Int.reduceSub, Int.reduceMul, cellv, sc, flatv, refs, refsF, refsC, syR, Int.le_refl, hF.not0, hF.not1, hF.up0, hF.up1, k.hr, k.hq, h1, h2, rwA, a1, hS, hwr, hwq, hwL, wk_len, c5, f1]
    exact ⟨fr, rfl, f2⟩
end
end ArA
end Go.Proofs.Ytlbdgbfblgjjgaa
