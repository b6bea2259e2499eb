/-
  TableWalkMatches: the reference's Rows and walk on the abstract machine. Conditions: none.
-/
import Derived.Test.YtlbdgbfblgjjgaaTmA
set_option linter.all false
namespace Go.Proofs.Ytlbdgbfblgjjgaa
namespace ArA
open Go Go.RowKit AM ArEnv
def tvL (x : List Nat) (ix n : Nat) : List Nat := (List.range n).map (tv x ix)
theorem tvL_len (x : List Nat) (ix n : Nat) : (tvL x ix n).length = n := by simp [tvL]
theorem tvL_succ (x : List Nat) (ix n : Nat) : tvL x ix (n + 1) = tvL x ix n ++ [tv x ix n] := by simp [tvL, List.range_succ]
theorem tvL_at (x : List Nat) (ix : Nat) {n i : Nat} (h : i < n) : (i64n (tvL x ix n))[i]? = some (.int .i64 (tv x ix i : Nat)) := by simp [i64n, tvL, h]
section
variable {L : Nat} {H d : List Nat}
theorem nx17_tv {hq : List Blk} (hF : Fit hq.length L H) {v : Value} {x : List Nat} (hr : Rd ⟨hq, L, H, []⟩ v x) (hm : x.length ≤ 65536) {ix i : Nat} (hix : ix ≤ x.length) (hi : i ≤ x.length) : ∃ c ok, ∀ d,
    Lrun env (.func 31) [v, .int .i64 ix, .int .i64 i] ⟨hq, L, H, d⟩ = some (.tuple #[.int .i64 (tv x ix i : Nat), .int .u8 c, .bool ok], ⟨hq, L, H, d⟩) := by
  by_cases h : i = ix
  · subst h
    have e : tv x i i = 0 := if_pos rfl
    rw [e]
    exact ⟨0, false, fun d => nx17_bad hF hr i i (by omega)⟩
  · have e : tv x ix i = nxR x ix i := if_neg h
    have ha : atR ix i < x.length := by
      have h1 : 1 ≤ x.length := by omega
      unfold atR; split <;> omega
    rw [e]
    exact ⟨_, true, fun d => nx17_walk hF hr (by omega) hix hi h ha⟩
theorem rows22_loop {hq : List Blk} (hF : Fit hq.length L H) {v : Value} {x : List Nat} (hr : Rd ⟨hq, L, H, []⟩ v x) (hl : x.length ≤ 65536) {ix : Nat} (hix : ix ≤ x.length) : ∀ n i, i + n = x.length + 1 → ∃ fr,
    Liter env lb21_0 [5, 6, 0, 1] hq.length [(5, iv hq.length (tvL x ix i)), (6, .int .i64 i), (0, v), (1, .int .i64 ix)] ⟨hq ++ ib (tvL x ix i), L, H, []⟩ =
      some (.exit 0, fr, ⟨hq ++ ib (tvL x ix (x.length + 1)), L, H, []⟩) ∧ fr.get 5 = some (iv hq.length (tvL x ix (x.length + 1)))
  | 0, i, hi => by
    obtain rfl : i = x.length + 1 := by omega
    have hlen := hr.lenF
    have c1 : ¬ ((x.length + 1 : Nat) : Int) ≤ x.length := by omega
    rw [iter_by lb21_0.eq_1]
    simp (disch := (first | omega | (simp only [lnE] <;> omega) | (refine Fit.mono ‹Fit _ _ _› ?_ <;> (simp only [lnE] <;> omega)) | (refine Fit.draw ‹Fit _ _ _› ?_ ?_ <;> (simp only [lnE] <;> omega)) | (refine Fit.hid1 ‹Fit _ _ _› ?_ ?_ <;> (simp only [lnE] <;> omega)) | (refine Fit.draw1 ‹Fit _ _ _› ?_ ?_ ?_ <;> (simp only [lnE] <;> omega)) | (refine Fit.range0 ?_ ?_ <;> (simp only [lnE] <;> omega)) | fail)) only [syA, syB, argFr, D, E, T, C, undefv, eqF, aeq, sheqs, sheq, rdCells, cellsOf, fill, putAt, if_true, if_false, reduceIte, ↓reduceIte, reduceCtorEq, eq_self, Nat.reduceEqDiff, Nat.reduceAdd, Nat.reduceSub, Nat.reduceMul, Nat.reduceLT, Nat.reduceLeDiff, Nat.reducePow, Nat.reduceDiv, Nat.reduceMod, Int.reduceLT, Int.reduceLE, Int.reduceGT, Int.reduceGE, Int.reduceToNat, Int.reducePow, Int.reduceNeg, Int.reduceBEq, Int.reduceBNe, Int.reduceEq, Int.reduceAdd, Int.reduceSub, Int.reduceMul, cellv, sc, flatv, refs, refsF, refsC, hF.not0, hF.not1, hF.up0, hF.up1, hlen, c1]
    exact ⟨_, rfl, rfl⟩
  | n + 1, i, hi => by
    obtain ⟨fr, f1, f2⟩ := rows22_loop hF hr hl hix n (i + 1) (by omega)
    have hlen := hr.lenF
    have hcl := tvL_len x ix i
    have hrn := fun m => hr.ren_one (n := hq.length) (m := m) (Nat.le_refl _)
    have hrf := fun m (r : Nat) (h : r ∈ refs v) => hr.refs_lt (n := hq.length + m) (Nat.le_add_right _ _) r h
    have hx0 : x.length = 0 ∨ 1 ≤ x.length := by omega
    obtain ⟨cc, ok, n7⟩ := nx17_tv (hq := hq ++ ib (tvL x ix i)) (L := L) (H := H) (hF.mono (by simp)) hr.app hl hix (show i ≤ x.length by omega)
    have c1 : (i : Int) ≤ x.length := by omega
    have hval2 : tv x ix i ≤ 65536 := by have := tv_le (x := x) (ix := ix) (w := i) (by omega) hix; omega
    have ir1 : ((i : Nat) : Int) + 1 = ((i + 1 : Nat) : Int) := by omega
    rw [tvL_succ] at f1
    generalize tv x ix i = Y at *
    generalize tvL x ix i = c at *
    rw [iter_by lb21_0.eq_1]
    by_cases hc : c = []
    · subst hc
      simp only [iv_nil, ib_nil, List.nil_append, List.append_nil] at f1 n7 ⊢
      rw [iv_ne (by simp), ib_ne (by simp)] at f1
      have a1 := capp_nil (hp := hq ++ [.cells 0 true [.int .i64 (Y : Int)]]) (L := L) (H := H) (d := []) (vs := i64n [Y]) (by simp [i64n]) (by simp [i64n]) (i64n_cellv _) (i64n_sc _)
      simp only [i64n_cons, i64n_nil, List.length_cons, List.length_nil, Nat.zero_add, List.append_assoc, List.cons_append, List.nil_append, List.length_append, Nat.reduceAdd] at a1 f1
      simp (disch := (first | omega | (simp only [lnE] <;> omega) | (refine Fit.mono ‹Fit _ _ _› ?_ <;> (simp only [lnE] <;> omega)) | (refine Fit.draw ‹Fit _ _ _› ?_ ?_ <;> (simp only [lnE] <;> omega)) | (refine Fit.hid1 ‹Fit _ _ _› ?_ ?_ <;> (simp only [lnE] <;> omega)) | (refine Fit.draw1 ‹Fit _ _ _› ?_ ?_ ?_ <;> (simp only [lnE] <;> omega)) | (refine Fit.range0 ?_ ?_ <;> (simp only [lnE] <;> omega)) | fail)) only [syA, syB, argFr, D, E, T, C, undefv, eqF, aeq, sheqs, sheq, rdCells, cellsOf, fill, putAt, if_true, if_false, reduceIte, ↓reduceIte, reduceCtorEq, eq_self, Nat.reduceEqDiff, Nat.reduceAdd, Nat.reduceSub, Nat.reduceMul, Nat.reduceLT, Nat.reduceLeDiff, Nat.reducePow, Nat.reduceDiv, Nat.reduceMod, Int.reduceLT, Int.reduceLE, Int.reduceGT, Int.reduceGE, Int.reduceToNat, Int.reducePow, Int.reduceNeg, Int.reduceBEq, Int.reduceBNe, Int.reduceEq, Int.reduceAdd, Int.reduceSub, Int.reduceMul, cellv, sc, flatv, refs, refsF, refsC, hF.not0, hF.not1, hF.up0, hF.up1, hlen, c1, n7, a1, small]
      have hg := gcFr_one (hp := hq) (L := L) (H := H) (nw := [.cells 0 true [.int .i64 (Y : Int)], .cells 1 true [.int .i64 (Y : Int)]]) (fr := [(5, .slice (some ⟨hq.length + 1, 0, some 1⟩) 1 1), (6, .int .i64 (i + 1 : Nat)), (0, v), (1, .int .i64 ix)]) 1 rfl
          (by simp [refs, refsF, refsC]; exact fun r h => .inl (hrf 0 r h)) (by simp [refs, refsF, refsC])
      simp only [List.map_cons, List.map_nil, hrn] at hg
      simp only [ren, renF, renC, one_new] at hg
      rw [ir1, hg]
      simp (disch := (first | omega | (simp only [lnE] <;> omega) | (refine Fit.mono ‹Fit _ _ _› ?_ <;> (simp only [lnE] <;> omega)) | (refine Fit.draw ‹Fit _ _ _› ?_ ?_ <;> (simp only [lnE] <;> omega)) | (refine Fit.hid1 ‹Fit _ _ _› ?_ ?_ <;> (simp only [lnE] <;> omega)) | (refine Fit.draw1 ‹Fit _ _ _› ?_ ?_ ?_ <;> (simp only [lnE] <;> omega)) | (refine Fit.range0 ?_ ?_ <;> (simp only [lnE] <;> omega)) | fail)) only [syA, syB, argFr, D, E, T, C, undefv, eqF, aeq, sheqs, sheq, rdCells, cellsOf, fill, putAt, if_true, if_false, reduceIte, ↓reduceIte, reduceCtorEq, eq_self, Nat.reduceEqDiff, Nat.reduceAdd, Nat.reduceSub, Nat.reduceMul, Nat.reduceLT, Nat.reduceLeDiff, Nat.reducePow, Nat.reduceDiv, Nat.reduceMod, Int.reduceLT, Int.reduceLE, Int.reduceGT, Int.reduceGE, Int.reduceToNat, Int.reducePow, Int.reduceNeg, Int.reduceBEq, Int.reduceBNe, Int.reduceEq, Int.reduceAdd, Int.reduceSub, Int.reduceMul, cellv, sc, flatv, refs, refsF, refsC, hF.not0, hF.not1, hF.up0, hF.up1]
      exact ⟨fr, f1, f2⟩
    · simp only [iv_ne hc, ib_ne hc] at f1 n7 ⊢
      rw [iv_ne (by simp), ib_ne (by simp)] at f1
      have a1 := capp_full (hp := hq ++ [.cells c.length true (i64n c), .cells 0 true [.int .i64 (Y : Int)]]) (L := L) (b := hq.length) (H := H) (d := []) (cs := i64n c) (vs := i64n [Y]) (by rw [get_new0, i64n_len]) (by have := hF.1; omega) hF.not0 (by simp [i64n_len]; omega) (i64n_cellv _) (i64n_sc _)
      simp only [i64n_len, i64n_cons, i64n_nil, List.length_cons, List.length_nil, Nat.zero_add, List.append_assoc, List.cons_append, List.nil_append, List.length_append, Nat.reduceAdd, set_new0, List.set_cons_zero, i64n_app] at a1 f1
      simp (disch := (first | omega | (simp only [lnE] <;> omega) | (refine Fit.mono ‹Fit _ _ _› ?_ <;> (simp only [lnE] <;> omega)) | (refine Fit.draw ‹Fit _ _ _› ?_ ?_ <;> (simp only [lnE] <;> omega)) | (refine Fit.hid1 ‹Fit _ _ _› ?_ ?_ <;> (simp only [lnE] <;> omega)) | (refine Fit.draw1 ‹Fit _ _ _› ?_ ?_ ?_ <;> (simp only [lnE] <;> omega)) | (refine Fit.range0 ?_ ?_ <;> (simp only [lnE] <;> omega)) | fail)) only [syA, syB, argFr, D, E, T, C, undefv, eqF, aeq, sheqs, sheq, rdCells, cellsOf, fill, putAt, if_true, if_false, reduceIte, ↓reduceIte, reduceCtorEq, eq_self, Nat.reduceEqDiff, Nat.reduceAdd, Nat.reduceSub, Nat.reduceMul, Nat.reduceLT, Nat.reduceLeDiff, Nat.reducePow, Nat.reduceDiv, Nat.reduceMod, Int.reduceLT, Int.reduceLE, Int.reduceGT, Int.reduceGE, Int.reduceToNat, Int.reducePow, Int.reduceNeg, Int.reduceBEq, Int.reduceBNe, Int.reduceEq, Int.reduceAdd, Int.reduceSub, Int.reduceMul, cellv, sc, flatv, refs, refsF, refsC, hF.not0, hF.not1, hF.up0, hF.up1, hlen, c1, n7, a1, small]
      have hg := gcFr_one (hp := hq) (L := L) (H := H) (nw := [.cells (c.length + 1) true (i64n c ++ [.int .i64 (Y : Int)]), .cells 0 true [.int .i64 (Y : Int)]]) (fr := [(5, .slice (some ⟨hq.length, 0, some (c.length + 1)⟩) (c.length + 1) 1), (6, .int .i64 (i + 1 : Nat)), (0, v), (1, .int .i64 ix)]) 0 rfl
          (by simp [refs, refsF, refsC]; exact fun r h => .inl (hrf 0 r h)) (by simp [refs, refsF, refsC])
      simp only [List.map_cons, List.map_nil, hrn] at hg
      simp only [ren, renF, renC, Nat.add_zero, one_new0] at hg
      rw [ir1, hg]
      simp (disch := (first | omega | (simp only [lnE] <;> omega) | (refine Fit.mono ‹Fit _ _ _› ?_ <;> (simp only [lnE] <;> omega)) | (refine Fit.draw ‹Fit _ _ _› ?_ ?_ <;> (simp only [lnE] <;> omega)) | (refine Fit.hid1 ‹Fit _ _ _› ?_ ?_ <;> (simp only [lnE] <;> omega)) | (refine Fit.draw1 ‹Fit _ _ _› ?_ ?_ ?_ <;> (simp only [lnE] <;> omega)) | (refine Fit.range0 ?_ ?_ <;> (simp only [lnE] <;> omega)) | fail)) only [syA, syB, argFr, D, E, T, C, undefv, eqF, aeq, sheqs, sheq, rdCells, cellsOf, fill, putAt, if_true, if_false, reduceIte, ↓reduceIte, reduceCtorEq, eq_self, Nat.reduceEqDiff, Nat.reduceAdd, Nat.reduceSub, Nat.reduceMul, Nat.reduceLT, Nat.reduceLeDiff, Nat.reducePow, Nat.reduceDiv, Nat.reduceMod, Int.reduceLT, Int.reduceLE, Int.reduceGT, Int.reduceGE, Int.reduceToNat, Int.reducePow, Int.reduceNeg, Int.reduceBEq, Int.reduceBNe, Int.reduceEq, Int.reduceAdd, Int.reduceSub, Int.reduceMul, cellv, sc, flatv, refs, refsF, refsC, hF.not0, hF.not1, hF.up0, hF.up1]
      exact ⟨fr, f1, f2⟩
theorem rows22_walk {hq : List Blk} (hF : Fit hq.length L H) {v : Value} {x : List Nat} (hr : Rd ⟨hq, L, H, []⟩ v x) (hl : x.length ≤ 65536) {ix : Nat} (hix : ix ≤ x.length) :
    Lrun env (.func 21) [v, .int .i64 ix] ⟨hq, L, H, d⟩ = some (.slice (some ⟨hq.length, 0, some (x.length + 1)⟩) (x.length + 1) 1, ⟨hq ++ [.cells (x.length + 1) true (i64n (tvL x ix (x.length + 1)))], L, H, d⟩) := by
  obtain ⟨fr, g1, g2⟩ := rows22_loop hF hr hl hix (x.length + 1) 0 (by omega)
  have z1 : tvL x ix 0 = [] := rfl
  have hne : tvL x ix (x.length + 1) ≠ [] := by intro h; have := tvL_len x ix (x.length + 1); rw [h] at this; simp at this
  rw [z1, iv_nil, ib_nil, List.append_nil] at g1
  rw [iv_ne hne, tvL_len] at g2
  rw [ib_ne hne, tvL_len] at g1
  simp only [Int.natCast_zero] at g1
  rw [Lrun_sym 21 _ _ fn21]
  simp (disch := (first | omega | (simp only [lnE] <;> omega) | (refine Fit.mono ‹Fit _ _ _› ?_ <;> (simp only [lnE] <;> omega)) | (refine Fit.draw ‹Fit _ _ _› ?_ ?_ <;> (simp only [lnE] <;> omega)) | (refine Fit.hid1 ‹Fit _ _ _› ?_ ?_ <;> (simp only [lnE] <;> omega)) | (refine Fit.draw1 ‹Fit _ _ _› ?_ ?_ ?_ <;> (simp only [lnE] <;> omega)) | (refine Fit.range0 ?_ ?_ <;> (simp only [lnE] <;> omega)) | fail)) only [syA, syB, argFr, D, E, T, C, undefv, eqF, aeq, sheqs, sheq, rdCells, cellsOf, fill, putAt, if_true, if_false, reduceIte, ↓reduceIte, reduceCtorEq, eq_self, Nat.reduceEqDiff, Nat.reduceAdd, Nat.reduceSub, Nat.reduceMul, Nat.reduceLT, Nat.reduceLeDiff, Nat.reducePow, Nat.reduceDiv, Nat.reduceMod, Int.reduceLT, Int.reduceLE, Int.reduceGT, Int.reduceGE, Int.reduceToNat, Int.reducePow, Int.reduceNeg, Int.reduceBEq, Int.reduceBNe, Int.reduceEq, Int.reduceAdd, Int.reduceSub, Int.reduceMul, cellv, sc, flatv, refs, refsF, refsC, hF.not0, hF.not1, hF.up0, hF.up1, ac21, g1, g2]
  rw [gc_keep 0 rfl (by simp [refs, refsF, refsC]) (by simp [refs, refsF, refsC])]
  simp (disch := (first | omega | (simp only [lnE] <;> omega) | (refine Fit.mono ‹Fit _ _ _› ?_ <;> (simp only [lnE] <;> omega)) | (refine Fit.draw ‹Fit _ _ _› ?_ ?_ <;> (simp only [lnE] <;> omega)) | (refine Fit.hid1 ‹Fit _ _ _› ?_ ?_ <;> (simp only [lnE] <;> omega)) | (refine Fit.draw1 ‹Fit _ _ _› ?_ ?_ ?_ <;> (simp only [lnE] <;> omega)) | (refine Fit.range0 ?_ ?_ <;> (simp only [lnE] <;> omega)) | fail)) only [syA, syB, argFr, D, E, T, C, undefv, eqF, aeq, sheqs, sheq, rdCells, cellsOf, fill, putAt, if_true, if_false, reduceIte, ↓reduceIte, reduceCtorEq, eq_self, Nat.reduceEqDiff, Nat.reduceAdd, Nat.reduceSub, Nat.reduceMul, Nat.reduceLT, Nat.reduceLeDiff, Nat.reducePow, Nat.reduceDiv, Nat.reduceMod, Int.reduceLT, Int.reduceLE, Int.reduceGT, Int.reduceGE, Int.reduceToNat, Int.reducePow, Int.reduceNeg, Int.reduceBEq, Int.reduceBNe, Int.reduceEq, Int.reduceAdd, Int.reduceSub, Int.reduceMul, cellv, sc, flatv, refs, refsF, refsC, hF.not0, hF.not1, hF.up0, hF.up1, ren, renF, renC, one_new0, Nat.add_zero, List.map_cons, List.map_nil]
end
/-- The cells of the reference's walk. -/
def gB (v : Value) (ix row told st : Nat) : Blk := .cells 0 false [v, .int .i64 ix, .int .i64 row, .int .i64 told, .int .i64 st]
abbrev gP (u : Nat) : Value := .pointer (some ⟨u, 0, some 0⟩)
structure GfOk (hq : List Blk) (u : Nat) (L : Nat) (H : List Nat) (v : Value) (x : List Nat) (ix : Nat) : Prop where
  fit : Fit hq.length L H
  un : u < hq.length
  uL : L ≤ u
  hid : H.contains u = false
  rd : ∀ B, Rd ⟨hq.set u B, L, H, []⟩ v x
  ixm : ix ≤ x.length
  small : x.length ≤ 65536
section
variable {L : Nat} {H d : List Nat} {u ix : Nat} {v : Value} {x : List Nat}
theorem gbehind_none {hq : List Blk} (k : GfOk hq u L H v x ix) {row told st : Nat} :
    Lrun env (.func 63) [gP u, .int .i64 ix] ⟨hq.set u (gB v ix row told st), L, H, d⟩ = some (.tuple #[.int .i64 0, .int .u8 0, .bool false], ⟨hq.set u (gB v ix row told st), L, H, d⟩) := by
  have hF := k.fit
  have hid := k.hid
  have hget : ∀ B, (hq.set u B)[u]? = some B := fun B => List.getElem?_set_self k.un
  have hlen : ∀ B, (hq.set u B).length = hq.length := fun B => List.length_set
  have n7 := fun d => nx17_bad (d := d) (L := L) (H := H) (hq := hq.set u (gB v ix row told st)) (by rw [hlen]; exact hF) (k.rd _) ix ix (by omega)
  unfold gB at n7 ⊢
  rw [Lrun_sym 63 _ _ fn63]
  simp (disch := (first | omega | (simp only [lnE, put_length] <;> omega) | (refine Fit.mono ‹Fit _ _ _› ?_ <;> (simp only [lnE, put_length] <;> omega)) | (refine Fit.draw ‹Fit _ _ _› ?_ ?_ <;> (simp only [lnE, put_length] <;> omega)) | (refine Fit.hid1 ‹Fit _ _ _› ?_ ?_ <;> (simp only [lnE, put_length] <;> omega)) | (refine Fit.draw1 ‹Fit _ _ _› ?_ ?_ ?_ <;> (simp only [lnE, put_length] <;> omega)) | (refine Fit.range0 ?_ ?_ <;> (simp only [lnE, put_length] <;> omega)) | (refine ArOk.mono ‹ArOk _ _ _ _ _› ?_ <;> (simp only [lnE, put_length] <;> omega)) | (refine ArOk.hid ‹ArOk _ _ _ _ _› ?_ ?_ <;> (simp only [lnE, put_length] <;> omega)) | (refine ArOk.hid0 ‹ArOk _ _ _ _ _› ?_ ?_ <;> (simp only [lnE, put_length] <;> omega)) | ((intro xr hxr; simp [AM.refs, refsF, refsC] at hxr) <;> (simp only [lnE, put_length] <;> omega)) | fail)) only [syA, syB, argFr, D, E, T, C, undefv, eqF, aeq, sheqs, sheq, rdCells, cellsOf, fill, putAt, if_true, if_false, reduceIte, ↓reduceIte, reduceCtorEq, eq_self, Nat.reduceEqDiff, Nat.reduceAdd, Nat.reduceSub, Nat.reduceMul, Nat.reduceLT, Nat.reduceLeDiff, Nat.reducePow, Nat.reduceDiv, Nat.reduceMod, Int.reduceLT, Int.reduceLE, Int.reduceGT, Int.reduceGE, Int.reduceToNat, Int.reducePow, Int.reduceNeg, Int.reduceBEq, Int.reduceBNe, Int.reduceEq, Int.reduceAdd, Int.reduceSub, Int.reduceMul, cellv, sc, flatv, refs, refsF, refsC, syR, Int.le_refl, hF.not0, hF.not1, hF.up0, hF.up1, ac63, hget, hid, hlen, n7]
theorem gbehind_walk {hq : List Blk} (k : GfOk hq u L H v x ix) {row told st p : Nat} (hs : st ≤ 1099511627776) (hp : p ≤ x.length) (hne : p ≠ ix) (hx : atR ix p < x.length) :
    Lrun env (.func 63) [gP u, .int .i64 p] ⟨hq.set u (gB v ix row told st), L, H, d⟩ = some (.tuple #[.int .i64 (nxR x ix p : Nat), .int .u8 (x[atR ix p] : Nat), .bool true], ⟨hq.set u (gB v ix row told (st + 1)), L, H, d⟩) := by
  have hF := k.fit
  have hid := k.hid
  have hget : ∀ B, (hq.set u B)[u]? = some B := fun B => List.getElem?_set_self k.un
  have hlen : ∀ B, (hq.set u B).length = hq.length := fun B => List.length_set
  have n7 := fun d => nx17_walk (d := d) (L := L) (H := H) (hq := hq.set u (gB v ix row told st)) (by rw [hlen]; exact hF) (k.rd _) (by have := k.small; omega) k.ixm hp hne hx
  have huL : ¬ u < L := by have := k.uL; omega
  have hst : (st : Int) + 1 = ((st + 1 : Nat) : Int) := by omega
  generalize x[atR ix p] = y at *
  generalize nxR x ix p = nx at *
  unfold gB at n7 ⊢
  rw [Lrun_sym 63 _ _ fn63]
  simp (disch := (first | omega | (simp only [lnE, put_length] <;> omega) | (refine Fit.mono ‹Fit _ _ _› ?_ <;> (simp only [lnE, put_length] <;> omega)) | (refine Fit.draw ‹Fit _ _ _› ?_ ?_ <;> (simp only [lnE, put_length] <;> omega)) | (refine Fit.hid1 ‹Fit _ _ _› ?_ ?_ <;> (simp only [lnE, put_length] <;> omega)) | (refine Fit.draw1 ‹Fit _ _ _› ?_ ?_ ?_ <;> (simp only [lnE, put_length] <;> omega)) | (refine Fit.range0 ?_ ?_ <;> (simp only [lnE, put_length] <;> omega)) | (refine ArOk.mono ‹ArOk _ _ _ _ _› ?_ <;> (simp only [lnE, put_length] <;> omega)) | (refine ArOk.hid ‹ArOk _ _ _ _ _› ?_ ?_ <;> (simp only [lnE, put_length] <;> omega)) | (refine ArOk.hid0 ‹ArOk _ _ _ _ _› ?_ ?_ <;> (simp only [lnE, put_length] <;> omega)) | ((intro xr hxr; simp [AM.refs, refsF, refsC] at hxr) <;> (simp only [lnE, put_length] <;> omega)) | fail)) only [syA, syB, argFr, D, E, T, C, undefv, eqF, aeq, sheqs, sheq, rdCells, cellsOf, fill, putAt, if_true, if_false, reduceIte, ↓reduceIte, reduceCtorEq, eq_self, Nat.reduceEqDiff, Nat.reduceAdd, Nat.reduceSub, Nat.reduceMul, Nat.reduceLT, Nat.reduceLeDiff, Nat.reducePow, Nat.reduceDiv, Nat.reduceMod, Int.reduceLT, Int.reduceLE, Int.reduceGT, Int.reduceGE, Int.reduceToNat, Int.reducePow, Int.reduceNeg, Int.reduceBEq, Int.reduceBNe, Int.reduceEq, Int.reduceAdd, Int.reduceSub, Int.reduceMul, cellv, sc, flatv, refs, refsF, refsC, syR, Int.le_refl, hF.not0, hF.not1, hF.up0, hF.up1, ac63, hget, hid, hlen, n7, huL, hst, List.set_set]
theorem gnext_done {hq : List Blk} (k : GfOk hq u L H v x ix) {row told st : Nat} (h : told = x.length ∨ row = ix) :
    Lrun env (.func 52) [gP u] ⟨hq.set u (gB v ix row told st), L, H, d⟩ = some (.tuple #[.int .u8 0, .bool false], ⟨hq.set u (gB v ix row told st), L, H, d⟩) := by
  have hF := k.fit
  have hid := k.hid
  have hlv := (k.rd default).lenF
  have hget : ∀ B, (hq.set u B)[u]? = some B := fun B => List.getElem?_set_self k.un
  have hlen : ∀ B, (hq.set u B).length = hq.length := fun B => List.length_set
  by_cases h1 : told = x.length
  · subst h1
    unfold gB
    rw [Lrun_sym 52 _ _ fn52]
    simp (disch := (first | omega | (simp only [lnE, put_length] <;> omega) | (refine Fit.mono ‹Fit _ _ _› ?_ <;> (simp only [lnE, put_length] <;> omega)) | (refine Fit.draw ‹Fit _ _ _› ?_ ?_ <;> (simp only [lnE, put_length] <;> omega)) | (refine Fit.hid1 ‹Fit _ _ _› ?_ ?_ <;> (simp only [lnE, put_length] <;> omega)) | (refine Fit.draw1 ‹Fit _ _ _› ?_ ?_ ?_ <;> (simp only [lnE, put_length] <;> omega)) | (refine Fit.range0 ?_ ?_ <;> (simp only [lnE, put_length] <;> omega)) | (refine ArOk.mono ‹ArOk _ _ _ _ _› ?_ <;> (simp only [lnE, put_length] <;> omega)) | (refine ArOk.hid ‹ArOk _ _ _ _ _› ?_ ?_ <;> (simp only [lnE, put_length] <;> omega)) | (refine ArOk.hid0 ‹ArOk _ _ _ _ _› ?_ ?_ <;> (simp only [lnE, put_length] <;> omega)) | ((intro xr hxr; simp [AM.refs, refsF, refsC] at hxr) <;> (simp only [lnE, put_length] <;> omega)) | fail)) only [syA, syB, argFr, D, E, T, C, undefv, eqF, aeq, sheqs, sheq, rdCells, cellsOf, fill, putAt, if_true, if_false, reduceIte, ↓reduceIte, reduceCtorEq, eq_self, Nat.reduceEqDiff, Nat.reduceAdd, Nat.reduceSub, Nat.reduceMul, Nat.reduceLT, Nat.reduceLeDiff, Nat.reducePow, Nat.reduceDiv, Nat.reduceMod, Int.reduceLT, Int.reduceLE, Int.reduceGT, Int.reduceGE, Int.reduceToNat, Int.reducePow, Int.reduceNeg, Int.reduceBEq, Int.reduceBNe, Int.reduceEq, Int.reduceAdd, Int.reduceSub, Int.reduceMul, cellv, sc, flatv, refs, refsF, refsC, syR, Int.le_refl, hF.not0, hF.not1, hF.up0, hF.up1, ac52, hget, hid, hlen, hlv]
  · obtain rfl : row = ix := by rcases h with h | h; exact absurd h h1; exact h
    have bn := fun d => gbehind_none (d := d) k (row := row) (told := told) (st := st)
    have h2 : ((told : Int) == x.length) = false := by rw [beq_eq_false_iff_ne]; omega
    have h3 : ¬ ((told : Int) = x.length) := by omega
    unfold gB at bn ⊢
    rw [Lrun_sym 52 _ _ fn52]
    simp (disch := (first | omega | (simp only [lnE, put_length] <;> omega) | (refine Fit.mono ‹Fit _ _ _› ?_ <;> (simp only [lnE, put_length] <;> omega)) | (refine Fit.draw ‹Fit _ _ _› ?_ ?_ <;> (simp only [lnE, put_length] <;> omega)) | (refine Fit.hid1 ‹Fit _ _ _› ?_ ?_ <;> (simp only [lnE, put_length] <;> omega)) | (refine Fit.draw1 ‹Fit _ _ _› ?_ ?_ ?_ <;> (simp only [lnE, put_length] <;> omega)) | (refine Fit.range0 ?_ ?_ <;> (simp only [lnE, put_length] <;> omega)) | (refine ArOk.mono ‹ArOk _ _ _ _ _› ?_ <;> (simp only [lnE, put_length] <;> omega)) | (refine ArOk.hid ‹ArOk _ _ _ _ _› ?_ ?_ <;> (simp only [lnE, put_length] <;> omega)) | (refine ArOk.hid0 ‹ArOk _ _ _ _ _› ?_ ?_ <;> (simp only [lnE, put_length] <;> omega)) | ((intro xr hxr; simp [AM.refs, refsF, refsC] at hxr) <;> (simp only [lnE, put_length] <;> omega)) | fail)) only [syA, syB, argFr, D, E, T, C, undefv, eqF, aeq, sheqs, sheq, rdCells, cellsOf, fill, putAt, if_true, if_false, reduceIte, ↓reduceIte, reduceCtorEq, eq_self, Nat.reduceEqDiff, Nat.reduceAdd, Nat.reduceSub, Nat.reduceMul, Nat.reduceLT, Nat.reduceLeDiff, Nat.reducePow, Nat.reduceDiv, Nat.reduceMod, Int.reduceLT, Int.reduceLE, Int.reduceGT, Int.reduceGE, Int.reduceToNat, Int.reducePow, Int.reduceNeg, Int.reduceBEq, Int.reduceBNe, Int.reduceEq, Int.reduceAdd, Int.reduceSub, Int.reduceMul, cellv, sc, flatv, refs, refsF, refsC, syR, Int.le_refl, hF.not0, hF.not1, hF.up0, hF.up1, ac52, hget, hid, hlen, hlv, h2, h3, bn]
theorem gnext_walk {hq : List Blk} (k : GfOk hq u L H v x ix) {row told st : Nat} (ht : told < x.length) (hs : st ≤ 1099511627776) (hp : row ≤ x.length) (hne : row ≠ ix) (hx : atR ix row < x.length) :
    Lrun env (.func 52) [gP u] ⟨hq.set u (gB v ix row told st), L, H, d⟩ = some (.tuple #[.int .u8 (x[atR ix row] : Nat), .bool true], ⟨hq.set u (gB v ix (nxR x ix row) (told + 1) (st + 1)), L, H, d⟩) := by
  have hF := k.fit
  have hid := k.hid
  have hlv := (k.rd default).lenF
  have hget : ∀ B, (hq.set u B)[u]? = some B := fun B => List.getElem?_set_self k.un
  have hlen : ∀ B, (hq.set u B).length = hq.length := fun B => List.length_set
  have huL : ¬ u < L := by have := k.uL; omega
  have hsm := k.small
  have bn := fun d => gbehind_walk (d := d) k (row := row) (told := told) (st := st) hs hp hne hx
  have h2 : ((told : Int) == x.length) = false := by rw [beq_eq_false_iff_ne]; omega
  have h3 : ¬ ((told : Int) = x.length) := by omega
  have h4 : (told : Int) + 1 = ((told + 1 : Nat) : Int) := by omega
  generalize x[atR ix row] = y at *
  generalize nxR x ix row = nx at *
  unfold gB at bn ⊢
  rw [Lrun_sym 52 _ _ fn52]
  simp (disch := (first | omega | (simp only [lnE, put_length] <;> omega) | (refine Fit.mono ‹Fit _ _ _› ?_ <;> (simp only [lnE, put_length] <;> omega)) | (refine Fit.draw ‹Fit _ _ _› ?_ ?_ <;> (simp only [lnE, put_length] <;> omega)) | (refine Fit.hid1 ‹Fit _ _ _› ?_ ?_ <;> (simp only [lnE, put_length] <;> omega)) | (refine Fit.draw1 ‹Fit _ _ _› ?_ ?_ ?_ <;> (simp only [lnE, put_length] <;> omega)) | (refine Fit.range0 ?_ ?_ <;> (simp only [lnE, put_length] <;> omega)) | (refine ArOk.mono ‹ArOk _ _ _ _ _› ?_ <;> (simp only [lnE, put_length] <;> omega)) | (refine ArOk.hid ‹ArOk _ _ _ _ _› ?_ ?_ <;> (simp only [lnE, put_length] <;> omega)) | (refine ArOk.hid0 ‹ArOk _ _ _ _ _› ?_ ?_ <;> (simp only [lnE, put_length] <;> omega)) | ((intro xr hxr; simp [AM.refs, refsF, refsC] at hxr) <;> (simp only [lnE, put_length] <;> omega)) | fail)) only [syA, syB, argFr, D, E, T, C, undefv, eqF, aeq, sheqs, sheq, rdCells, cellsOf, fill, putAt, if_true, if_false, reduceIte, ↓reduceIte, reduceCtorEq, eq_self, Nat.reduceEqDiff, Nat.reduceAdd, Nat.reduceSub, Nat.reduceMul, Nat.reduceLT, Nat.reduceLeDiff, Nat.reducePow, Nat.reduceDiv, Nat.reduceMod, Int.reduceLT, Int.reduceLE, Int.reduceGT, Int.reduceGE, Int.reduceToNat, Int.reducePow, Int.reduceNeg, Int.reduceBEq, Int.reduceBNe, Int.reduceEq, Int.reduceAdd, Int.reduceSub, Int.reduceMul, cellv, sc, flatv, refs, refsF, refsC, syR, Int.le_refl, hF.not0, hF.not1, hF.up0, hF.up1, ac52, hget, hid, hlen, hlv, h2, h3, h4, bn, huL, List.set_set]
theorem gvalid_loop {hq : List Blk} (k : GfOk hq u L H v x ix) {r0 told : Nat} : ∀ (n i : Nat), i + n = x.length → ∀ (row st : Nat), row ≤ x.length → st + n ≤ 1099511627776 → ∃ e fr,
    Liter env lb53_0 [3, 0, 4] hq.length [(3, .int .i64 row), (0, gP u), (4, .int .i64 i)] ⟨hq.set u (gB v ix r0 told st), L, H, []⟩ =
      some (e, fr, ⟨hq.set u (gB v ix r0 told (vw (fun _ => 0) x ix n row st).2), L, H, []⟩) ∧
      match (vw (fun _ => 0) x ix n row st).1 with
      | some r' => e = .exit 0 ∧ fr.get 3 = some (.int .i64 (r' : Nat)) ∧ fr.get 0 = some (gP u)
      | none => e = .ret ∧ fr.get 2 = some (.bool false)
  | 0, i, hn, row, st, hr, hs => by
    obtain rfl : i = x.length := by omega
    have hF := k.fit
    have hid := k.hid
    have hlv := (k.rd default).lenF
    have hget : ∀ B, (hq.set u B)[u]? = some B := fun B => List.getElem?_set_self k.un
    simp only [vw]
    unfold gB
    rw [iter_by lb53_0.eq_1]
    simp (disch := (first | omega | (simp only [lnE, put_length] <;> omega) | (refine Fit.mono ‹Fit _ _ _› ?_ <;> (simp only [lnE, put_length] <;> omega)) | (refine Fit.draw ‹Fit _ _ _› ?_ ?_ <;> (simp only [lnE, put_length] <;> omega)) | (refine Fit.hid1 ‹Fit _ _ _› ?_ ?_ <;> (simp only [lnE, put_length] <;> omega)) | (refine Fit.draw1 ‹Fit _ _ _› ?_ ?_ ?_ <;> (simp only [lnE, put_length] <;> omega)) | (refine Fit.range0 ?_ ?_ <;> (simp only [lnE, put_length] <;> omega)) | (refine ArOk.mono ‹ArOk _ _ _ _ _› ?_ <;> (simp only [lnE, put_length] <;> omega)) | (refine ArOk.hid ‹ArOk _ _ _ _ _› ?_ ?_ <;> (simp only [lnE, put_length] <;> omega)) | (refine ArOk.hid0 ‹ArOk _ _ _ _ _› ?_ ?_ <;> (simp only [lnE, put_length] <;> omega)) | ((intro xr hxr; simp [AM.refs, refsF, refsC] at hxr) <;> (simp only [lnE, put_length] <;> omega)) | fail)) only [syA, syB, argFr, D, E, T, C, undefv, eqF, aeq, sheqs, sheq, rdCells, cellsOf, fill, putAt, if_true, if_false, reduceIte, ↓reduceIte, reduceCtorEq, eq_self, Nat.reduceEqDiff, Nat.reduceAdd, Nat.reduceSub, Nat.reduceMul, Nat.reduceLT, Nat.reduceLeDiff, Nat.reducePow, Nat.reduceDiv, Nat.reduceMod, Int.reduceLT, Int.reduceLE, Int.reduceGT, Int.reduceGE, Int.reduceToNat, Int.reducePow, Int.reduceNeg, Int.reduceBEq, Int.reduceBNe, Int.reduceEq, Int.reduceAdd, Int.reduceSub, Int.reduceMul, cellv, sc, flatv, refs, refsF, refsC, syR, Int.le_refl, hF.not0, hF.not1, hF.up0, hF.up1, hget, hid, hlv]
    exact ⟨_, _, rfl, rfl, rfl, rfl⟩
  | n + 1, i, hn, row, st, hr, hs => by
    have hF := k.fit
    have hid := k.hid
    have hlv := (k.rd default).lenF
    have hget : ∀ B, (hq.set u B)[u]? = some B := fun B => List.getElem?_set_self k.un
    have hlen : ∀ B, (hq.set u B).length = hq.length := fun B => List.length_set
    have hsm := k.small
    have c1 : (i : Int) < x.length := by omega
    by_cases hri : row = ix
    · subst hri
      have bn := fun d => gbehind_none (d := d) k (row := r0) (told := told) (st := st)
      simp only [vw, if_true]
      unfold gB at bn ⊢
      rw [iter_by lb53_0.eq_1]
      simp (disch := (first | omega | (simp only [lnE, put_length] <;> omega) | (refine Fit.mono ‹Fit _ _ _› ?_ <;> (simp only [lnE, put_length] <;> omega)) | (refine Fit.draw ‹Fit _ _ _› ?_ ?_ <;> (simp only [lnE, put_length] <;> omega)) | (refine Fit.hid1 ‹Fit _ _ _› ?_ ?_ <;> (simp only [lnE, put_length] <;> omega)) | (refine Fit.draw1 ‹Fit _ _ _› ?_ ?_ ?_ <;> (simp only [lnE, put_length] <;> omega)) | (refine Fit.range0 ?_ ?_ <;> (simp only [lnE, put_length] <;> omega)) | (refine ArOk.mono ‹ArOk _ _ _ _ _› ?_ <;> (simp only [lnE, put_length] <;> omega)) | (refine ArOk.hid ‹ArOk _ _ _ _ _› ?_ ?_ <;> (simp only [lnE, put_length] <;> omega)) | (refine ArOk.hid0 ‹ArOk _ _ _ _ _› ?_ ?_ <;> (simp only [lnE, put_length] <;> omega)) | ((intro xr hxr; simp [AM.refs, refsF, refsC] at hxr) <;> (simp only [lnE, put_length] <;> omega)) | fail)) only [syA, syB, argFr, D, E, T, C, undefv, eqF, aeq, sheqs, sheq, rdCells, cellsOf, fill, putAt, if_true, if_false, reduceIte, ↓reduceIte, reduceCtorEq, eq_self, Nat.reduceEqDiff, Nat.reduceAdd, Nat.reduceSub, Nat.reduceMul, Nat.reduceLT, Nat.reduceLeDiff, Nat.reducePow, Nat.reduceDiv, Nat.reduceMod, Int.reduceLT, Int.reduceLE, Int.reduceGT, Int.reduceGE, Int.reduceToNat, Int.reducePow, Int.reduceNeg, Int.reduceBEq, Int.reduceBNe, Int.reduceEq, Int.reduceAdd, Int.reduceSub, Int.reduceMul, cellv, sc, flatv, refs, refsF, refsC, syR, Int.le_refl, hF.not0, hF.not1, hF.up0, hF.up1, hget, hid, hlv, c1, bn]
      exact ⟨_, _, rfl, rfl, rfl⟩
    · have hx := atR_lt' hr k.ixm hri
      have bn := fun d => gbehind_walk (d := d) k (row := r0) (told := told) (st := st) (by omega) hr hri hx
      have hnx := nxR_le hr k.ixm hri
      obtain ⟨e, fr, f1, f2⟩ := gvalid_loop k (r0 := r0) (told := told) n (i + 1) (by omega) (nxR x ix row) (st + 1) hnx (by omega)
      simp only [Int.natCast_add, Int.natCast_one] at f1
      simp only [vw, if_neg hri, Nat.add_zero]
      unfold gB at bn f1 ⊢
      rw [iter_by lb53_0.eq_1]
      simp (disch := (first | omega | (simp only [lnE, put_length] <;> omega) | (refine Fit.mono ‹Fit _ _ _› ?_ <;> (simp only [lnE, put_length] <;> omega)) | (refine Fit.draw ‹Fit _ _ _› ?_ ?_ <;> (simp only [lnE, put_length] <;> omega)) | (refine Fit.hid1 ‹Fit _ _ _› ?_ ?_ <;> (simp only [lnE, put_length] <;> omega)) | (refine Fit.draw1 ‹Fit _ _ _› ?_ ?_ ?_ <;> (simp only [lnE, put_length] <;> omega)) | (refine Fit.range0 ?_ ?_ <;> (simp only [lnE, put_length] <;> omega)) | (refine ArOk.mono ‹ArOk _ _ _ _ _› ?_ <;> (simp only [lnE, put_length] <;> omega)) | (refine ArOk.hid ‹ArOk _ _ _ _ _› ?_ ?_ <;> (simp only [lnE, put_length] <;> omega)) | (refine ArOk.hid0 ‹ArOk _ _ _ _ _› ?_ ?_ <;> (simp only [lnE, put_length] <;> omega)) | ((intro xr hxr; simp [AM.refs, refsF, refsC] at hxr) <;> (simp only [lnE, put_length] <;> omega)) | fail)) only [syA, syB, argFr, D, E, T, C, undefv, eqF, aeq, sheqs, sheq, rdCells, cellsOf, fill, putAt, if_true, if_false, reduceIte, ↓reduceIte, reduceCtorEq, eq_self, Nat.reduceEqDiff, Nat.reduceAdd, Nat.reduceSub, Nat.reduceMul, Nat.reduceLT, Nat.reduceLeDiff, Nat.reducePow, Nat.reduceDiv, Nat.reduceMod, Int.reduceLT, Int.reduceLE, Int.reduceGT, Int.reduceGE, Int.reduceToNat, Int.reducePow, Int.reduceNeg, Int.reduceBEq, Int.reduceBNe, Int.reduceEq, Int.reduceAdd, Int.reduceSub, Int.reduceMul, cellv, sc, flatv, refs, refsF, refsC, syR, Int.le_refl, hF.not0, hF.not1, hF.up0, hF.up1, hget, hid, hlv, hlen, c1, bn, f1]
      exact ⟨e, fr, rfl, f2⟩
theorem gvalid_walk {hq : List Blk} (k : GfOk hq u L H v x ix) {row told st : Nat} (hs : st + x.length ≤ 1099511627776) :
    Lrun env (.func 53) [gP u] ⟨hq.set u (gB v ix row told st), L, H, d⟩ = some (.bool (decide ((vw (fun _ => 0) x ix x.length 0 0).1 = some ix)), ⟨hq.set u (gB v ix row told (vw (fun _ => 0) x ix x.length 0 st).2), L, H, d⟩) := by
  have hF := k.fit
  have hid := k.hid
  have hlen : ∀ B, (hq.set u B).length = hq.length := fun B => List.length_set
  have hget : ∀ B, (hq.set u B)[u]? = some B := fun B => List.getElem?_set_self k.un
  obtain ⟨e, fr, f1, f2⟩ := gvalid_loop k (r0 := row) (told := told) x.length 0 (by omega) 0 st (Nat.zero_le _) hs
  have hv : (vw (fun _ => 0) x ix x.length 0 0).1 = (vw (fun _ => 0) x ix x.length 0 st).1 := by rw [vw_add _ _ _ _ _ st]
  rw [hv]
  generalize vw (fun _ => 0) x ix x.length 0 st = V at *
  obtain ⟨V1, V2⟩ := V
  simp only [Int.natCast_zero] at f1
  unfold gB at f1 ⊢
  rw [Lrun_sym 53 _ _ fn53]
  cases V1 with
  | none =>
    obtain ⟨rfl, f2⟩ := f2
    simp (disch := (first | omega | (simp only [lnE, put_length] <;> omega) | (refine Fit.mono ‹Fit _ _ _› ?_ <;> (simp only [lnE, put_length] <;> omega)) | (refine Fit.draw ‹Fit _ _ _› ?_ ?_ <;> (simp only [lnE, put_length] <;> omega)) | (refine Fit.hid1 ‹Fit _ _ _› ?_ ?_ <;> (simp only [lnE, put_length] <;> omega)) | (refine Fit.draw1 ‹Fit _ _ _› ?_ ?_ ?_ <;> (simp only [lnE, put_length] <;> omega)) | (refine Fit.range0 ?_ ?_ <;> (simp only [lnE, put_length] <;> omega)) | (refine ArOk.mono ‹ArOk _ _ _ _ _› ?_ <;> (simp only [lnE, put_length] <;> omega)) | (refine ArOk.hid ‹ArOk _ _ _ _ _› ?_ ?_ <;> (simp only [lnE, put_length] <;> omega)) | (refine ArOk.hid0 ‹ArOk _ _ _ _ _› ?_ ?_ <;> (simp only [lnE, put_length] <;> omega)) | ((intro xr hxr; simp [AM.refs, refsF, refsC] at hxr) <;> (simp only [lnE, put_length] <;> omega)) | fail)) only [syA, syB, argFr, D, E, T, C, undefv, eqF, aeq, sheqs, sheq, rdCells, cellsOf, fill, putAt, if_true, if_false, reduceIte, ↓reduceIte, reduceCtorEq, eq_self, Nat.reduceEqDiff, Nat.reduceAdd, Nat.reduceSub, Nat.reduceMul, Nat.reduceLT, Nat.reduceLeDiff, Nat.reducePow, Nat.reduceDiv, Nat.reduceMod, Int.reduceLT, Int.reduceLE, Int.reduceGT, Int.reduceGE, Int.reduceToNat, Int.reducePow, Int.reduceNeg, Int.reduceBEq, Int.reduceBNe, Int.reduceEq, Int.reduceAdd, Int.reduceSub, Int.reduceMul, cellv, sc, flatv, refs, refsF, refsC, syR, Int.le_refl, hF.not0, hF.not1, hF.up0, hF.up1, ac53, hget, hid, hlen, f1, f2]
  | some r' =>
    obtain ⟨rfl, f2, f3⟩ := f2
    have hbe : (((r' : Nat) : Int) == ((ix : Nat) : Int)) = decide (r' = ix) := by rw [Bool.eq_iff_iff]; simp; omega
    simp (disch := (first | omega | (simp only [lnE, put_length] <;> omega) | (refine Fit.mono ‹Fit _ _ _› ?_ <;> (simp only [lnE, put_length] <;> omega)) | (refine Fit.draw ‹Fit _ _ _› ?_ ?_ <;> (simp only [lnE, put_length] <;> omega)) | (refine Fit.hid1 ‹Fit _ _ _› ?_ ?_ <;> (simp only [lnE, put_length] <;> omega)) | (refine Fit.draw1 ‹Fit _ _ _› ?_ ?_ ?_ <;> (simp only [lnE, put_length] <;> omega)) | (refine Fit.range0 ?_ ?_ <;> (simp only [lnE, put_length] <;> omega)) | (refine ArOk.mono ‹ArOk _ _ _ _ _› ?_ <;> (simp only [lnE, put_length] <;> omega)) | (refine ArOk.hid ‹ArOk _ _ _ _ _› ?_ ?_ <;> (simp only [lnE, put_length] <;> omega)) | (refine ArOk.hid0 ‹ArOk _ _ _ _ _› ?_ ?_ <;> (simp only [lnE, put_length] <;> omega)) | ((intro xr hxr; simp [AM.refs, refsF, refsC] at hxr) <;> (simp only [lnE, put_length] <;> omega)) | fail)) only [syA, syB, argFr, D, E, T, C, undefv, eqF, aeq, sheqs, sheq, rdCells, cellsOf, fill, putAt, if_true, if_false, reduceIte, ↓reduceIte, reduceCtorEq, eq_self, Nat.reduceEqDiff, Nat.reduceAdd, Nat.reduceSub, Nat.reduceMul, Nat.reduceLT, Nat.reduceLeDiff, Nat.reducePow, Nat.reduceDiv, Nat.reduceMod, Int.reduceLT, Int.reduceLE, Int.reduceGT, Int.reduceGE, Int.reduceToNat, Int.reducePow, Int.reduceNeg, Int.reduceBEq, Int.reduceBNe, Int.reduceEq, Int.reduceAdd, Int.reduceSub, Int.reduceMul, cellv, sc, flatv, refs, refsF, refsC, syR, Int.le_refl, hF.not0, hF.not1, hF.up0, hF.up1, ac53, hget, hid, hlen, f1, f2, f3, hbe]
    simp only [Option.some.injEq, hbe]
end
end ArA
end Go.Proofs.Ytlbdgbfblgjjgaa
