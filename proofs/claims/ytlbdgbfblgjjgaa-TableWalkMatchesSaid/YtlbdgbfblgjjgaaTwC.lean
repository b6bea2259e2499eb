/-
  WALKS WITH A TABLE: New on the abstract machine. Conditions: none.
-/
import Derived.Test.YtlbdgbfblgjjgaaTwB
set_option linter.all false
namespace Go.Proofs.Ytlbdgbfblgjjgaa
namespace ArA
open Go Go.RowKit AM ArEnv
theorem fB_refs {r s t z ix m row told steps : Nat} : refsB (fB r s t z ix m row told steps) = [r] := by
  simp [fB, refsB, refsC, arP]
section
variable {hp : List Blk} {L : Nat} {H d : List Nat} {r q : Nat} {A : Arn} {s t z ix : Nat} {x : List Nat}
set_option maxRecDepth 20000 in
theorem tnew_loop (hF : Fit hp.length L H) (k : ArOk hp.length r q H A) (hw : L ≤ r ∧ L ≤ q) (hx : Holds A s x) (hv : tValid A s x.length t z = true) (hb : By x) (hix : ix ≤ x.length) :
    ∀ (n i : Nat) (B : Arn), i + n = x.length + 1 → Tabled A B t x ix i → ∃ fr B', Tabled A B' t x ix (x.length + 1) ∧
    Liter env lb18_0 [43, 42, 10, 11, 0, 7] (hp.length + 4) [(43, .int .i64 i), (42, .int .i64 (x.length + 1 : Nat)), (10, fP (hp.length + 2)), (11, .pointer (some ⟨hp.length + 3, 0, some 0⟩)), (0, arP r), (7, .pointer (some ⟨hp.length + 1, 0, some 0⟩))]
      ⟨put (hp ++ [.cells 0 true [.int .i64 s, .int .i64 x.length], .cells 0 true [.int .i64 t, .int .i64 z], fB r s t z ix x.length 0 0 0, .cells 0 true (lN x (atR ix i))]) r q B, L, H, []⟩ =
      some (.exit 1, fr, ⟨put (hp ++ [.cells 0 true [.int .i64 s, .int .i64 x.length], .cells 0 true [.int .i64 t, .int .i64 z], fB r s t z ix x.length 0 0 0, .cells 0 true (lN x x.length)]) r q B', L, H, []⟩) ∧ fr.get 10 = some (fP (hp.length + 2))
  | 0, i, B, hi, hT => by
    obtain rfl : i = x.length + 1 := by omega
    have e : atR ix (x.length + 1) = x.length := by unfold atR; rw [if_neg (by omega)]; rfl
    rw [iter_by lb18_0.eq_1, e]
    simp (disch := (first | omega | (simp only [lnE, put_length] <;> omega) | (refine Fit.mono ‹Fit _ _ _› ?_ <;> (simp only [lnE, put_length] <;> omega)) | (refine Fit.draw ‹Fit _ _ _› ?_ ?_ <;> (simp only [lnE, put_length] <;> omega)) | (refine Fit.hid1 ‹Fit _ _ _› ?_ ?_ <;> (simp only [lnE, put_length] <;> omega)) | (refine Fit.draw1 ‹Fit _ _ _› ?_ ?_ ?_ <;> (simp only [lnE, put_length] <;> omega)) | (refine Fit.range0 ?_ ?_ <;> (simp only [lnE, put_length] <;> omega)) | (refine ArOk.mono ‹ArOk _ _ _ _ _› ?_ <;> (simp only [lnE, put_length] <;> omega)) | (refine ArOk.hid ‹ArOk _ _ _ _ _› ?_ ?_ <;> (simp only [lnE, put_length] <;> omega)) | (refine ArOk.hid0 ‹ArOk _ _ _ _ _› ?_ ?_ <;> (simp only [lnE, put_length] <;> omega)) | ((intro xr hxr; simp [AM.refs, refsF, refsC] at hxr) <;> (simp only [lnE, put_length] <;> omega)) | fail)) only [syA, syB, argFr, D, E, T, C, undefv, eqF, aeq, sheqs, sheq, rdCells, cellsOf, fill, putAt, if_true, if_false, reduceIte, ↓reduceIte, reduceCtorEq, eq_self, Nat.reduceEqDiff, Nat.reduceAdd, Nat.reduceSub, Nat.reduceMul, Nat.reduceLT, Nat.reduceLeDiff, Nat.reducePow, Nat.reduceDiv, Nat.reduceMod, Int.reduceLT, Int.reduceLE, Int.reduceGT, Int.reduceGE, Int.reduceToNat, Int.reducePow, Int.reduceNeg, Int.reduceBEq, Int.reduceBNe, Int.reduceEq, Int.reduceAdd, Int.reduceSub, Int.reduceMul, cellv, sc, flatv, refs, refsF, refsC, syR, Int.le_refl]
    exact ⟨_, B, hT, rfl, rfl⟩
  | n + 1, i, B, hi, hT => by
    obtain ⟨v1, v2, v3, v4, v5⟩ := tValid_parts hv
    have b2 := Arn.has_iff.1 v2
    have hrl := k.r_lt
    have hql := k.q_lt
    have hlv := k.live1
    have hsz := k.size
    obtain ⟨p1, p2⟩ := hT.next (z := z) (by omega) hlv (by omega) (by omega)
    have hB : Holds B s x := hT.holds hx fun j hj => by omega
    have kB : ∀ nw : List Blk, ArOk (hp ++ nw).length r q H B := fun nw => (hT.ok k).mono (by simp)
    obtain ⟨fr, B', g1, g2, g3⟩ := tnew_loop hF k hw hx hv hb hix n (i + 1) _ (by omega) p2
    have hfr : r ≠ hp.length + 2 := by omega
    have hfq : q ≠ hp.length + 2 := by omega
    have hid : H.contains (hp.length + 2) = false := hF.not1 2
    have hst := fun B5 (d : List Nat) => setWord_walk (d := d) (L := L) (H := H) (hp := hp ++ [.cells 0 true [.int .i64 s, .int .i64 x.length], .cells 0 true [.int .i64 t, .int .i64 z], fB r s t z ix x.length 0 0 0, B5]) (hF.mono (by simp)) (kB _) hw t z i (tv x ix i) (by have := tv_le (x := x) (ix := ix) (w := i) (by omega) hix; omega)
    rw [p1] at hst
    have c1 : (i : Int) < (x.length + 1 : Nat) := by omega
    have ir1 : ((i : Nat) : Int) + 1 = ((i + 1 : Nat) : Int) := by omega
    have hu : B.setWord t z i (tv x ix i) = B.setWord (t : Int) (z : Int) (i : Int) (tv x ix i) := rfl
    rw [iter_by lb18_0.eq_1]
    by_cases hri : i = ix
    · subst hri
      have ty := fun d => tbyte_none (d := d) (L := L) (H := H) (f := hp.length + 2) (s := s) (t := t) (z := z) (row := 0) (told := 0) (steps := 0) (ix := i) (x := x) (hp := hp ++ [.cells 0 true [.int .i64 s, .int .i64 x.length], .cells 0 true [.int .i64 t, .int .i64 z], fB r s t z i x.length 0 0 0, .cells 0 true (lN x (atR i i))]) (hF.mono (by simp)) (kB _) hfr hfq hid (by rw [get_new]; rfl)
      have e1 : atR i (i + 1) = atR i i := by unfold atR; rw [if_neg (by omega), if_pos (Nat.le_refl _)]; rfl
      have e2 : tv x i i = 0 := if_pos rfl
      rw [e1] at g2
      rw [e2] at g2 hst
      simp only [Int.natCast_zero] at hst
      generalize B.setWord t z i 0 = B2 at *
      unfold fB at ty hst g2 ⊢
      simp only [Int.natCast_zero] at ty hst g2 ⊢
      simp (disch := (first | omega | (simp only [lnE, put_length] <;> omega) | (refine Fit.mono ‹Fit _ _ _› ?_ <;> (simp only [lnE, put_length] <;> omega)) | (refine Fit.draw ‹Fit _ _ _› ?_ ?_ <;> (simp only [lnE, put_length] <;> omega)) | (refine Fit.hid1 ‹Fit _ _ _› ?_ ?_ <;> (simp only [lnE, put_length] <;> omega)) | (refine Fit.draw1 ‹Fit _ _ _› ?_ ?_ ?_ <;> (simp only [lnE, put_length] <;> omega)) | (refine Fit.range0 ?_ ?_ <;> (simp only [lnE, put_length] <;> omega)) | (refine ArOk.mono ‹ArOk _ _ _ _ _› ?_ <;> (simp only [lnE, put_length] <;> omega)) | (refine ArOk.hid ‹ArOk _ _ _ _ _› ?_ ?_ <;> (simp only [lnE, put_length] <;> omega)) | (refine ArOk.hid0 ‹ArOk _ _ _ _ _› ?_ ?_ <;> (simp only [lnE, put_length] <;> omega)) | ((intro xr hxr; simp [AM.refs, refsF, refsC] at hxr) <;> (simp only [lnE, put_length] <;> omega)) | fail)) only [syA, syB, argFr, D, E, T, C, undefv, eqF, aeq, sheqs, sheq, rdCells, cellsOf, fill, putAt, if_true, if_false, reduceIte, ↓reduceIte, reduceCtorEq, eq_self, Nat.reduceEqDiff, Nat.reduceAdd, Nat.reduceSub, Nat.reduceMul, Nat.reduceLT, Nat.reduceLeDiff, Nat.reducePow, Nat.reduceDiv, Nat.reduceMod, Int.reduceLT, Int.reduceLE, Int.reduceGT, Int.reduceGE, Int.reduceToNat, Int.reducePow, Int.reduceNeg, Int.reduceBEq, Int.reduceBNe, Int.reduceEq, Int.reduceAdd, Int.reduceSub, Int.reduceMul, cellv, sc, flatv, refs, refsF, refsC, syR, Int.le_refl, hF.not0, hF.not1, hF.up0, hF.up1, k.hr, k.hq, c1, ir1, ty, hst, convF_int, g2]
      exact ⟨fr, B', g1, rfl, g3⟩
    · have ha : atR ix i < x.length := by unfold atR; split <;> omega
      have hc := hb.get ha
      have ty := fun d => tbyte_walk (d := d) (L := L) (H := H) (f := hp.length + 2) (s := s) (t := t) (z := z) (row := 0) (told := 0) (steps := 0) (ix := ix) (x := x) (hp := hp ++ [.cells 0 true [.int .i64 s, .int .i64 x.length], .cells 0 true [.int .i64 t, .int .i64 z], fB r s t z ix x.length 0 0 0, .cells 0 true (lN x (atR ix i))]) (hF.mono (by simp)) (kB _) hB hfr hfq hid (by rw [get_new]; rfl) hri ha
      have e1 : atR ix (i + 1) = atR ix i + 1 := by unfold atR; split <;> split <;> omega
      have e2 : tv x ix i = nxR x ix i := if_neg hri
      have e3 := nxR_eq ha
      have hset := lN_set ha hc
      have hl := lN_at x (atR ix i) hc
      have hl2 := lN_at x (atR ix i + 1) hc
      have hs1 : same x[atR ix i] (x.take (atR ix i + 1)) = same x[atR ix i] (x.take (atR ix i)) + 1 := by
        rw [List.take_add_one, List.getElem?_eq_getElem ha, same_app]; simp [same]
      rw [hs1] at hl2
      have hle := nxR_le (x := x) (ix := ix) (r := i) (by omega) hix hri
      have hval : ((less x[atR ix i] x + (same x[atR ix i] (x.take (atR ix i)) + 1) : Nat) : Int) = (nxR x ix i : Nat) := by rw [e3]; omega
      rw [hval] at hl2
      have q1 : less x[atR ix i] x + same x[atR ix i] (x.take (atR ix i)) ≤ 65536 := by rw [e3] at hle; omega
      have q2 : 0 ≤ (x[atR ix i] : Int) ∧ (x[atR ix i] : Int) < 256 := by omega
      have q3 : x[atR ix i] + 1 ≤ 256 := by omega
      have q4 : 0 ≤ ((nxR x ix i : Nat) : Int) ∧ ((nxR x ix i : Nat) : Int) ≤ 65536 := by omega
      rw [e1] at g2
      rw [e2] at g2 hst
      generalize B.setWord t z i (nxR x ix i) = B2 at *
      generalize nxR x ix i = nx at *
      unfold fB at ty hst g2 ⊢
      simp only [Int.natCast_zero] at ty hst g2 ⊢
      simp (disch := (first | omega | (simp only [lnE, put_length] <;> omega) | (refine Fit.mono ‹Fit _ _ _› ?_ <;> (simp only [lnE, put_length] <;> omega)) | (refine Fit.draw ‹Fit _ _ _› ?_ ?_ <;> (simp only [lnE, put_length] <;> omega)) | (refine Fit.hid1 ‹Fit _ _ _› ?_ ?_ <;> (simp only [lnE, put_length] <;> omega)) | (refine Fit.draw1 ‹Fit _ _ _› ?_ ?_ ?_ <;> (simp only [lnE, put_length] <;> omega)) | (refine Fit.range0 ?_ ?_ <;> (simp only [lnE, put_length] <;> omega)) | (refine ArOk.mono ‹ArOk _ _ _ _ _› ?_ <;> (simp only [lnE, put_length] <;> omega)) | (refine ArOk.hid ‹ArOk _ _ _ _ _› ?_ ?_ <;> (simp only [lnE, put_length] <;> omega)) | (refine ArOk.hid0 ‹ArOk _ _ _ _ _› ?_ ?_ <;> (simp only [lnE, put_length] <;> omega)) | ((intro xr hxr; simp [AM.refs, refsF, refsC] at hxr) <;> (simp only [lnE, put_length] <;> omega)) | fail)) only [syA, syB, argFr, D, E, T, C, undefv, eqF, aeq, sheqs, sheq, rdCells, cellsOf, fill, putAt, if_true, if_false, reduceIte, ↓reduceIte, reduceCtorEq, eq_self, Nat.reduceEqDiff, Nat.reduceAdd, Nat.reduceSub, Nat.reduceMul, Nat.reduceLT, Nat.reduceLeDiff, Nat.reducePow, Nat.reduceDiv, Nat.reduceMod, Int.reduceLT, Int.reduceLE, Int.reduceGT, Int.reduceGE, Int.reduceToNat, Int.reducePow, Int.reduceNeg, Int.reduceBEq, Int.reduceBNe, Int.reduceEq, Int.reduceAdd, Int.reduceSub, Int.reduceMul, cellv, sc, flatv, refs, refsF, refsC, syR, Int.le_refl, hF.not0, hF.not1, hF.up0, hF.up1, k.hr, k.hq, c1, ir1, ty, lN_len, hl, hl2, hset, q1, q2, q3, q4, hst, convF_int, g2]
      exact ⟨fr, B', g1, rfl, g3⟩
set_option maxRecDepth 20000 in
theorem tnew_walk (hF : Fit hp.length L H) (k : ArOk hp.length r q H A) (hw : L ≤ r ∧ L ≤ q) (hx : Holds A s x) (hv : tValid A s x.length t z = true) (hb : By x) (hix : 1 ≤ ix ∧ ix ≤ x.length) : ∃ B,
    (∀ d, Lrun env (.func 18) [arP r, .agg #[.int .i64 s, .int .i64 x.length], .int .i64 ix, .agg #[.int .i64 t, .int .i64 z]] ⟨put hp r q A, L, H, d⟩ =
      some (.tuple #[fP hp.length, .int .i64 0], ⟨put (hp ++ [fB r s t z ix x.length 0 0 0]) r q B, L, H, d⟩)) ∧
    Tabled A B t x ix (x.length + 1) ∧ Holds B s x ∧ ArOk hp.length r q H B := by
  obtain ⟨v1, v2, v3, v4, v5⟩ := tValid_parts hv
  have b2 := Arn.has_iff.1 v2
  have hrl := k.r_lt
  have hql := k.q_lt
  obtain ⟨fr, B, hT, e1, e2⟩ := tnew_loop hF k hw hx hv hb hix.2 (x.length + 1) 0 A (by omega) (Tabled.zero k.by_ t x ix)
  have hB : Holds B s x := hT.holds hx fun j hj => by omega
  refine ⟨B, fun d => ?_, hT, hB, hT.ok k⟩
  have z1 : atR ix 0 = 0 := if_pos (Nat.zero_le _)
  rw [z1, ← lN_zero] at e1
  have va := fun d nw => tvalid_walk (d := d) (hp := hp ++ nw) (L := L) (H := H) (r := r) (q := q) (A := A) (hF.mono (by simp)) (k.mono (by simp)) s x.length t z
  simp only [hv] at va
  have lw := fun d nw => less_walk (d := d) (hp := hp ++ nw) (L := L) (H := H) (r := r) (q := q) (A := A) (s := s) (m := x.length) (hF.mono (by simp)) (k.mono (by simp)) hb (by omega) hx.load
  have c1 : ¬ (ix : Int) < 1 := by omega
  have c2 : ¬ (ix : Int) > x.length := by omega
  have c3 : (x.length : Int) + 1 = ((x.length + 1 : Nat) : Int) := by omega
  have hput : putAt (c256 []) 0 (lP x 256) = lP x 256 := putAt_own (by rw [lP_len, c256_len])
  obtain ⟨WB, hWB⟩ : ∃ WB, WB = fB r s t z ix x.length 0 0 0 := ⟨_, rfl⟩
  have hWB2 : WB = .cells 0 false [arP r, .int .i64 s, .int .i64 x.length, .int .i64 t, .int .i64 z, .int .i64 ix, .int .i64 0, .int .i64 0, .int .i64 0] := hWB
  rw [← hWB] at e1 ⊢
  simp only [Int.natCast_zero] at e1
  rw [Lrun_sym 18 _ _ fn18]
  simp (disch := (first | omega | (simp only [lnE, put_length] <;> omega) | (refine Fit.mono ‹Fit _ _ _› ?_ <;> (simp only [lnE, put_length] <;> omega)) | (refine Fit.draw ‹Fit _ _ _› ?_ ?_ <;> (simp only [lnE, put_length] <;> omega)) | (refine Fit.hid1 ‹Fit _ _ _› ?_ ?_ <;> (simp only [lnE, put_length] <;> omega)) | (refine Fit.draw1 ‹Fit _ _ _› ?_ ?_ ?_ <;> (simp only [lnE, put_length] <;> omega)) | (refine Fit.range0 ?_ ?_ <;> (simp only [lnE, put_length] <;> omega)) | (refine ArOk.mono ‹ArOk _ _ _ _ _› ?_ <;> (simp only [lnE, put_length] <;> omega)) | (refine ArOk.hid ‹ArOk _ _ _ _ _› ?_ ?_ <;> (simp only [lnE, put_length] <;> omega)) | (refine ArOk.hid0 ‹ArOk _ _ _ _ _› ?_ ?_ <;> (simp only [lnE, put_length] <;> omega)) | ((intro xr hxr; simp [AM.refs, refsF, refsC] at hxr) <;> (simp only [lnE, put_length] <;> omega)) | fail)) only [syA, syB, argFr, D, E, T, C, undefv, eqF, aeq, sheqs, sheq, rdCells, cellsOf, fill, putAt, if_true, if_false, reduceIte, ↓reduceIte, reduceCtorEq, eq_self, Nat.reduceEqDiff, Nat.reduceAdd, Nat.reduceSub, Nat.reduceMul, Nat.reduceLT, Nat.reduceLeDiff, Nat.reducePow, Nat.reduceDiv, Nat.reduceMod, Int.reduceLT, Int.reduceLE, Int.reduceGT, Int.reduceGE, Int.reduceToNat, Int.reducePow, Int.reduceNeg, Int.reduceBEq, Int.reduceBNe, Int.reduceEq, Int.reduceAdd, Int.reduceSub, Int.reduceMul, cellv, sc, flatv, refs, refsF, refsC, syR, Int.le_refl, hF.not0, hF.not1, hF.up0, hF.up1, k.hr, k.hq, ac18, va, lw, c1, c2, c3, c256_nil, lP_len, c256_len, lP_cellv, lP_scs, hput, ← hWB2, e1, e2]
  have hpl : (put hp r q B).length = hp.length := put_length
  have hg := gc_oneW (h := put hp r q B) (nw := [.cells 0 true [.int .i64 s, .int .i64 x.length], .cells 0 true [.int .i64 t, .int .i64 z], WB, .cells 0 true (lN x x.length)]) (L := L) (H := H) (d := [])
    (vs := [.tuple #[.pointer (some ⟨hp.length + 2, 0, some 0⟩), .int .i64 0]]) (k := 2) rfl (by rw [hWB, fB_refs, hpl]; simpa using hrl) (by simp [refs, refsF, refsC, hpl]) (by simp [refs, refsF, refsC, hpl]) rfl
  rw [hpl] at hg
  simp only [List.map_cons, List.map_nil, ren, renF, renC, one_new] at hg
  unfold gcY
  rw [hpl, hg, ← put_app hrl hql]
  simp [gcX, joinDirty, ren, renF, renC, one_new]
theorem tnew_bad (hF : Fit hp.length L H) (k : ArOk hp.length r q H A) {s m t z ix : Int} (hv : tValid A s m t z = false) :
    Lrun env (.func 18) [arP r, .agg #[.int .i64 s, .int .i64 m], .int .i64 ix, .agg #[.int .i64 t, .int .i64 z]] ⟨put hp r q A, L, H, d⟩ = some (.tuple #[.pointer none, .int .i64 2], ⟨put hp r q A, L, H, d⟩) := by
  have hrl := k.r_lt
  have hql := k.q_lt
  have va := fun d nw => tvalid_walk (d := d) (hp := hp ++ nw) (L := L) (H := H) (r := r) (q := q) (A := A) (hF.mono (by simp)) (k.mono (by simp)) s m t z
  simp only [hv] at va
  rw [Lrun_sym 18 _ _ fn18]
  simp (disch := (first | omega | (simp only [lnE, put_length] <;> omega) | (refine Fit.mono ‹Fit _ _ _› ?_ <;> (simp only [lnE, put_length] <;> omega)) | (refine Fit.draw ‹Fit _ _ _› ?_ ?_ <;> (simp only [lnE, put_length] <;> omega)) | (refine Fit.hid1 ‹Fit _ _ _› ?_ ?_ <;> (simp only [lnE, put_length] <;> omega)) | (refine Fit.draw1 ‹Fit _ _ _› ?_ ?_ ?_ <;> (simp only [lnE, put_length] <;> omega)) | (refine Fit.range0 ?_ ?_ <;> (simp only [lnE, put_length] <;> omega)) | (refine ArOk.mono ‹ArOk _ _ _ _ _› ?_ <;> (simp only [lnE, put_length] <;> omega)) | (refine ArOk.hid ‹ArOk _ _ _ _ _› ?_ ?_ <;> (simp only [lnE, put_length] <;> omega)) | (refine ArOk.hid0 ‹ArOk _ _ _ _ _› ?_ ?_ <;> (simp only [lnE, put_length] <;> omega)) | ((intro xr hxr; simp [AM.refs, refsF, refsC] at hxr) <;> (simp only [lnE, put_length] <;> omega)) | fail)) only [syA, syB, argFr, D, E, T, C, undefv, eqF, aeq, sheqs, sheq, rdCells, cellsOf, fill, putAt, if_true, if_false, reduceIte, ↓reduceIte, reduceCtorEq, eq_self, Nat.reduceEqDiff, Nat.reduceAdd, Nat.reduceSub, Nat.reduceMul, Nat.reduceLT, Nat.reduceLeDiff, Nat.reducePow, Nat.reduceDiv, Nat.reduceMod, Int.reduceLT, Int.reduceLE, Int.reduceGT, Int.reduceGE, Int.reduceToNat, Int.reducePow, Int.reduceNeg, Int.reduceBEq, Int.reduceBNe, Int.reduceEq, Int.reduceAdd, Int.reduceSub, Int.reduceMul, cellv, sc, flatv, refs, refsF, refsC, syR, Int.le_refl, hF.not0, hF.not1, hF.up0, hF.up1, k.hr, k.hq, ac18, va]
theorem tnew_index (hF : Fit hp.length L H) (k : ArOk hp.length r q H A) {s m t z ix : Int} (hv : tValid A s m t z = true) (hix : ¬ (1 ≤ ix ∧ ix ≤ m)) :
    Lrun env (.func 18) [arP r, .agg #[.int .i64 s, .int .i64 m], .int .i64 ix, .agg #[.int .i64 t, .int .i64 z]] ⟨put hp r q A, L, H, d⟩ = some (.tuple #[.pointer none, .int .i64 170], ⟨put hp r q A, L, H, d⟩) := by
  have hrl := k.r_lt
  have hql := k.q_lt
  have va := fun d nw => tvalid_walk (d := d) (hp := hp ++ nw) (L := L) (H := H) (r := r) (q := q) (A := A) (hF.mono (by simp)) (k.mono (by simp)) s m t z
  simp only [hv] at va
  rw [Lrun_sym 18 _ _ fn18]
  by_cases c1 : ix < 1
  · simp (disch := (first | omega | (simp only [lnE, put_length] <;> omega) | (refine Fit.mono ‹Fit _ _ _› ?_ <;> (simp only [lnE, put_length] <;> omega)) | (refine Fit.draw ‹Fit _ _ _› ?_ ?_ <;> (simp only [lnE, put_length] <;> omega)) | (refine Fit.hid1 ‹Fit _ _ _› ?_ ?_ <;> (simp only [lnE, put_length] <;> omega)) | (refine Fit.draw1 ‹Fit _ _ _› ?_ ?_ ?_ <;> (simp only [lnE, put_length] <;> omega)) | (refine Fit.range0 ?_ ?_ <;> (simp only [lnE, put_length] <;> omega)) | (refine ArOk.mono ‹ArOk _ _ _ _ _› ?_ <;> (simp only [lnE, put_length] <;> omega)) | (refine ArOk.hid ‹ArOk _ _ _ _ _› ?_ ?_ <;> (simp only [lnE, put_length] <;> omega)) | (refine ArOk.hid0 ‹ArOk _ _ _ _ _› ?_ ?_ <;> (simp only [lnE, put_length] <;> omega)) | ((intro xr hxr; simp [AM.refs, refsF, refsC] at hxr) <;> (simp only [lnE, put_length] <;> omega)) | fail)) only [syA, syB, argFr, D, E, T, C, undefv, eqF, aeq, sheqs, sheq, rdCells, cellsOf, fill, putAt, if_true, if_false, reduceIte, ↓reduceIte, reduceCtorEq, eq_self, Nat.reduceEqDiff, Nat.reduceAdd, Nat.reduceSub, Nat.reduceMul, Nat.reduceLT, Nat.reduceLeDiff, Nat.reducePow, Nat.reduceDiv, Nat.reduceMod, Int.reduceLT, Int.reduceLE, Int.reduceGT, Int.reduceGE, Int.reduceToNat, Int.reducePow, Int.reduceNeg, Int.reduceBEq, Int.reduceBNe, Int.reduceEq, Int.reduceAdd, Int.reduceSub, Int.reduceMul, cellv, sc, flatv, refs, refsF, refsC, syR, Int.le_refl, hF.not0, hF.not1, hF.up0, hF.up1, k.hr, k.hq, ac18, va, c1]
  · have c2 : ix > m := by omega
    simp (disch := (first | omega | (simp only [lnE, put_length] <;> omega) | (refine Fit.mono ‹Fit _ _ _› ?_ <;> (simp only [lnE, put_length] <;> omega)) | (refine Fit.draw ‹Fit _ _ _› ?_ ?_ <;> (simp only [lnE, put_length] <;> omega)) | (refine Fit.hid1 ‹Fit _ _ _› ?_ ?_ <;> (simp only [lnE, put_length] <;> omega)) | (refine Fit.draw1 ‹Fit _ _ _› ?_ ?_ ?_ <;> (simp only [lnE, put_length] <;> omega)) | (refine Fit.range0 ?_ ?_ <;> (simp only [lnE, put_length] <;> omega)) | (refine ArOk.mono ‹ArOk _ _ _ _ _› ?_ <;> (simp only [lnE, put_length] <;> omega)) | (refine ArOk.hid ‹ArOk _ _ _ _ _› ?_ ?_ <;> (simp only [lnE, put_length] <;> omega)) | (refine ArOk.hid0 ‹ArOk _ _ _ _ _› ?_ ?_ <;> (simp only [lnE, put_length] <;> omega)) | ((intro xr hxr; simp [AM.refs, refsF, refsC] at hxr) <;> (simp only [lnE, put_length] <;> omega)) | fail)) only [syA, syB, argFr, D, E, T, C, undefv, eqF, aeq, sheqs, sheq, rdCells, cellsOf, fill, putAt, if_true, if_false, reduceIte, ↓reduceIte, reduceCtorEq, eq_self, Nat.reduceEqDiff, Nat.reduceAdd, Nat.reduceSub, Nat.reduceMul, Nat.reduceLT, Nat.reduceLeDiff, Nat.reducePow, Nat.reduceDiv, Nat.reduceMod, Int.reduceLT, Int.reduceLE, Int.reduceGT, Int.reduceGE, Int.reduceToNat, Int.reducePow, Int.reduceNeg, Int.reduceBEq, Int.reduceBNe, Int.reduceEq, Int.reduceAdd, Int.reduceSub, Int.reduceMul, cellv, sc, flatv, refs, refsF, refsC, syR, Int.le_refl, hF.not0, hF.not1, hF.up0, hF.up1, k.hr, k.hq, ac18, va, c1, c2]
end
end ArA
end Go.Proofs.Ytlbdgbfblgjjgaa
