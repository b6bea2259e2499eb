/-
  RankWalkBad: New fails for spans that are not valid and for distances below 1, and succeeds for valid arguments if the index is valid: the run. Conditions: none.
-/
import Derived.Test.YtlbdgbfblgjjgaaRwF
import Derived.Test.YtlbdgbfblgjjgaaRkM
set_option linter.all false
namespace Go.Proofs.Ytlbdgbfblgjjgaa
namespace ArA
open Go Go.RowKit AM ArEnv
theorem rl_has {l : List Nat} {sz e : Nat} : (rl l (sz + e)).has (0 : Nat) l.length = true ∧ (rl l (sz + e)).has l.length sz = true := by
  constructor <;> (rw [Arn.has_iff, rl_live]; omega)
theorem rl_valid9 {l : List Nat} {sz e : Nat} {kk : Int} (h1 : 1 ≤ l.length) (h2 : l.length ≤ 65536) (h3 : 1 ≤ kk ∧ kk ≤ 65536) (hs : rSize l.length kk = sz) : rValid (rl l (sz + e)) (0 : Nat) l.length l.length sz kk = true := by
  obtain ⟨a1, a2⟩ := rl_has (l := l) (sz := sz) (e := e)
  unfold rValid rApart
  rw [a1, a2, hs]
  simp; omega
set_option maxRecDepth 20000 in
theorem rwbad_run {hp : List Blk} {v : Value} {x : List Nat} (hr : Rd ⟨hp, hp.length, [], []⟩ v x) (le : Int) (hl0 : -9223372036854775808 ≤ le) (hl1 : le ≤ 9223372036854775807) (ix : Int) (hi0 : -9223372036854775808 ≤ ix) (hi1 : ix ≤ 9223372036854775807) (kk : Int) (hk0 : -9223372036854775808 ≤ kk) (hk1 : kk ≤ 9223372036854775807) :
    ∃ σ', Lrun env (.func 8) [v, .int .i64 le, .int .i64 ix, .int .i64 kk] ⟨hp, hp.length, [], []⟩ = some (.bool true, σ') := by
  have hF : Fit hp.length hp.length [] := ⟨Nat.le_refl _, Low.nil _⟩
  have hlen := hr.lenF
  rw [Lrun_sym 8 _ _ fn8]
  by_cases g1 : (x.length : Int) = 0
  · simp (disch := (first | omega | (simp only [lnE] <;> omega) | (refine Fit.mono ‹Fit _ _ _› ?_ <;> (simp only [lnE] <;> omega)) | (refine Fit.draw ‹Fit _ _ _› ?_ ?_ <;> (simp only [lnE] <;> omega)) | (refine Fit.hid1 ‹Fit _ _ _› ?_ ?_ <;> (simp only [lnE] <;> omega)) | (refine Fit.draw1 ‹Fit _ _ _› ?_ ?_ ?_ <;> (simp only [lnE] <;> omega)) | (refine Fit.range0 ?_ ?_ <;> (simp only [lnE] <;> omega)) | fail)) only [syA, syB, argFr, D, E, T, C, undefv, eqF, aeq, sheqs, sheq, rdCells, cellsOf, fill, putAt, if_true, if_false, reduceIte, ↓reduceIte, reduceCtorEq, eq_self, Nat.reduceEqDiff, Nat.reduceAdd, Nat.reduceSub, Nat.reduceMul, Nat.reduceLT, Nat.reduceLeDiff, Nat.reducePow, Nat.reduceDiv, Nat.reduceMod, Int.reduceLT, Int.reduceLE, Int.reduceGT, Int.reduceGE, Int.reduceToNat, Int.reducePow, Int.reduceNeg, Int.reduceBEq, Int.reduceBNe, Int.reduceEq, Int.reduceAdd, Int.reduceSub, Int.reduceMul, cellv, sc, flatv, refs, refsF, refsC, hF.not0, hF.not1, hF.up0, hF.up1, ac8, hlen, g1, wakes21_walk]
    exact ⟨_, rfl⟩
  have g1' : ((x.length : Int) == 0) = false := by rw [beq_eq_false_iff_ne]; exact g1
  by_cases g2 : (x.length : Int) > 60
  · simp (disch := (first | omega | (simp only [lnE] <;> omega) | (refine Fit.mono ‹Fit _ _ _› ?_ <;> (simp only [lnE] <;> omega)) | (refine Fit.draw ‹Fit _ _ _› ?_ ?_ <;> (simp only [lnE] <;> omega)) | (refine Fit.hid1 ‹Fit _ _ _› ?_ ?_ <;> (simp only [lnE] <;> omega)) | (refine Fit.draw1 ‹Fit _ _ _› ?_ ?_ ?_ <;> (simp only [lnE] <;> omega)) | (refine Fit.range0 ?_ ?_ <;> (simp only [lnE] <;> omega)) | fail)) only [syA, syB, argFr, D, E, T, C, undefv, eqF, aeq, sheqs, sheq, rdCells, cellsOf, fill, putAt, if_true, if_false, reduceIte, ↓reduceIte, reduceCtorEq, eq_self, Nat.reduceEqDiff, Nat.reduceAdd, Nat.reduceSub, Nat.reduceMul, Nat.reduceLT, Nat.reduceLeDiff, Nat.reducePow, Nat.reduceDiv, Nat.reduceMod, Int.reduceLT, Int.reduceLE, Int.reduceGT, Int.reduceGE, Int.reduceToNat, Int.reducePow, Int.reduceNeg, Int.reduceBEq, Int.reduceBNe, Int.reduceEq, Int.reduceAdd, Int.reduceSub, Int.reduceMul, cellv, sc, flatv, refs, refsF, refsC, hF.not0, hF.not1, hF.up0, hF.up1, ac8, hlen, g1', g2, wakes21_walk]
    exact ⟨_, rfl⟩
  by_cases g3 : le < 0
  · simp (disch := (first | omega | (simp only [lnE] <;> omega) | (refine Fit.mono ‹Fit _ _ _› ?_ <;> (simp only [lnE] <;> omega)) | (refine Fit.draw ‹Fit _ _ _› ?_ ?_ <;> (simp only [lnE] <;> omega)) | (refine Fit.hid1 ‹Fit _ _ _› ?_ ?_ <;> (simp only [lnE] <;> omega)) | (refine Fit.draw1 ‹Fit _ _ _› ?_ ?_ ?_ <;> (simp only [lnE] <;> omega)) | (refine Fit.range0 ?_ ?_ <;> (simp only [lnE] <;> omega)) | fail)) only [syA, syB, argFr, D, E, T, C, undefv, eqF, aeq, sheqs, sheq, rdCells, cellsOf, fill, putAt, if_true, if_false, reduceIte, ↓reduceIte, reduceCtorEq, eq_self, Nat.reduceEqDiff, Nat.reduceAdd, Nat.reduceSub, Nat.reduceMul, Nat.reduceLT, Nat.reduceLeDiff, Nat.reducePow, Nat.reduceDiv, Nat.reduceMod, Int.reduceLT, Int.reduceLE, Int.reduceGT, Int.reduceGE, Int.reduceToNat, Int.reducePow, Int.reduceNeg, Int.reduceBEq, Int.reduceBNe, Int.reduceEq, Int.reduceAdd, Int.reduceSub, Int.reduceMul, cellv, sc, flatv, refs, refsF, refsC, hF.not0, hF.not1, hF.up0, hF.up1, ac8, hlen, g1', g2, g3, wakes21_walk]
    exact ⟨_, rfl⟩
  by_cases g4 : kk > 100
  · simp (disch := (first | omega | (simp only [lnE] <;> omega) | (refine Fit.mono ‹Fit _ _ _› ?_ <;> (simp only [lnE] <;> omega)) | (refine Fit.draw ‹Fit _ _ _› ?_ ?_ <;> (simp only [lnE] <;> omega)) | (refine Fit.hid1 ‹Fit _ _ _› ?_ ?_ <;> (simp only [lnE] <;> omega)) | (refine Fit.draw1 ‹Fit _ _ _› ?_ ?_ ?_ <;> (simp only [lnE] <;> omega)) | (refine Fit.range0 ?_ ?_ <;> (simp only [lnE] <;> omega)) | fail)) only [syA, syB, argFr, D, E, T, C, undefv, eqF, aeq, sheqs, sheq, rdCells, cellsOf, fill, putAt, if_true, if_false, reduceIte, ↓reduceIte, reduceCtorEq, eq_self, Nat.reduceEqDiff, Nat.reduceAdd, Nat.reduceSub, Nat.reduceMul, Nat.reduceLT, Nat.reduceLeDiff, Nat.reducePow, Nat.reduceDiv, Nat.reduceMod, Int.reduceLT, Int.reduceLE, Int.reduceGT, Int.reduceGE, Int.reduceToNat, Int.reducePow, Int.reduceNeg, Int.reduceBEq, Int.reduceBNe, Int.reduceEq, Int.reduceAdd, Int.reduceSub, Int.reduceMul, cellv, sc, flatv, refs, refsF, refsC, hF.not0, hF.not1, hF.up0, hF.up1, ac8, hlen, g1', g2, g3, g4, wakes21_walk]
    exact ⟨_, rfl⟩
  have hszN : ∃ sz : Nat, (if kk > 0 then 1024 * (x.length : Int).tdiv kk else 0) = (sz : Int) ∧ sz ≤ 65536 ∧ (1 ≤ kk → rSize x.length kk = sz) := by
    by_cases h : kk > 0
    · obtain ⟨k, rfl⟩ := Int.eq_ofNat_of_zero_le (by omega : 0 ≤ kk)
      have h1 := rSize_nat (m := x.length) (k := k) (by omega) (by omega)
      have h2 : x.length / k ≤ x.length := Nat.div_le_self _ _
      have h3 : (x.length : Int).tdiv (k : Int) = ((x.length / k : Nat) : Int) := rfl
      refine ⟨4 * (256 * (x.length / k)), ?_, by omega, fun _ => h1⟩
      rw [if_pos h, h3]; omega
    · exact ⟨0, by rw [if_neg h]; rfl, by omega, fun h2 => by omega⟩
  obtain ⟨sz, hs, hsl, hsz⟩ := hszN
  have ld := laid21_walk (d := []) (kk := kk) (sz := sz) (e := 9) hF hr (by omega) hs (by omega) (by omega)
  have k0 : ArOk (hp.length + 2) hp.length (hp.length + 1) [] (rl x (sz + 9)) := rl_ok (by omega) (by omega) (by omega) rfl rfl hr.by_ (by omega)
  obtain ⟨a, e, rfl⟩ := hr.len
  have hdl : ((sz : Nat) : Int) - le ≥ -9223372036854775808 ∧ ((sz : Nat) : Int) - le ≤ 9223372036854775807 := by omega
  simp only [Nat.reduceAdd, Int.cast_ofNat_Int] at ld
  have lw : ∀ {B : Arn}, Holds B 0 x → ArOk (hp.length + 2) hp.length (hp.length + 1) [] B → ∀ (nw : List Blk) (L' : Nat), Fit (hp ++ (default :: default :: nw)).length L' [] → Lrun env (.func 20) [arP hp.length, .agg #[.int .i64 0, .int .i64 x.length]] ⟨put (hp ++ (default :: default :: nw)) hp.length (hp.length + 1) B, L', [], []⟩ = some (sl (hp ++ (default :: default :: nw)).length x.length (some x), ⟨put (hp ++ (default :: default :: nw) ++ slB x.length (some x)) hp.length (hp.length + 1) B, L', [], []⟩) := fun hH kB nw L' hF' => by
    have h := load_walk (d := []) (L := L') (H := []) (hp := hp ++ (default :: default :: nw)) (r := hp.length) (q := hp.length + 1) hF' (kB.mono (by simp)) 0 x.length
    have lo := hH.load
    simp only [Int.natCast_zero] at lo
    rw [lo] at h
    exact h
  have rv := fun B nw L' => (Rd.put (nw := nw) (L' := L') (d' := []) (r := hp.length) (q := hp.length + 1) (A := B) hr (by omega) (by omega)).str
  have rvh := fun B nw L' lo n (hlo : hp.length ≤ lo) => (Rd_put_hide (nw := nw) (L' := L') (d' := []) (r := hp.length) (q := hp.length + 1) (lo := lo) (n := n) (A := B) hr (by omega) (by omega) hlo).str
  by_cases hfit : kk ≥ 1 ∧ le = 0
  · obtain ⟨c1, rfl⟩ := hfit
    obtain ⟨kk, rfl⟩ := Int.eq_ofNat_of_zero_le (by omega : 0 ≤ kk)
    have hv0 : rValid (rl x (sz + 9)) (0 : Nat) x.length x.length sz kk = true := rl_valid9 (by omega) (by omega) (by omega) (hsz c1)
    by_cases c2 : 1 ≤ ix ∧ ix ≤ x.length
    · obtain ⟨ix, rfl⟩ := Int.eq_ofNat_of_zero_le (by omega : 0 ≤ ix)
      obtain ⟨B, n1, m1, rk1, h1, k1⟩ := rnew_walk (ix := ix) (hp := hp ++ [default, default, .cells 0 true [.int .i64 0, .int .i64 x.length], .cells 0 true [.int .i64 x.length, .int .i64 sz]]) (L := hp.length) (H := []) (r := hp.length) (q := hp.length + 1) (hF.mono (by simp)) (k0.mono (by simp)) (by omega) (rl_holds x (sz + 9)) hv0 (by omega)
      have n2 := fun d Wb => rnew_bad (d := d) (ix := ix) (hp := hp ++ [default, default, .cells 0 true [.int .i64 0, .int .i64 x.length], .cells 0 true [.int .i64 x.length, .int .i64 sz], Wb]) (L := hp.length) (H := []) (r := hp.length) (q := hp.length + 1) (A := B) (s := 0) (m := 0) (t := x.length) (z := sz) (kk := kk) (hF.mono (by simp)) ((m1.ok k0).mono (by simp)) (by simp [rValid])
      have d1 : ¬ (ix : Int) < 1 := by omega
      have d2 : ¬ (ix : Int) > x.length := by omega
      have lw1 := lw h1 (m1.ok k0)
      have rv1 := rv B
      have rvh1 := rvh B
      simp only [Int.natCast_zero, Int.sub_zero] at n1 n2 ⊢
      simp (disch := (first | omega | (simp only [lnE, put_length] <;> omega) | (refine Fit.mono ‹Fit _ _ _› ?_ <;> (simp only [lnE, put_length] <;> omega)) | (refine Fit.draw ‹Fit _ _ _› ?_ ?_ <;> (simp only [lnE, put_length] <;> omega)) | (refine Fit.hid1 ‹Fit _ _ _› ?_ ?_ <;> (simp only [lnE, put_length] <;> omega)) | (refine Fit.draw1 ‹Fit _ _ _› ?_ ?_ ?_ <;> (simp only [lnE, put_length] <;> omega)) | (refine Fit.range0 ?_ ?_ <;> (simp only [lnE, put_length] <;> omega)) | (refine ArOk.mono ‹ArOk _ _ _ _ _› ?_ <;> (simp only [lnE, put_length] <;> omega)) | (refine ArOk.hid ‹ArOk _ _ _ _ _› ?_ ?_ <;> (simp only [lnE, put_length] <;> omega)) | (refine ArOk.hid0 ‹ArOk _ _ _ _ _› ?_ ?_ <;> (simp only [lnE, put_length] <;> omega)) | ((intro xr hxr; simp [AM.refs, refsF, refsC] at hxr) <;> (simp only [lnE, put_length] <;> omega)) | fail)) only [syA, syB, argFr, D, E, T, C, undefv, eqF, aeq, sheqs, sheq, rdCells, cellsOf, fill, putAt, if_true, if_false, reduceIte, ↓reduceIte, reduceCtorEq, eq_self, Nat.reduceEqDiff, Nat.reduceAdd, Nat.reduceSub, Nat.reduceMul, Nat.reduceLT, Nat.reduceLeDiff, Nat.reducePow, Nat.reduceDiv, Nat.reduceMod, Int.reduceLT, Int.reduceLE, Int.reduceGT, Int.reduceGE, Int.reduceToNat, Int.reducePow, Int.reduceNeg, Int.reduceBEq, Int.reduceBNe, Int.reduceEq, Int.reduceAdd, Int.reduceSub, Int.reduceMul, cellv, sc, flatv, refs, refsF, refsC, syR, Int.le_refl, hF.not0, hF.not1, hF.up0, hF.up1, ac8, hlen, g1', g2, g3, g4, c1, ld, n1, n2, d1, d2, lw1, rv1, rvh1, sl_some, slB_some, wakes21_walk, gc_bool_new]
      exact ⟨_, rfl⟩
    · obtain ⟨B, n1, m1, h1, k1⟩ := rnew_index (ix := ix) (hp := hp ++ [default, default, .cells 0 true [.int .i64 0, .int .i64 x.length], .cells 0 true [.int .i64 x.length, .int .i64 sz]]) (L := hp.length) (H := []) (r := hp.length) (q := hp.length + 1) (hF.mono (by simp)) (k0.mono (by simp)) (by omega) (rl_holds x (sz + 9)) hv0 c2
      have n2 := fun d => rnew_bad (d := d) (ix := ix) (hp := hp ++ [default, default, .cells 0 true [.int .i64 0, .int .i64 x.length], .cells 0 true [.int .i64 x.length, .int .i64 sz]]) (L := hp.length) (H := []) (r := hp.length) (q := hp.length + 1) (A := B) (s := 0) (m := 0) (t := x.length) (z := sz) (kk := kk) (hF.mono (by simp)) ((m1.ok k0).mono (by simp)) (by simp [rValid])
      have lw1 := lw h1 (m1.ok k0)
      have rv1 := rv B
      have rvh1 := rvh B
      simp only [Int.natCast_zero, Int.sub_zero] at n1 n2 ⊢
      by_cases d1 : ix < 1
      · simp (disch := (first | omega | (simp only [lnE, put_length] <;> omega) | (refine Fit.mono ‹Fit _ _ _› ?_ <;> (simp only [lnE, put_length] <;> omega)) | (refine Fit.draw ‹Fit _ _ _› ?_ ?_ <;> (simp only [lnE, put_length] <;> omega)) | (refine Fit.hid1 ‹Fit _ _ _› ?_ ?_ <;> (simp only [lnE, put_length] <;> omega)) | (refine Fit.draw1 ‹Fit _ _ _› ?_ ?_ ?_ <;> (simp only [lnE, put_length] <;> omega)) | (refine Fit.range0 ?_ ?_ <;> (simp only [lnE, put_length] <;> omega)) | (refine ArOk.mono ‹ArOk _ _ _ _ _› ?_ <;> (simp only [lnE, put_length] <;> omega)) | (refine ArOk.hid ‹ArOk _ _ _ _ _› ?_ ?_ <;> (simp only [lnE, put_length] <;> omega)) | (refine ArOk.hid0 ‹ArOk _ _ _ _ _› ?_ ?_ <;> (simp only [lnE, put_length] <;> omega)) | ((intro xr hxr; simp [AM.refs, refsF, refsC] at hxr) <;> (simp only [lnE, put_length] <;> omega)) | fail)) only [syA, syB, argFr, D, E, T, C, undefv, eqF, aeq, sheqs, sheq, rdCells, cellsOf, fill, putAt, if_true, if_false, reduceIte, ↓reduceIte, reduceCtorEq, eq_self, Nat.reduceEqDiff, Nat.reduceAdd, Nat.reduceSub, Nat.reduceMul, Nat.reduceLT, Nat.reduceLeDiff, Nat.reducePow, Nat.reduceDiv, Nat.reduceMod, Int.reduceLT, Int.reduceLE, Int.reduceGT, Int.reduceGE, Int.reduceToNat, Int.reducePow, Int.reduceNeg, Int.reduceBEq, Int.reduceBNe, Int.reduceEq, Int.reduceAdd, Int.reduceSub, Int.reduceMul, cellv, sc, flatv, refs, refsF, refsC, syR, Int.le_refl, hF.not0, hF.not1, hF.up0, hF.up1, ac8, hlen, g1', g2, g3, g4, c1, ld, n1, n2, d1, lw1, rv1, rvh1, sl_some, slB_some, wakes21_walk, gc_bool_new]
        exact ⟨_, rfl⟩
      · have d2 : ix > x.length := by omega
        simp (disch := (first | omega | (simp only [lnE, put_length] <;> omega) | (refine Fit.mono ‹Fit _ _ _› ?_ <;> (simp only [lnE, put_length] <;> omega)) | (refine Fit.draw ‹Fit _ _ _› ?_ ?_ <;> (simp only [lnE, put_length] <;> omega)) | (refine Fit.hid1 ‹Fit _ _ _› ?_ ?_ <;> (simp only [lnE, put_length] <;> omega)) | (refine Fit.draw1 ‹Fit _ _ _› ?_ ?_ ?_ <;> (simp only [lnE, put_length] <;> omega)) | (refine Fit.range0 ?_ ?_ <;> (simp only [lnE, put_length] <;> omega)) | (refine ArOk.mono ‹ArOk _ _ _ _ _› ?_ <;> (simp only [lnE, put_length] <;> omega)) | (refine ArOk.hid ‹ArOk _ _ _ _ _› ?_ ?_ <;> (simp only [lnE, put_length] <;> omega)) | (refine ArOk.hid0 ‹ArOk _ _ _ _ _› ?_ ?_ <;> (simp only [lnE, put_length] <;> omega)) | ((intro xr hxr; simp [AM.refs, refsF, refsC] at hxr) <;> (simp only [lnE, put_length] <;> omega)) | fail)) only [syA, syB, argFr, D, E, T, C, undefv, eqF, aeq, sheqs, sheq, rdCells, cellsOf, fill, putAt, if_true, if_false, reduceIte, ↓reduceIte, reduceCtorEq, eq_self, Nat.reduceEqDiff, Nat.reduceAdd, Nat.reduceSub, Nat.reduceMul, Nat.reduceLT, Nat.reduceLeDiff, Nat.reducePow, Nat.reduceDiv, Nat.reduceMod, Int.reduceLT, Int.reduceLE, Int.reduceGT, Int.reduceGE, Int.reduceToNat, Int.reducePow, Int.reduceNeg, Int.reduceBEq, Int.reduceBNe, Int.reduceEq, Int.reduceAdd, Int.reduceSub, Int.reduceMul, cellv, sc, flatv, refs, refsF, refsC, syR, Int.le_refl, hF.not0, hF.not1, hF.up0, hF.up1, ac8, hlen, g1', g2, g3, g4, c1, ld, n1, n2, d1, d2, lw1, rv1, rvh1, sl_some, slB_some, wakes21_walk, gc_bool_new]
        exact ⟨_, rfl⟩
  · have hv0 : rValid (rl x (sz + 9)) 0 x.length x.length (sz - le) kk = false := by
      unfold rValid
      by_cases h : kk ≥ 1
      · have h2 : ¬ ((sz : Int) ≤ sz - le) := by omega
        rw [hsz h]; simp [h2]
      · have h2 : ¬ (1 ≤ kk ∧ kk ≤ 65536) := by omega
        simp [h2]
    have n1 := fun d => rnew_bad (d := d) (ix := ix) (hp := hp ++ [default, default, .cells 0 true [.int .i64 0, .int .i64 x.length], .cells 0 true [.int .i64 x.length, .int .i64 (sz - le)]]) (L := hp.length) (H := []) (r := hp.length) (q := hp.length + 1) (A := rl x (sz + 9)) (s := 0) (m := x.length) (t := x.length) (z := sz - le) (kk := kk) (hF.mono (by simp)) (k0.mono (by simp)) hv0
    have n2 := fun d => rnew_bad (d := d) (ix := ix) (hp := hp ++ [default, default, .cells 0 true [.int .i64 0, .int .i64 x.length], .cells 0 true [.int .i64 x.length, .int .i64 (sz - le)]]) (L := hp.length) (H := []) (r := hp.length) (q := hp.length + 1) (A := rl x (sz + 9)) (s := 0) (m := 0) (t := x.length) (z := sz - le) (kk := kk) (hF.mono (by simp)) (k0.mono (by simp)) (by simp [rValid])
    have lw1 := lw (rl_holds x (sz + 9)) k0
    have rv1 := rv (rl x (sz + 9))
    have rvh1 := rvh (rl x (sz + 9))
    by_cases c1 : kk ≥ 1
    · have c2 : (le == 0) = false := by rw [beq_eq_false_iff_ne]; omega
      simp (disch := (first | omega | (simp only [lnE, put_length] <;> omega) | (refine Fit.mono ‹Fit _ _ _› ?_ <;> (simp only [lnE, put_length] <;> omega)) | (refine Fit.draw ‹Fit _ _ _› ?_ ?_ <;> (simp only [lnE, put_length] <;> omega)) | (refine Fit.hid1 ‹Fit _ _ _› ?_ ?_ <;> (simp only [lnE, put_length] <;> omega)) | (refine Fit.draw1 ‹Fit _ _ _› ?_ ?_ ?_ <;> (simp only [lnE, put_length] <;> omega)) | (refine Fit.range0 ?_ ?_ <;> (simp only [lnE, put_length] <;> omega)) | (refine ArOk.mono ‹ArOk _ _ _ _ _› ?_ <;> (simp only [lnE, put_length] <;> omega)) | (refine ArOk.hid ‹ArOk _ _ _ _ _› ?_ ?_ <;> (simp only [lnE, put_length] <;> omega)) | (refine ArOk.hid0 ‹ArOk _ _ _ _ _› ?_ ?_ <;> (simp only [lnE, put_length] <;> omega)) | ((intro xr hxr; simp [AM.refs, refsF, refsC] at hxr) <;> (simp only [lnE, put_length] <;> omega)) | fail)) only [syA, syB, argFr, D, E, T, C, undefv, eqF, aeq, sheqs, sheq, rdCells, cellsOf, fill, putAt, if_true, if_false, reduceIte, ↓reduceIte, reduceCtorEq, eq_self, Nat.reduceEqDiff, Nat.reduceAdd, Nat.reduceSub, Nat.reduceMul, Nat.reduceLT, Nat.reduceLeDiff, Nat.reducePow, Nat.reduceDiv, Nat.reduceMod, Int.reduceLT, Int.reduceLE, Int.reduceGT, Int.reduceGE, Int.reduceToNat, Int.reducePow, Int.reduceNeg, Int.reduceBEq, Int.reduceBNe, Int.reduceEq, Int.reduceAdd, Int.reduceSub, Int.reduceMul, cellv, sc, flatv, refs, refsF, refsC, syR, Int.le_refl, hF.not0, hF.not1, hF.up0, hF.up1, ac8, hlen, g1', g2, g3, g4, c1, c2, ld, n1, n2, lw1, rv1, rvh1, sl_some, slB_some, wakes21_walk, gc_bool_new]
      exact ⟨_, rfl⟩
    · simp (disch := (first | omega | (simp only [lnE, put_length] <;> omega) | (refine Fit.mono ‹Fit _ _ _› ?_ <;> (simp only [lnE, put_length] <;> omega)) | (refine Fit.draw ‹Fit _ _ _› ?_ ?_ <;> (simp only [lnE, put_length] <;> omega)) | (refine Fit.hid1 ‹Fit _ _ _› ?_ ?_ <;> (simp only [lnE, put_length] <;> omega)) | (refine Fit.draw1 ‹Fit _ _ _› ?_ ?_ ?_ <;> (simp only [lnE, put_length] <;> omega)) | (refine Fit.range0 ?_ ?_ <;> (simp only [lnE, put_length] <;> omega)) | (refine ArOk.mono ‹ArOk _ _ _ _ _› ?_ <;> (simp only [lnE, put_length] <;> omega)) | (refine ArOk.hid ‹ArOk _ _ _ _ _› ?_ ?_ <;> (simp only [lnE, put_length] <;> omega)) | (refine ArOk.hid0 ‹ArOk _ _ _ _ _› ?_ ?_ <;> (simp only [lnE, put_length] <;> omega)) | ((intro xr hxr; simp [AM.refs, refsF, refsC] at hxr) <;> (simp only [lnE, put_length] <;> omega)) | fail)) only [syA, syB, argFr, D, E, T, C, undefv, eqF, aeq, sheqs, sheq, rdCells, cellsOf, fill, putAt, if_true, if_false, reduceIte, ↓reduceIte, reduceCtorEq, eq_self, Nat.reduceEqDiff, Nat.reduceAdd, Nat.reduceSub, Nat.reduceMul, Nat.reduceLT, Nat.reduceLeDiff, Nat.reducePow, Nat.reduceDiv, Nat.reduceMod, Int.reduceLT, Int.reduceLE, Int.reduceGT, Int.reduceGE, Int.reduceToNat, Int.reducePow, Int.reduceNeg, Int.reduceBEq, Int.reduceBNe, Int.reduceEq, Int.reduceAdd, Int.reduceSub, Int.reduceMul, cellv, sc, flatv, refs, refsF, refsC, syR, Int.le_refl, hF.not0, hF.not1, hF.up0, hF.up1, ac8, hlen, g1', g2, g3, g4, c1, ld, n1, n2, lw1, rv1, rvh1, sl_some, slB_some, wakes21_walk, gc_bool_new]
      exact ⟨_, rfl⟩
end ArA
end Go.Proofs.Ytlbdgbfblgjjgaa
