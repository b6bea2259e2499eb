/-
  RankWalkRight: Valid reports exactly whether the column and the index are right, and the walk over others returns at most m bytes and stops at the index: the run. Conditions: none.
-/
import Derived.Test.YtlbdgbfblgjjgaaRwG
import Derived.Test.YtlbdgbfblgjjgaaBk17b
set_option linter.all false
namespace Go.Proofs.Ytlbdgbfblgjjgaa
namespace ArA
open Go Go.RowKit AM ArEnv
section
variable {L : Nat} {H : List Nat} {r q w : Nat} {A : Arn} {s t z kk ix : Nat} {x : List Nat}
def wB (r s t z ix kk : Nat) (x : List Nat) (row told steps : Nat) : Blk := .cells 0 false (wkC r s x.length t z ix kk x 256 row told steps)
theorem wB_next {hq : List Blk} {d : List Nat} (hF : Fit hq.length L H) (k : WkOk hq.length r q w L H A s t z kk ix x) {row told steps : Nat} (ht : told < x.length) (hs : steps ≤ 1099511627776) (hp1 : row ≤ x.length) (hne : row ≠ ix) (hx : atR ix row < x.length) :
    Lrun env (.func 37) [wkP w] ⟨put (hq.set w (wB r s t z ix kk x row told steps)) r q A, L, H, d⟩ = some (.tuple #[.int .u8 (x[atR ix row] : Nat), .bool true], ⟨put (hq.set w (wB r s t z ix kk x (nxR x ix row) (told + 1) (steps + 1 + atR ix row % kk))) r q A, L, H, d⟩) := by
  have h := rnext_walk (d := d) (hp := hq.set w (wB r s t z ix kk x row told steps)) (L := L) (H := H) (r := r) (q := q) (w := w) (A := A) (s := s) (t := t) (z := z) (kk := kk) (ix := ix) (x := x) (row := row) (told := told) (steps := steps) (by rw [List.length_set]; exact hF) (by rw [List.length_set]; exact k) (List.getElem?_set_self k.wn) ht hs hp1 hne hx
  rw [List.set_set] at h
  exact h
theorem wB_done {hq : List Blk} {d : List Nat} (hF : Fit hq.length L H) (k : WkOk hq.length r q w L H A s t z kk ix x) {row told steps : Nat} (h : told = x.length ∨ row = ix) :
    Lrun env (.func 37) [wkP w] ⟨put (hq.set w (wB r s t z ix kk x row told steps)) r q A, L, H, d⟩ = some (.tuple #[.int .u8 0, .bool false], ⟨put (hq.set w (wB r s t z ix kk x row told steps)) r q A, L, H, d⟩) := by
  by_cases h1 : told = x.length
  · subst h1
    exact rnext_done (d := d) (hp := hq.set w (wB r s t z ix kk x row x.length steps)) (L := L) (H := H) (r := r) (q := q) (w := w) (A := A) (s := s) (t := t) (z := z) (kk := kk) (ix := ix) (x := x) (row := row) (steps := steps) (by rw [List.length_set]; exact hF) (by rw [List.length_set]; exact k) (List.getElem?_set_self k.wn)
  · obtain rfl : row = ix := by rcases h with h | h; exact absurd h h1; exact h
    exact rnext_end (d := d) (hp := hq.set w (wB r s t z row kk x row told steps)) (L := L) (H := H) (r := r) (q := q) (w := w) (A := A) (s := s) (t := t) (z := z) (kk := kk) (x := x) (told := told) (steps := steps) (by rw [List.length_set]; exact hF) (by rw [List.length_set]; exact k) (List.getElem?_set_self k.wn) h1
theorem wB_told {hq : List Blk} {d : List Nat} (hF : Fit hq.length L H) (k : WkOk hq.length r q w L H A s t z kk ix x) {row told steps : Nat} :
    Lrun env (.func 38) [wkP w] ⟨put (hq.set w (wB r s t z ix kk x row told steps)) r q A, L, H, d⟩ = some (.int .i64 told, ⟨put (hq.set w (wB r s t z ix kk x row told steps)) r q A, L, H, d⟩) :=
  rtold_walk (d := d) (hp := hq.set w (wB r s t z ix kk x row told steps)) (by rw [List.length_set]; exact hF) (by rw [List.length_set]; exact k) (List.getElem?_set_self k.wn)
theorem wB_steps {hq : List Blk} {d : List Nat} (hF : Fit hq.length L H) (k : WkOk hq.length r q w L H A s t z kk ix x) {row told steps : Nat} :
    Lrun env (.func 36) [wkP w] ⟨put (hq.set w (wB r s t z ix kk x row told steps)) r q A, L, H, d⟩ = some (.int .i64 steps, ⟨put (hq.set w (wB r s t z ix kk x row told steps)) r q A, L, H, d⟩) :=
  rsteps_walk (d := d) (hp := hq.set w (wB r s t z ix kk x row told steps)) (by rw [List.length_set]; exact hF) (by rw [List.length_set]; exact k) (List.getElem?_set_self k.wn)
theorem wB_valid {hq : List Blk} {d : List Nat} (hF : Fit hq.length L H) (k : WkOk hq.length r q w L H A s t z kk ix x) (hk : kk ≤ 65536) {row told steps : Nat} (hs : steps + x.length * 65536 ≤ 1099511627776) :
    Lrun env (.func 35) [wkP w] ⟨put (hq.set w (wB r s t z ix kk x row told steps)) r q A, L, H, d⟩ = some (.bool (decide ((vw (fun _ => 0) x ix x.length 0 0).1 = some ix)), ⟨put (hq.set w (wB r s t z ix kk x row told (vw (fun a => a % kk) x ix x.length 0 steps).2)) r q A, L, H, d⟩) := by
  have h := rwvalid_walk (d := d) (hp := hq.set w (wB r s t z ix kk x row told steps)) (L := L) (H := H) (r := r) (q := q) (w := w) (A := A) (s := s) (t := t) (z := z) (kk := kk) (ix := ix) (x := x) (r0 := row) (told := told) (steps := steps) (by rw [List.length_set]; exact hF) (by rw [List.length_set]; exact k) (List.getElem?_set_self k.wn) hk hs
  rw [List.set_set, vw_fst (g := fun _ => 0) (st' := 0)] at h
  exact h
theorem wB_reset {hq : List Blk} {d : List Nat} (hF : Fit hq.length L H) (k : WkOk hq.length r q w L H A s t z kk ix x) {row told steps : Nat} :
    Lrun env (.func 41) [wkP w] ⟨put (hq.set w (wB r s t z ix kk x row told steps)) r q A, L, H, d⟩ = some (.tuple #[], ⟨put (hq.set w (wB r s t z ix kk x 0 0 steps)) r q A, L, H, d⟩) := by
  have h := rreset_walk (d := d) (hp := hq.set w (wB r s t z ix kk x row told steps)) (L := L) (H := H) (r := r) (q := q) (w := w) (A := A) (s := s) (t := t) (z := z) (kk := kk) (ix := ix) (x := x) (row := row) (told := told) (steps := steps) (by rw [List.length_set]; exact hF) (by rw [List.length_set]; exact k) (List.getElem?_set_self k.wn)
  rw [List.set_set] at h
  exact h
theorem right_loop {hq : List Blk} (hF : Fit hq.length L H) (k : WkOk hq.length r q w L H A s t z kk ix x) {v : Value} (hr : ∀ B, Rd ⟨put (hq.set w B) r q A, L, H, []⟩ v x) (hm : x.length ≤ 60) (hkk : kk ≤ 100) :
    ∀ n i row st : Nat, i + n = x.length → row ≤ x.length → st + n * 100 ≤ 100000 → ∃ fr i' row' st', i' ≤ x.length ∧ (i' = x.length ∨ row' = ix) ∧
    Liter env lb7_0 [13, 10, 1, 0, 12] hq.length [(13, .int .i64 row), (10, wkP w), (1, .int .i64 ix), (0, v), (12, .int .i64 i)] ⟨put (hq.set w (wB r s t z ix kk x row i st)) r q A, L, H, []⟩ =
      some (.exit 0, fr, ⟨put (hq.set w (wB r s t z ix kk x row' i' st')) r q A, L, H, []⟩) ∧ fr.get 10 = some (wkP w) ∧ fr.get 12 = some (.int .i64 i')
  | 0, i, row, st, hi, hrow, hst => by
    obtain rfl : i = x.length := by omega
    have hlen := (hr default).lenF
    rw [iter_by lb7_0.eq_1]
    simp (disch := (first | omega | (simp only [lnE, put_length] <;> omega) | (refine Fit.mono ‹Fit _ _ _› ?_ <;> (simp only [lnE, put_length] <;> omega)) | (refine Fit.draw ‹Fit _ _ _› ?_ ?_ <;> (simp only [lnE, put_length] <;> omega)) | (refine Fit.hid1 ‹Fit _ _ _› ?_ ?_ <;> (simp only [lnE, put_length] <;> omega)) | (refine Fit.draw1 ‹Fit _ _ _› ?_ ?_ ?_ <;> (simp only [lnE, put_length] <;> omega)) | (refine Fit.range0 ?_ ?_ <;> (simp only [lnE, put_length] <;> omega)) | (refine ArOk.mono ‹ArOk _ _ _ _ _› ?_ <;> (simp only [lnE, put_length] <;> omega)) | (refine ArOk.hid ‹ArOk _ _ _ _ _› ?_ ?_ <;> (simp only [lnE, put_length] <;> omega)) | (refine ArOk.hid0 ‹ArOk _ _ _ _ _› ?_ ?_ <;> (simp only [lnE, put_length] <;> omega)) | ((intro xr hxr; simp [AM.refs, refsF, refsC] at hxr) <;> (simp only [lnE, put_length] <;> omega)) | fail)) only [syA, syB, argFr, D, E, T, C, undefv, eqF, aeq, sheqs, sheq, rdCells, cellsOf, fill, putAt, if_true, if_false, reduceIte, ↓reduceIte, reduceCtorEq, eq_self, Nat.reduceEqDiff, Nat.reduceAdd, Nat.reduceSub, Nat.reduceMul, Nat.reduceLT, Nat.reduceLeDiff, Nat.reducePow, Nat.reduceDiv, Nat.reduceMod, Int.reduceLT, Int.reduceLE, Int.reduceGT, Int.reduceGE, Int.reduceToNat, Int.reducePow, Int.reduceNeg, Int.reduceBEq, Int.reduceBNe, Int.reduceEq, Int.reduceAdd, Int.reduceSub, Int.reduceMul, cellv, sc, flatv, refs, refsF, refsC, syR, Int.le_refl, hlen]
    exact ⟨_, x.length, row, st, Nat.le_refl _, .inl rfl, rfl, rfl, rfl⟩
  | n + 1, i, row, st, hi, hrow, hst => by
    have hlen := (hr default).lenF
    have c1 : (i : Int) < x.length := by omega
    by_cases hri : row = ix
    · subst hri
      rw [iter_by lb7_0.eq_1]
      simp (disch := (first | omega | (simp only [lnE, put_length] <;> omega) | (refine Fit.mono ‹Fit _ _ _› ?_ <;> (simp only [lnE, put_length] <;> omega)) | (refine Fit.draw ‹Fit _ _ _› ?_ ?_ <;> (simp only [lnE, put_length] <;> omega)) | (refine Fit.hid1 ‹Fit _ _ _› ?_ ?_ <;> (simp only [lnE, put_length] <;> omega)) | (refine Fit.draw1 ‹Fit _ _ _› ?_ ?_ ?_ <;> (simp only [lnE, put_length] <;> omega)) | (refine Fit.range0 ?_ ?_ <;> (simp only [lnE, put_length] <;> omega)) | (refine ArOk.mono ‹ArOk _ _ _ _ _› ?_ <;> (simp only [lnE, put_length] <;> omega)) | (refine ArOk.hid ‹ArOk _ _ _ _ _› ?_ ?_ <;> (simp only [lnE, put_length] <;> omega)) | (refine ArOk.hid0 ‹ArOk _ _ _ _ _› ?_ ?_ <;> (simp only [lnE, put_length] <;> omega)) | ((intro xr hxr; simp [AM.refs, refsF, refsC] at hxr) <;> (simp only [lnE, put_length] <;> omega)) | fail)) only [syA, syB, argFr, D, E, T, C, undefv, eqF, aeq, sheqs, sheq, rdCells, cellsOf, fill, putAt, if_true, if_false, reduceIte, ↓reduceIte, reduceCtorEq, eq_self, Nat.reduceEqDiff, Nat.reduceAdd, Nat.reduceSub, Nat.reduceMul, Nat.reduceLT, Nat.reduceLeDiff, Nat.reducePow, Nat.reduceDiv, Nat.reduceMod, Int.reduceLT, Int.reduceLE, Int.reduceGT, Int.reduceGE, Int.reduceToNat, Int.reducePow, Int.reduceNeg, Int.reduceBEq, Int.reduceBNe, Int.reduceEq, Int.reduceAdd, Int.reduceSub, Int.reduceMul, cellv, sc, flatv, refs, refsF, refsC, syR, Int.le_refl, hlen, c1]
      exact ⟨_, i, row, st, by omega, .inr rfl, rfl, rfl, rfl⟩
    · have hx := atR_lt' hrow k.ixm hri
      have hnx := nxR_le hrow k.ixm hri
      have hmod : atR ix row % kk < kk := Nat.mod_lt _ (by have := k.kk1; omega)
      obtain ⟨fr, i', row', st', g1, g2, g3, g4⟩ := right_loop hF k hr hm hkk n (i + 1) (nxR x ix row) (st + 1 + atR ix row % kk) (by omega) hnx (by omega)
      have c2 : ((row : Int) == ix) = false := by rw [beq_eq_false_iff_ne]; omega
      have c3 : ¬ ((row : Int) = ix) := by omega
      have nx := fun d => wB_next (d := d) hF k (told := i) (steps := st) (by omega) (by omega) hrow hri hx
      have n7 := fun d => nx17_walk (d := d) (L := L) (H := H) (hq := put (hq.set w (wB r s t z ix kk x row i st)) r q A) (by rw [put_length, List.length_set]; exact hF) (hr _) (by omega) k.ixm hrow hri hx
      have ir1 : ((i : Nat) : Int) + 1 = ((i + 1 : Nat) : Int) := by omega
      have hl1 : ∀ B, (put (hq.set w B) r q A).length = hq.length := fun B => by rw [put_length, List.length_set]
      rw [iter_by lb7_0.eq_1]
      simp (disch := (first | omega | (simp only [lnE, put_length] <;> omega) | (refine Fit.mono ‹Fit _ _ _› ?_ <;> (simp only [lnE, put_length] <;> omega)) | (refine Fit.draw ‹Fit _ _ _› ?_ ?_ <;> (simp only [lnE, put_length] <;> omega)) | (refine Fit.hid1 ‹Fit _ _ _› ?_ ?_ <;> (simp only [lnE, put_length] <;> omega)) | (refine Fit.draw1 ‹Fit _ _ _› ?_ ?_ ?_ <;> (simp only [lnE, put_length] <;> omega)) | (refine Fit.range0 ?_ ?_ <;> (simp only [lnE, put_length] <;> omega)) | (refine ArOk.mono ‹ArOk _ _ _ _ _› ?_ <;> (simp only [lnE, put_length] <;> omega)) | (refine ArOk.hid ‹ArOk _ _ _ _ _› ?_ ?_ <;> (simp only [lnE, put_length] <;> omega)) | (refine ArOk.hid0 ‹ArOk _ _ _ _ _› ?_ ?_ <;> (simp only [lnE, put_length] <;> omega)) | ((intro xr hxr; simp [AM.refs, refsF, refsC] at hxr) <;> (simp only [lnE, put_length] <;> omega)) | fail)) only [syA, syB, argFr, D, E, T, C, undefv, eqF, aeq, sheqs, sheq, rdCells, cellsOf, fill, putAt, if_true, if_false, reduceIte, ↓reduceIte, reduceCtorEq, eq_self, Nat.reduceEqDiff, Nat.reduceAdd, Nat.reduceSub, Nat.reduceMul, Nat.reduceLT, Nat.reduceLeDiff, Nat.reducePow, Nat.reduceDiv, Nat.reduceMod, Int.reduceLT, Int.reduceLE, Int.reduceGT, Int.reduceGE, Int.reduceToNat, Int.reducePow, Int.reduceNeg, Int.reduceBEq, Int.reduceBNe, Int.reduceEq, Int.reduceAdd, Int.reduceSub, Int.reduceMul, cellv, sc, flatv, refs, refsF, refsC, syR, Int.le_refl, hlen, c1, c2, c3, nx, n7, ir1, hl1, g3]
      exact ⟨fr, i', row', st', g1, g2, rfl, g4⟩
end
/-- A walk is made in the law's arena. -/
theorem made21 {hp : List Blk} {x : List Nat} (hb : By x) (hx1 : 1 ≤ x.length) (hx : x.length ≤ 100) {kk sz ix : Nat} (hk : 1 ≤ kk ∧ kk ≤ 100) (hsz : 4 * (256 * (x.length / kk)) = sz) (hix : 1 ≤ ix ∧ ix ≤ x.length) (L : Nat) (hL : L ≤ hp.length) (d0 : List Blk) (hd0 : d0.length = 2) : ∃ B,
    (∀ d, Lrun env (.func 34) [arP hp.length, .agg #[.int .i64 0, .int .i64 x.length], .int .i64 ix, .agg #[.int .i64 x.length, .int .i64 sz], .int .i64 kk] ⟨put (hp ++ [default, default] ++ d0) hp.length (hp.length + 1) (rl x sz), L, [], d⟩ =
      some (.tuple #[.pointer (some ⟨hp.length + 4, 0, some 0⟩), .int .i64 0], ⟨put (hp ++ [default, default] ++ d0 ++ [wB hp.length 0 x.length sz ix kk x 0 0 0]) hp.length (hp.length + 1) B, L, [], d⟩)) ∧
    WkOk (hp.length + 5) hp.length (hp.length + 1) (hp.length + 4) L [] B 0 x.length sz kk ix x := by
  have hdv : x.length / kk ≤ x.length := Nat.div_le_self _ _
  have hsz2 := rSize_nat (m := x.length) (k := kk) (by omega) (by omega)
  rw [hsz] at hsz2
  have k0 : ArOk (hp.length + 2) hp.length (hp.length + 1) [] (rl x sz) := rl_ok (by omega) (by omega) (by omega) rfl rfl hb (by omega)
  have hv0 : rValid (rl x sz) (0 : Nat) x.length x.length sz kk = true := rl_valid (by omega) (by omega) (by omega) hsz2
  have hlen : (hp ++ [default, default] ++ d0).length = hp.length + 4 := by simp [hd0]
  obtain ⟨B, n1, m1, rk1, h1, k1⟩ := rnew_walk (ix := ix) (hp := hp ++ [default, default] ++ d0) (L := L) (H := []) (r := hp.length) (q := hp.length + 1) ⟨by omega, Low.nil _⟩ (k0.mono (by omega)) (by omega) (rl_holds x sz) hv0 hix
  have v1 : rValid B (0 : Nat) x.length x.length sz kk = true := by rw [rValid_live m1.live]; exact hv0
  simp only [hlen, Int.natCast_zero] at n1
  refine ⟨B, fun d => n1 d, ?_⟩
  exact ⟨(m1.ok k0).mono (by omega), h1, v1, by omega, by omega, rk1, by omega, by omega, by omega, by omega, rfl, by omega, hb⟩
theorem rwright_run {hp : List Blk} {v : Value} {x : List Nat} (hr : Rd ⟨hp, hp.length, [], []⟩ v x) (ix : Int) (hi0 : -9223372036854775808 ≤ ix) (hi1 : ix ≤ 9223372036854775807) (kk : Int) (hk0 : -9223372036854775808 ≤ kk) (hk1 : kk ≤ 9223372036854775807) :
    ∃ σ', Lrun env (.func 7) [v, .int .i64 ix, .int .i64 kk] ⟨hp, hp.length, [], []⟩ = some (.bool true, σ') := by
  have hF : Fit hp.length hp.length [] := ⟨Nat.le_refl _, Low.nil _⟩
  have hlen := hr.lenF
  rw [Lrun_sym 7 _ _ fn7]
  by_cases g1 : (x.length : Int) = 0
  · simp (disch := (first | omega | (simp only [lnE] <;> omega) | (refine Fit.mono ‹Fit _ _ _› ?_ <;> (simp only [lnE] <;> omega)) | (refine Fit.draw ‹Fit _ _ _› ?_ ?_ <;> (simp only [lnE] <;> omega)) | (refine Fit.hid1 ‹Fit _ _ _› ?_ ?_ <;> (simp only [lnE] <;> omega)) | (refine Fit.draw1 ‹Fit _ _ _› ?_ ?_ ?_ <;> (simp only [lnE] <;> omega)) | (refine Fit.range0 ?_ ?_ <;> (simp only [lnE] <;> omega)) | fail)) only [syA, syB, argFr, D, E, T, C, undefv, eqF, aeq, sheqs, sheq, rdCells, cellsOf, fill, putAt, if_true, if_false, reduceIte, ↓reduceIte, reduceCtorEq, eq_self, Nat.reduceEqDiff, Nat.reduceAdd, Nat.reduceSub, Nat.reduceMul, Nat.reduceLT, Nat.reduceLeDiff, Nat.reducePow, Nat.reduceDiv, Nat.reduceMod, Int.reduceLT, Int.reduceLE, Int.reduceGT, Int.reduceGE, Int.reduceToNat, Int.reducePow, Int.reduceNeg, Int.reduceBEq, Int.reduceBNe, Int.reduceEq, Int.reduceAdd, Int.reduceSub, Int.reduceMul, cellv, sc, flatv, refs, refsF, refsC, hF.not0, hF.not1, hF.up0, hF.up1, ac7, hlen, g1, wakes21_walk]
    exact ⟨_, rfl⟩
  have g1' : ((x.length : Int) == 0) = false := by rw [beq_eq_false_iff_ne]; exact g1
  by_cases g2 : (x.length : Int) > 60
  · simp (disch := (first | omega | (simp only [lnE] <;> omega) | (refine Fit.mono ‹Fit _ _ _› ?_ <;> (simp only [lnE] <;> omega)) | (refine Fit.draw ‹Fit _ _ _› ?_ ?_ <;> (simp only [lnE] <;> omega)) | (refine Fit.hid1 ‹Fit _ _ _› ?_ ?_ <;> (simp only [lnE] <;> omega)) | (refine Fit.draw1 ‹Fit _ _ _› ?_ ?_ ?_ <;> (simp only [lnE] <;> omega)) | (refine Fit.range0 ?_ ?_ <;> (simp only [lnE] <;> omega)) | fail)) only [syA, syB, argFr, D, E, T, C, undefv, eqF, aeq, sheqs, sheq, rdCells, cellsOf, fill, putAt, if_true, if_false, reduceIte, ↓reduceIte, reduceCtorEq, eq_self, Nat.reduceEqDiff, Nat.reduceAdd, Nat.reduceSub, Nat.reduceMul, Nat.reduceLT, Nat.reduceLeDiff, Nat.reducePow, Nat.reduceDiv, Nat.reduceMod, Int.reduceLT, Int.reduceLE, Int.reduceGT, Int.reduceGE, Int.reduceToNat, Int.reducePow, Int.reduceNeg, Int.reduceBEq, Int.reduceBNe, Int.reduceEq, Int.reduceAdd, Int.reduceSub, Int.reduceMul, cellv, sc, flatv, refs, refsF, refsC, hF.not0, hF.not1, hF.up0, hF.up1, ac7, hlen, g1', g2, wakes21_walk]
    exact ⟨_, rfl⟩
  by_cases g3 : ix < 1
  · simp (disch := (first | omega | (simp only [lnE] <;> omega) | (refine Fit.mono ‹Fit _ _ _› ?_ <;> (simp only [lnE] <;> omega)) | (refine Fit.draw ‹Fit _ _ _› ?_ ?_ <;> (simp only [lnE] <;> omega)) | (refine Fit.hid1 ‹Fit _ _ _› ?_ ?_ <;> (simp only [lnE] <;> omega)) | (refine Fit.draw1 ‹Fit _ _ _› ?_ ?_ ?_ <;> (simp only [lnE] <;> omega)) | (refine Fit.range0 ?_ ?_ <;> (simp only [lnE] <;> omega)) | fail)) only [syA, syB, argFr, D, E, T, C, undefv, eqF, aeq, sheqs, sheq, rdCells, cellsOf, fill, putAt, if_true, if_false, reduceIte, ↓reduceIte, reduceCtorEq, eq_self, Nat.reduceEqDiff, Nat.reduceAdd, Nat.reduceSub, Nat.reduceMul, Nat.reduceLT, Nat.reduceLeDiff, Nat.reducePow, Nat.reduceDiv, Nat.reduceMod, Int.reduceLT, Int.reduceLE, Int.reduceGT, Int.reduceGE, Int.reduceToNat, Int.reducePow, Int.reduceNeg, Int.reduceBEq, Int.reduceBNe, Int.reduceEq, Int.reduceAdd, Int.reduceSub, Int.reduceMul, cellv, sc, flatv, refs, refsF, refsC, hF.not0, hF.not1, hF.up0, hF.up1, ac7, hlen, g1', g2, g3, wakes21_walk]
    exact ⟨_, rfl⟩
  by_cases g4 : ix > x.length
  · simp (disch := (first | omega | (simp only [lnE] <;> omega) | (refine Fit.mono ‹Fit _ _ _› ?_ <;> (simp only [lnE] <;> omega)) | (refine Fit.draw ‹Fit _ _ _› ?_ ?_ <;> (simp only [lnE] <;> omega)) | (refine Fit.hid1 ‹Fit _ _ _› ?_ ?_ <;> (simp only [lnE] <;> omega)) | (refine Fit.draw1 ‹Fit _ _ _› ?_ ?_ ?_ <;> (simp only [lnE] <;> omega)) | (refine Fit.range0 ?_ ?_ <;> (simp only [lnE] <;> omega)) | fail)) only [syA, syB, argFr, D, E, T, C, undefv, eqF, aeq, sheqs, sheq, rdCells, cellsOf, fill, putAt, if_true, if_false, reduceIte, ↓reduceIte, reduceCtorEq, eq_self, Nat.reduceEqDiff, Nat.reduceAdd, Nat.reduceSub, Nat.reduceMul, Nat.reduceLT, Nat.reduceLeDiff, Nat.reducePow, Nat.reduceDiv, Nat.reduceMod, Int.reduceLT, Int.reduceLE, Int.reduceGT, Int.reduceGE, Int.reduceToNat, Int.reducePow, Int.reduceNeg, Int.reduceBEq, Int.reduceBNe, Int.reduceEq, Int.reduceAdd, Int.reduceSub, Int.reduceMul, cellv, sc, flatv, refs, refsF, refsC, hF.not0, hF.not1, hF.up0, hF.up1, ac7, hlen, g1', g2, g3, g4, wakes21_walk]
    exact ⟨_, rfl⟩
  by_cases g5 : kk < 1
  · simp (disch := (first | omega | (simp only [lnE] <;> omega) | (refine Fit.mono ‹Fit _ _ _› ?_ <;> (simp only [lnE] <;> omega)) | (refine Fit.draw ‹Fit _ _ _› ?_ ?_ <;> (simp only [lnE] <;> omega)) | (refine Fit.hid1 ‹Fit _ _ _› ?_ ?_ <;> (simp only [lnE] <;> omega)) | (refine Fit.draw1 ‹Fit _ _ _› ?_ ?_ ?_ <;> (simp only [lnE] <;> omega)) | (refine Fit.range0 ?_ ?_ <;> (simp only [lnE] <;> omega)) | fail)) only [syA, syB, argFr, D, E, T, C, undefv, eqF, aeq, sheqs, sheq, rdCells, cellsOf, fill, putAt, if_true, if_false, reduceIte, ↓reduceIte, reduceCtorEq, eq_self, Nat.reduceEqDiff, Nat.reduceAdd, Nat.reduceSub, Nat.reduceMul, Nat.reduceLT, Nat.reduceLeDiff, Nat.reducePow, Nat.reduceDiv, Nat.reduceMod, Int.reduceLT, Int.reduceLE, Int.reduceGT, Int.reduceGE, Int.reduceToNat, Int.reducePow, Int.reduceNeg, Int.reduceBEq, Int.reduceBNe, Int.reduceEq, Int.reduceAdd, Int.reduceSub, Int.reduceMul, cellv, sc, flatv, refs, refsF, refsC, hF.not0, hF.not1, hF.up0, hF.up1, ac7, hlen, g1', g2, g3, g4, g5, wakes21_walk]
    exact ⟨_, rfl⟩
  by_cases g6 : kk > 100
  · simp (disch := (first | omega | (simp only [lnE] <;> omega) | (refine Fit.mono ‹Fit _ _ _› ?_ <;> (simp only [lnE] <;> omega)) | (refine Fit.draw ‹Fit _ _ _› ?_ ?_ <;> (simp only [lnE] <;> omega)) | (refine Fit.hid1 ‹Fit _ _ _› ?_ ?_ <;> (simp only [lnE] <;> omega)) | (refine Fit.draw1 ‹Fit _ _ _› ?_ ?_ ?_ <;> (simp only [lnE] <;> omega)) | (refine Fit.range0 ?_ ?_ <;> (simp only [lnE] <;> omega)) | fail)) only [syA, syB, argFr, D, E, T, C, undefv, eqF, aeq, sheqs, sheq, rdCells, cellsOf, fill, putAt, if_true, if_false, reduceIte, ↓reduceIte, reduceCtorEq, eq_self, Nat.reduceEqDiff, Nat.reduceAdd, Nat.reduceSub, Nat.reduceMul, Nat.reduceLT, Nat.reduceLeDiff, Nat.reducePow, Nat.reduceDiv, Nat.reduceMod, Int.reduceLT, Int.reduceLE, Int.reduceGT, Int.reduceGE, Int.reduceToNat, Int.reducePow, Int.reduceNeg, Int.reduceBEq, Int.reduceBNe, Int.reduceEq, Int.reduceAdd, Int.reduceSub, Int.reduceMul, cellv, sc, flatv, refs, refsF, refsC, hF.not0, hF.not1, hF.up0, hF.up1, ac7, hlen, g1', g2, g3, g4, g5, g6, wakes21_walk]
    exact ⟨_, rfl⟩
  obtain ⟨kk, rfl⟩ := Int.eq_ofNat_of_zero_le (by omega : 0 ≤ kk)
  obtain ⟨ix, rfl⟩ := Int.eq_ofNat_of_zero_le (by omega : 0 ≤ ix)
  have hdv : x.length / kk ≤ x.length := Nat.div_le_self _ _
  obtain ⟨sz, hszn⟩ : ∃ sz, 4 * (256 * (x.length / kk)) = sz := ⟨_, rfl⟩
  have hs : (if (kk : Int) > 0 then 1024 * (x.length : Int).tdiv kk else 0) = (sz : Int) := by
    rw [if_pos (by omega), show (x.length : Int).tdiv (kk : Int) = ((x.length / kk : Nat) : Int) from rfl]; omega
  have ld := laid21_walk (d := []) (kk := kk) (sz := sz) (e := 0) hF hr (by omega) hs (by omega) (by omega)
  obtain ⟨B, n1, k1⟩ := made21 (hp := hp) hr.by_ (by omega) (by omega) (kk := kk) (ix := ix) (by omega) hszn (by omega) hp.length (by omega) [.cells 0 true [.int .i64 0, .int .i64 x.length], .cells 0 true [.int .i64 x.length, .int .i64 sz]] rfl
  have hset : ∀ W W', (hp ++ [default, default, Blk.cells 0 true [.int .i64 0, .int .i64 x.length], .cells 0 true [.int .i64 x.length, .int .i64 sz], W]).set (hp.length + 4) W' = hp ++ [default, default, Blk.cells 0 true [.int .i64 0, .int .i64 x.length], .cells 0 true [.int .i64 x.length, .int .i64 sz], W'] := fun W W' => by simp only [set_new, List.set_cons_succ, List.set_cons_zero]
  obtain ⟨hq, hqe⟩ : ∃ hq, hq = hp ++ [default, default, Blk.cells 0 true [.int .i64 0, .int .i64 x.length], .cells 0 true [.int .i64 x.length, .int .i64 sz], default] := ⟨_, rfl⟩
  have hql : hq.length = hp.length + 5 := by rw [hqe]; simp
  have kq : WkOk hq.length hp.length (hp.length + 1) (hp.length + 4) hp.length [] B 0 x.length sz kk ix x := by rw [hql]; exact k1
  have hFq : Fit hq.length hp.length [] := ⟨by omega, Low.nil _⟩
  have hrq : ∀ B', Rd ⟨put (hq.set (hp.length + 4) B') hp.length (hp.length + 1) B, hp.length, [], []⟩ v x := fun B' => by rw [hqe, hset]; exact hr.put (by omega) (by omega)
  have va := fun d => wB_valid (d := d) hFq kq (by omega) (row := 0) (told := 0) (steps := 0) (by omega)
  have hvc := (vw_cost (f := fun a => a % kk) (k := 100) (fun a => by have := Nat.mod_lt a (show 0 < kk by omega); omega) (x := x) (ix := ix) x.length 0 0).2
  have v17 := fun d => valid17_walk (d := d) (L := hp.length) (H := []) (hq := put (hq.set (hp.length + 4) (wB hp.length 0 x.length sz ix kk x 0 0 (vw (fun a => a % kk) x ix x.length 0 0).2)) hp.length (hp.length + 1) B) (by rw [put_length, List.length_set]; exact hFq) (hrq _) (by omega) (ix := ix) (by omega) (by omega)
  generalize hS : (vw (fun a => a % kk) x ix x.length 0 0).2 = S at *
  obtain ⟨fr, i', row', st', j1, j2, e1, e2, e3⟩ := right_loop hFq kq hrq (by omega) (by omega) x.length 0 0 S (by omega) (by omega) (by omega)
  have dn := fun d => wB_done (d := d) hFq kq (told := i') (row := row') (steps := st') j2
  have td := fun d => wB_told (d := d) hFq kq (told := i') (row := row') (steps := st')
  have hwn : hp.length + 4 < hq.length := by omega
  simp only [hqe, hset] at va v17 e1 dn td
  simp only [List.length_append, List.length_cons, List.length_nil, Nat.zero_add, Nat.reduceAdd, List.append_assoc, List.cons_append, List.nil_append, Int.natCast_zero, Nat.add_zero, Int.natCast_one] at n1 va v17 e1 dn td ld
  simp (disch := (first | omega | (simp only [lnE, put_length] <;> omega) | (refine Fit.mono ‹Fit _ _ _› ?_ <;> (simp only [lnE, put_length] <;> omega)) | (refine Fit.draw ‹Fit _ _ _› ?_ ?_ <;> (simp only [lnE, put_length] <;> omega)) | (refine Fit.hid1 ‹Fit _ _ _› ?_ ?_ <;> (simp only [lnE, put_length] <;> omega)) | (refine Fit.draw1 ‹Fit _ _ _› ?_ ?_ ?_ <;> (simp only [lnE, put_length] <;> omega)) | (refine Fit.range0 ?_ ?_ <;> (simp only [lnE, put_length] <;> omega)) | (refine ArOk.mono ‹ArOk _ _ _ _ _› ?_ <;> (simp only [lnE, put_length] <;> omega)) | (refine ArOk.hid ‹ArOk _ _ _ _ _› ?_ ?_ <;> (simp only [lnE, put_length] <;> omega)) | (refine ArOk.hid0 ‹ArOk _ _ _ _ _› ?_ ?_ <;> (simp only [lnE, put_length] <;> omega)) | ((intro xr hxr; simp [AM.refs, refsF, refsC] at hxr) <;> (simp only [lnE, put_length] <;> omega)) | fail)) only [syA, syB, argFr, D, E, T, C, undefv, eqF, aeq, sheqs, sheq, rdCells, cellsOf, fill, putAt, if_true, if_false, reduceIte, ↓reduceIte, reduceCtorEq, eq_self, Nat.reduceEqDiff, Nat.reduceAdd, Nat.reduceSub, Nat.reduceMul, Nat.reduceLT, Nat.reduceLeDiff, Nat.reducePow, Nat.reduceDiv, Nat.reduceMod, Int.reduceLT, Int.reduceLE, Int.reduceGT, Int.reduceGE, Int.reduceToNat, Int.reducePow, Int.reduceNeg, Int.reduceBEq, Int.reduceBNe, Int.reduceEq, Int.reduceAdd, Int.reduceSub, Int.reduceMul, cellv, sc, flatv, refs, refsF, refsC, syR, Int.le_refl, hF.not0, hF.not1, hF.up0, hF.up1, ac7, hlen, g1', g2, g3, g4, g5, g6, ld, n1, va, v17, e1, e2, e3, dn, td, wakes21_walk, gc_bool_new]
  exact ⟨_, rfl⟩
end ArA
end Go.Proofs.Ytlbdgbfblgjjgaa
