/-
  TableWalkRight, TableWalkBack: the runs. Conditions: none.
-/
import Derived.Test.YtlbdgbfblgjjgaaTwD
import Derived.Test.YtlbdgbfblgjjgaaRkM
set_option linter.all false
namespace Go.Proofs.Ytlbdgbfblgjjgaa
namespace ArA
open Go Go.RowKit AM ArEnv
theorem wakes22_walk (σ : St) : Lrun env (.func 11) [] σ = some (.bool true, σ) := by
  obtain ⟨hp, L, H, d⟩ := σ
  rw [Lrun_sym 11 _ _ fn11]
  simp (disch := (first | omega | (simp only [lnE] <;> omega) | (refine Fit.mono ‹Fit _ _ _› ?_ <;> (simp only [lnE] <;> omega)) | (refine Fit.draw ‹Fit _ _ _› ?_ ?_ <;> (simp only [lnE] <;> omega)) | (refine Fit.hid1 ‹Fit _ _ _› ?_ ?_ <;> (simp only [lnE] <;> omega)) | (refine Fit.draw1 ‹Fit _ _ _› ?_ ?_ ?_ <;> (simp only [lnE] <;> omega)) | (refine Fit.range0 ?_ ?_ <;> (simp only [lnE] <;> omega)) | fail)) only [syA, syB, argFr, D, E, T, C, undefv, eqF, aeq, sheqs, sheq, rdCells, cellsOf, fill, putAt, if_true, if_false, reduceIte, ↓reduceIte, reduceCtorEq, eq_self, Nat.reduceEqDiff, Nat.reduceAdd, Nat.reduceSub, Nat.reduceMul, Nat.reduceLT, Nat.reduceLeDiff, Nat.reducePow, Nat.reduceDiv, Nat.reduceMod, Int.reduceLT, Int.reduceLE, Int.reduceGT, Int.reduceGE, Int.reduceToNat, Int.reducePow, Int.reduceNeg, Int.reduceBEq, Int.reduceBNe, Int.reduceEq, Int.reduceAdd, Int.reduceSub, Int.reduceMul, cellv, sc, flatv, refs, refsF, refsC, constFn]
section
variable {L : Nat} {H : List Nat} {r q f : Nat} {A : Arn} {s t z ix : Nat} {x : List Nat}
theorem tright_loop {hq : List Blk} (hF : Fit hq.length L H) (k : TbOk hq.length r q f L H A s t z ix x) {v : Value} (hr : ∀ B, Rd ⟨put (hq.set f B) r q A, L, H, []⟩ v x) (hm : x.length ≤ 60) {b7 : Nat} (h7 : ∀ B, (put (hq.set f B) r q A)[b7]? = some (.cells 0 true [.int .i64 t, .int .i64 z])) (h7H : H.contains b7 = false) :
    ∀ n i row st : Nat, i + n = x.length → row ≤ x.length → st + n ≤ 100000 → ∃ fr i' row' st', i' ≤ x.length ∧ (i' = x.length ∨ row' = ix) ∧
    Liter env lb5_0 [11, 7, 5, 8, 1, 0, 10] hq.length [(11, .int .i64 row), (7, .pointer (some ⟨b7, 0, some 0⟩)), (5, arP r), (8, fP f), (1, .int .i64 ix), (0, v), (10, .int .i64 i)] ⟨put (hq.set f (fB r s t z ix x.length row i st)) r q A, L, H, []⟩ =
      some (.exit 0, fr, ⟨put (hq.set f (fB r s t z ix x.length row' i' st')) r q A, L, H, []⟩) ∧ fr.get 8 = some (fP f) ∧ fr.get 10 = some (.int .i64 i')
  | 0, i, row, st, hi, hrow, hst => by
    obtain rfl : i = x.length := by omega
    have hlen := (hr default).lenF
    rw [iter_by lb5_0.eq_1]
    simp (disch := (first | omega | (simp only [lnE, put_length] <;> omega) | (refine Fit.mono ‹Fit _ _ _› ?_ <;> (simp only [lnE, put_length] <;> omega)) | (refine Fit.draw ‹Fit _ _ _› ?_ ?_ <;> (simp only [lnE, put_length] <;> omega)) | (refine Fit.hid1 ‹Fit _ _ _› ?_ ?_ <;> (simp only [lnE, put_length] <;> omega)) | (refine Fit.draw1 ‹Fit _ _ _› ?_ ?_ ?_ <;> (simp only [lnE, put_length] <;> omega)) | (refine Fit.range0 ?_ ?_ <;> (simp only [lnE, put_length] <;> omega)) | (refine ArOk.mono ‹ArOk _ _ _ _ _› ?_ <;> (simp only [lnE, put_length] <;> omega)) | (refine ArOk.hid ‹ArOk _ _ _ _ _› ?_ ?_ <;> (simp only [lnE, put_length] <;> omega)) | (refine ArOk.hid0 ‹ArOk _ _ _ _ _› ?_ ?_ <;> (simp only [lnE, put_length] <;> omega)) | ((intro xr hxr; simp [AM.refs, refsF, refsC] at hxr) <;> (simp only [lnE, put_length] <;> omega)) | fail)) only [syA, syB, argFr, D, E, T, C, undefv, eqF, aeq, sheqs, sheq, rdCells, cellsOf, fill, putAt, if_true, if_false, reduceIte, ↓reduceIte, reduceCtorEq, eq_self, Nat.reduceEqDiff, Nat.reduceAdd, Nat.reduceSub, Nat.reduceMul, Nat.reduceLT, Nat.reduceLeDiff, Nat.reducePow, Nat.reduceDiv, Nat.reduceMod, Int.reduceLT, Int.reduceLE, Int.reduceGT, Int.reduceGE, Int.reduceToNat, Int.reducePow, Int.reduceNeg, Int.reduceBEq, Int.reduceBNe, Int.reduceEq, Int.reduceAdd, Int.reduceSub, Int.reduceMul, cellv, sc, flatv, refs, refsF, refsC, syR, Int.le_refl, hlen]
    exact ⟨_, x.length, row, st, Nat.le_refl _, .inl rfl, rfl, rfl, rfl⟩
  | n + 1, i, row, st, hi, hrow, hst => by
    have hlen := (hr default).lenF
    have c1 : (i : Int) < x.length := by omega
    by_cases hri : row = ix
    · subst hri
      rw [iter_by lb5_0.eq_1]
      simp (disch := (first | omega | (simp only [lnE, put_length] <;> omega) | (refine Fit.mono ‹Fit _ _ _› ?_ <;> (simp only [lnE, put_length] <;> omega)) | (refine Fit.draw ‹Fit _ _ _› ?_ ?_ <;> (simp only [lnE, put_length] <;> omega)) | (refine Fit.hid1 ‹Fit _ _ _› ?_ ?_ <;> (simp only [lnE, put_length] <;> omega)) | (refine Fit.draw1 ‹Fit _ _ _› ?_ ?_ ?_ <;> (simp only [lnE, put_length] <;> omega)) | (refine Fit.range0 ?_ ?_ <;> (simp only [lnE, put_length] <;> omega)) | (refine ArOk.mono ‹ArOk _ _ _ _ _› ?_ <;> (simp only [lnE, put_length] <;> omega)) | (refine ArOk.hid ‹ArOk _ _ _ _ _› ?_ ?_ <;> (simp only [lnE, put_length] <;> omega)) | (refine ArOk.hid0 ‹ArOk _ _ _ _ _› ?_ ?_ <;> (simp only [lnE, put_length] <;> omega)) | ((intro xr hxr; simp [AM.refs, refsF, refsC] at hxr) <;> (simp only [lnE, put_length] <;> omega)) | fail)) only [syA, syB, argFr, D, E, T, C, undefv, eqF, aeq, sheqs, sheq, rdCells, cellsOf, fill, putAt, if_true, if_false, reduceIte, ↓reduceIte, reduceCtorEq, eq_self, Nat.reduceEqDiff, Nat.reduceAdd, Nat.reduceSub, Nat.reduceMul, Nat.reduceLT, Nat.reduceLeDiff, Nat.reducePow, Nat.reduceDiv, Nat.reduceMod, Int.reduceLT, Int.reduceLE, Int.reduceGT, Int.reduceGE, Int.reduceToNat, Int.reducePow, Int.reduceNeg, Int.reduceBEq, Int.reduceBNe, Int.reduceEq, Int.reduceAdd, Int.reduceSub, Int.reduceMul, cellv, sc, flatv, refs, refsF, refsC, syR, Int.le_refl, hlen, c1]
      exact ⟨_, i, row, st, by omega, .inr rfl, rfl, rfl, rfl⟩
    · have hx := atR_lt' hrow k.ixm hri
      have hnx := nxR_le hrow k.ixm hri
      obtain ⟨fr, i', row', st', g1, g2, g3, g4⟩ := tright_loop hF k hr hm h7 h7H n (i + 1) (nxR x ix row) (st + 1) (by omega) hnx (by omega)
      have c2 : ((row : Int) == ix) = false := by rw [beq_eq_false_iff_ne]; omega
      have c3 : ¬ ((row : Int) = ix) := by omega
      have nx := fun d => tnext_walk (d := d) hF k (told := i) (steps := st) (by omega) hrow hri hx (by omega)
      have n7 := fun d => nx17_walk (d := d) (L := L) (H := H) (hq := put (hq.set f (fB r s t z ix x.length row i st)) r q A) (by rw [put_length, List.length_set]; exact hF) (hr _) (by omega) k.ixm hrow hri hx
      have hlq : ∀ B, (hq.set f B).length = hq.length := fun B => List.length_set
      have ww := fun d => word_walk (d := d) (hp := hq.set f (fB r s t z ix x.length (nxR x ix row) (i + 1) (st + 1))) (L := L) (H := H) (r := r) (q := q) (A := A) (by rw [hlq]; exact hF) (by rw [hlq]; exact k.ok) t z row
      obtain ⟨w1, w2⟩ := k.word row hrow
      have w3 : tv x ix row = nxR x ix row := if_neg hri
      rw [w3] at w2
      simp only [w1, w2] at ww
      have ir1 : ((i : Nat) : Int) + 1 = ((i + 1 : Nat) : Int) := by omega
      have hl1 : ∀ B, (put (hq.set f B) r q A).length = hq.length := fun B => by rw [put_length, List.length_set]
      have hgc := fun fr B => gcFr_same (base := hq.length) fr (put (hq.set f B) r q A) L H [] (by rw [hl1]; exact Nat.le_refl _)
      have hn2 : 0 ≤ ((nxR x ix row : Nat) : Int) ∧ ((nxR x ix row : Nat) : Int) ≤ 65536 := by omega
      generalize x[atR ix row] = y at *
      generalize nxR x ix row = nr at *
      rw [iter_by lb5_0.eq_1]
      simp (disch := (first | omega | (simp only [lnE, put_length] <;> omega) | (refine Fit.mono ‹Fit _ _ _› ?_ <;> (simp only [lnE, put_length] <;> omega)) | (refine Fit.draw ‹Fit _ _ _› ?_ ?_ <;> (simp only [lnE, put_length] <;> omega)) | (refine Fit.hid1 ‹Fit _ _ _› ?_ ?_ <;> (simp only [lnE, put_length] <;> omega)) | (refine Fit.draw1 ‹Fit _ _ _› ?_ ?_ ?_ <;> (simp only [lnE, put_length] <;> omega)) | (refine Fit.range0 ?_ ?_ <;> (simp only [lnE, put_length] <;> omega)) | (refine ArOk.mono ‹ArOk _ _ _ _ _› ?_ <;> (simp only [lnE, put_length] <;> omega)) | (refine ArOk.hid ‹ArOk _ _ _ _ _› ?_ ?_ <;> (simp only [lnE, put_length] <;> omega)) | (refine ArOk.hid0 ‹ArOk _ _ _ _ _› ?_ ?_ <;> (simp only [lnE, put_length] <;> omega)) | ((intro xr hxr; simp [AM.refs, refsF, refsC] at hxr) <;> (simp only [lnE, put_length] <;> omega)) | fail)) only [syA, syB, argFr, D, E, T, C, undefv, eqF, aeq, sheqs, sheq, rdCells, cellsOf, fill, putAt, if_true, if_false, reduceIte, ↓reduceIte, reduceCtorEq, eq_self, Nat.reduceEqDiff, Nat.reduceAdd, Nat.reduceSub, Nat.reduceMul, Nat.reduceLT, Nat.reduceLeDiff, Nat.reducePow, Nat.reduceDiv, Nat.reduceMod, Int.reduceLT, Int.reduceLE, Int.reduceGT, Int.reduceGE, Int.reduceToNat, Int.reducePow, Int.reduceNeg, Int.reduceBEq, Int.reduceBNe, Int.reduceEq, Int.reduceAdd, Int.reduceSub, Int.reduceMul, cellv, sc, flatv, refs, refsF, refsC, syR, Int.le_refl, hlen, c1, c2, c3, nx, n7, h7, h7H, ww, ir1, hl1, hn2, convF_int, hgc, g3]
      exact ⟨fr, i', row', st', g1, g2, rfl, g4⟩
end
theorem tright_run {hp : List Blk} {v : Value} {x : List Nat} (hr : Rd ⟨hp, hp.length, [], []⟩ v x) (ix : Int) (hi0 : -9223372036854775808 ≤ ix) (hi1 : ix ≤ 9223372036854775807) :
    ∃ σ', Lrun env (.func 5) [v, .int .i64 ix] ⟨hp, hp.length, [], []⟩ = some (.bool true, σ') := by
  have hF : Fit hp.length hp.length [] := ⟨Nat.le_refl _, Low.nil _⟩
  have hlen := hr.lenF
  rw [Lrun_sym 5 _ _ fn5]
  by_cases g1 : (x.length : Int) = 0
  · simp (disch := (first | omega | (simp only [lnE] <;> omega) | (refine Fit.mono ‹Fit _ _ _› ?_ <;> (simp only [lnE] <;> omega)) | (refine Fit.draw ‹Fit _ _ _› ?_ ?_ <;> (simp only [lnE] <;> omega)) | (refine Fit.hid1 ‹Fit _ _ _› ?_ ?_ <;> (simp only [lnE] <;> omega)) | (refine Fit.draw1 ‹Fit _ _ _› ?_ ?_ ?_ <;> (simp only [lnE] <;> omega)) | (refine Fit.range0 ?_ ?_ <;> (simp only [lnE] <;> omega)) | fail)) only [syA, syB, argFr, D, E, T, C, undefv, eqF, aeq, sheqs, sheq, rdCells, cellsOf, fill, putAt, if_true, if_false, reduceIte, ↓reduceIte, reduceCtorEq, eq_self, Nat.reduceEqDiff, Nat.reduceAdd, Nat.reduceSub, Nat.reduceMul, Nat.reduceLT, Nat.reduceLeDiff, Nat.reducePow, Nat.reduceDiv, Nat.reduceMod, Int.reduceLT, Int.reduceLE, Int.reduceGT, Int.reduceGE, Int.reduceToNat, Int.reducePow, Int.reduceNeg, Int.reduceBEq, Int.reduceBNe, Int.reduceEq, Int.reduceAdd, Int.reduceSub, Int.reduceMul, cellv, sc, flatv, refs, refsF, refsC, hF.not0, hF.not1, hF.up0, hF.up1, ac5, hlen, g1, wakes22_walk]
    exact ⟨_, rfl⟩
  have g1' : ((x.length : Int) == 0) = false := by rw [beq_eq_false_iff_ne]; exact g1
  by_cases g2 : (x.length : Int) > 60
  · simp (disch := (first | omega | (simp only [lnE] <;> omega) | (refine Fit.mono ‹Fit _ _ _› ?_ <;> (simp only [lnE] <;> omega)) | (refine Fit.draw ‹Fit _ _ _› ?_ ?_ <;> (simp only [lnE] <;> omega)) | (refine Fit.hid1 ‹Fit _ _ _› ?_ ?_ <;> (simp only [lnE] <;> omega)) | (refine Fit.draw1 ‹Fit _ _ _› ?_ ?_ ?_ <;> (simp only [lnE] <;> omega)) | (refine Fit.range0 ?_ ?_ <;> (simp only [lnE] <;> omega)) | fail)) only [syA, syB, argFr, D, E, T, C, undefv, eqF, aeq, sheqs, sheq, rdCells, cellsOf, fill, putAt, if_true, if_false, reduceIte, ↓reduceIte, reduceCtorEq, eq_self, Nat.reduceEqDiff, Nat.reduceAdd, Nat.reduceSub, Nat.reduceMul, Nat.reduceLT, Nat.reduceLeDiff, Nat.reducePow, Nat.reduceDiv, Nat.reduceMod, Int.reduceLT, Int.reduceLE, Int.reduceGT, Int.reduceGE, Int.reduceToNat, Int.reducePow, Int.reduceNeg, Int.reduceBEq, Int.reduceBNe, Int.reduceEq, Int.reduceAdd, Int.reduceSub, Int.reduceMul, cellv, sc, flatv, refs, refsF, refsC, hF.not0, hF.not1, hF.up0, hF.up1, ac5, hlen, g1', g2, wakes22_walk]
    exact ⟨_, rfl⟩
  by_cases g3 : ix < 1
  · simp (disch := (first | omega | (simp only [lnE] <;> omega) | (refine Fit.mono ‹Fit _ _ _› ?_ <;> (simp only [lnE] <;> omega)) | (refine Fit.draw ‹Fit _ _ _› ?_ ?_ <;> (simp only [lnE] <;> omega)) | (refine Fit.hid1 ‹Fit _ _ _› ?_ ?_ <;> (simp only [lnE] <;> omega)) | (refine Fit.draw1 ‹Fit _ _ _› ?_ ?_ ?_ <;> (simp only [lnE] <;> omega)) | (refine Fit.range0 ?_ ?_ <;> (simp only [lnE] <;> omega)) | fail)) only [syA, syB, argFr, D, E, T, C, undefv, eqF, aeq, sheqs, sheq, rdCells, cellsOf, fill, putAt, if_true, if_false, reduceIte, ↓reduceIte, reduceCtorEq, eq_self, Nat.reduceEqDiff, Nat.reduceAdd, Nat.reduceSub, Nat.reduceMul, Nat.reduceLT, Nat.reduceLeDiff, Nat.reducePow, Nat.reduceDiv, Nat.reduceMod, Int.reduceLT, Int.reduceLE, Int.reduceGT, Int.reduceGE, Int.reduceToNat, Int.reducePow, Int.reduceNeg, Int.reduceBEq, Int.reduceBNe, Int.reduceEq, Int.reduceAdd, Int.reduceSub, Int.reduceMul, cellv, sc, flatv, refs, refsF, refsC, hF.not0, hF.not1, hF.up0, hF.up1, ac5, hlen, g1', g2, g3, wakes22_walk]
    exact ⟨_, rfl⟩
  by_cases g4 : ix > x.length
  · simp (disch := (first | omega | (simp only [lnE] <;> omega) | (refine Fit.mono ‹Fit _ _ _› ?_ <;> (simp only [lnE] <;> omega)) | (refine Fit.draw ‹Fit _ _ _› ?_ ?_ <;> (simp only [lnE] <;> omega)) | (refine Fit.hid1 ‹Fit _ _ _› ?_ ?_ <;> (simp only [lnE] <;> omega)) | (refine Fit.draw1 ‹Fit _ _ _› ?_ ?_ ?_ <;> (simp only [lnE] <;> omega)) | (refine Fit.range0 ?_ ?_ <;> (simp only [lnE] <;> omega)) | fail)) only [syA, syB, argFr, D, E, T, C, undefv, eqF, aeq, sheqs, sheq, rdCells, cellsOf, fill, putAt, if_true, if_false, reduceIte, ↓reduceIte, reduceCtorEq, eq_self, Nat.reduceEqDiff, Nat.reduceAdd, Nat.reduceSub, Nat.reduceMul, Nat.reduceLT, Nat.reduceLeDiff, Nat.reducePow, Nat.reduceDiv, Nat.reduceMod, Int.reduceLT, Int.reduceLE, Int.reduceGT, Int.reduceGE, Int.reduceToNat, Int.reducePow, Int.reduceNeg, Int.reduceBEq, Int.reduceBNe, Int.reduceEq, Int.reduceAdd, Int.reduceSub, Int.reduceMul, cellv, sc, flatv, refs, refsF, refsC, hF.not0, hF.not1, hF.up0, hF.up1, ac5, hlen, g1', g2, g3, g4, wakes22_walk]
    exact ⟨_, rfl⟩
  obtain ⟨ix, rfl⟩ := Int.eq_ofNat_of_zero_le (by omega : 0 ≤ ix)
  have ld := laid22_walk (d := []) hF hr (by omega)
  obtain ⟨B, n1, k1⟩ := made22 (hp := hp) hr.by_ (by omega) (by omega) (ix := ix) (by omega) hp.length (by omega) [.cells 0 true [.int .i64 0, .int .i64 x.length], .cells 0 true [.int .i64 x.length, .int .i64 (4 * x.length + 4 : Nat)]] rfl
  generalize 4 * x.length + 4 = sz at *
  have hset : ∀ W W', (hp ++ [default, default, Blk.cells 0 true [.int .i64 0, .int .i64 x.length], .cells 0 true [.int .i64 x.length, .int .i64 sz], W]).set (hp.length + 4) W' = hp ++ [default, default, Blk.cells 0 true [.int .i64 0, .int .i64 x.length], .cells 0 true [.int .i64 x.length, .int .i64 sz], W'] := fun W W' => by simp only [set_new, List.set_cons_succ, List.set_cons_zero]
  obtain ⟨hq, hqe⟩ : ∃ hq, hq = hp ++ [default, default, Blk.cells 0 true [.int .i64 0, .int .i64 x.length], .cells 0 true [.int .i64 x.length, .int .i64 sz], default] := ⟨_, rfl⟩
  have hql : hq.length = hp.length + 5 := by rw [hqe]; simp
  have kq : TbOk hq.length hp.length (hp.length + 1) (hp.length + 4) hp.length [] B 0 x.length sz ix x := by rw [hql]; exact k1
  have hFq : Fit hq.length hp.length [] := ⟨by omega, Low.nil _⟩
  have hrq : ∀ B', Rd ⟨put (hq.set (hp.length + 4) B') hp.length (hp.length + 1) B, hp.length, [], []⟩ v x := fun B' => by rw [hqe, hset]; exact hr.put (by omega) (by omega)
  have va := fun d => tbvalid_walk (d := d) hFq kq (row := 0) (told := 0) (steps := 0) (by omega)
  have hvc := (vw_cost (f := fun _ => 0) (k := 1) (fun a => by omega) (x := x) (ix := ix) x.length 0 0).2
  have v17 := fun d => valid17_walk (d := d) (L := hp.length) (H := []) (hq := put (hq.set (hp.length + 4) (fB hp.length 0 x.length sz ix x.length 0 0 (vw (fun _ => 0) x ix x.length 0 0).2)) hp.length (hp.length + 1) B) (by rw [put_length, List.length_set]; exact hFq) (hrq _) (by omega) (ix := ix) (by omega) (by omega)
  generalize hS : (vw (fun _ => 0) x ix x.length 0 0).2 = S at *
  obtain ⟨fr, i', row', st', j1, j2, e1, e2, e3⟩ := tright_loop hFq kq hrq (by omega) (b7 := hp.length + 3) (fun B' => by rw [hqe, hset, put_o (by omega) (by omega), get_new]; rfl) rfl x.length 0 0 S (by omega) (by omega) (by omega)
  have dn := fun d => tnext_done (d := d) hFq kq (told := i') (row := row') (steps := st') j2
  have td := fun d => ttold_walk (d := d) hFq kq (told := i') (row := row') (steps := st')
  simp only [hqe, hset] at va v17 e1 dn td
  simp only [List.length_append, List.length_cons, List.length_nil, Nat.zero_add, Nat.reduceAdd, List.append_assoc, List.cons_append, List.nil_append, Int.natCast_zero, Nat.add_zero, Int.natCast_one] at n1 va v17 e1 dn td ld
  simp (disch := (first | omega | (simp only [lnE, put_length] <;> omega) | (refine Fit.mono ‹Fit _ _ _› ?_ <;> (simp only [lnE, put_length] <;> omega)) | (refine Fit.draw ‹Fit _ _ _› ?_ ?_ <;> (simp only [lnE, put_length] <;> omega)) | (refine Fit.hid1 ‹Fit _ _ _› ?_ ?_ <;> (simp only [lnE, put_length] <;> omega)) | (refine Fit.draw1 ‹Fit _ _ _› ?_ ?_ ?_ <;> (simp only [lnE, put_length] <;> omega)) | (refine Fit.range0 ?_ ?_ <;> (simp only [lnE, put_length] <;> omega)) | (refine ArOk.mono ‹ArOk _ _ _ _ _› ?_ <;> (simp only [lnE, put_length] <;> omega)) | (refine ArOk.hid ‹ArOk _ _ _ _ _› ?_ ?_ <;> (simp only [lnE, put_length] <;> omega)) | (refine ArOk.hid0 ‹ArOk _ _ _ _ _› ?_ ?_ <;> (simp only [lnE, put_length] <;> omega)) | ((intro xr hxr; simp [AM.refs, refsF, refsC] at hxr) <;> (simp only [lnE, put_length] <;> omega)) | fail)) only [syA, syB, argFr, D, E, T, C, undefv, eqF, aeq, sheqs, sheq, rdCells, cellsOf, fill, putAt, if_true, if_false, reduceIte, ↓reduceIte, reduceCtorEq, eq_self, Nat.reduceEqDiff, Nat.reduceAdd, Nat.reduceSub, Nat.reduceMul, Nat.reduceLT, Nat.reduceLeDiff, Nat.reducePow, Nat.reduceDiv, Nat.reduceMod, Int.reduceLT, Int.reduceLE, Int.reduceGT, Int.reduceGE, Int.reduceToNat, Int.reducePow, Int.reduceNeg, Int.reduceBEq, Int.reduceBNe, Int.reduceEq, Int.reduceAdd, Int.reduceSub, Int.reduceMul, cellv, sc, flatv, refs, refsF, refsC, syR, Int.le_refl, hF.not0, hF.not1, hF.up0, hF.up1, ac5, hlen, g1', g2, g3, g4, ld, n1, va, v17, e1, e2, e3, dn, td, wakes22_walk, gc_bool_new]
  exact ⟨_, rfl⟩
section
variable {L : Nat} {H : List Nat} {r q f : Nat} {A : Arn} {z : Nat} {t o : List Nat}
theorem tback_loop {hq : List Blk} (hF : Fit hq.length L H) (ho : Ord t o) {n0 : Nat} (k : TbOk hq.length r q f L H A 0 n0 z (o.idxOf 0) (colO t o)) {v u : Value} (hr : ∀ B, Rd ⟨put (hq.set f B) r q A, L, H, []⟩ v t) (hcl : (colO t o).length = t.length) (hm : t.length ≤ 200) {b6 : Nat} :
    ∀ n i : Nat, i + n = t.length → ∃ fr,
    Liter env lb4_0 [0, 8, 5, 6, 3, 10] hq.length [(0, v), (8, fP f), (5, arP r), (6, .pointer (some ⟨b6, 0, some 0⟩)), (3, u), (10, .int .i64 ((n : Int) - 1))] ⟨put (hq.set f (fB r 0 n0 z (o.idxOf 0) (colO t o).length (rowK (colO t o) (o.idxOf 0) i) i (t.length + i))) r q A, L, H, []⟩ =
      some (.exit 0, fr, ⟨put (hq.set f (fB r 0 n0 z (o.idxOf 0) (colO t o).length (rowK (colO t o) (o.idxOf 0) t.length) t.length (t.length + t.length))) r q A, L, H, []⟩) ∧ fr.get 0 = some v ∧ fr.get 8 = some (fP f) ∧ fr.get 5 = some (arP r) ∧ fr.get 6 = some (.pointer (some ⟨b6, 0, some 0⟩)) ∧ fr.get 3 = some u
  | 0, i, hi => by
    obtain rfl : i = t.length := by omega
    rw [iter_by lb4_0.eq_1]
    simp (disch := (first | omega | (simp only [lnE, put_length] <;> omega) | (refine Fit.mono ‹Fit _ _ _› ?_ <;> (simp only [lnE, put_length] <;> omega)) | (refine Fit.draw ‹Fit _ _ _› ?_ ?_ <;> (simp only [lnE, put_length] <;> omega)) | (refine Fit.hid1 ‹Fit _ _ _› ?_ ?_ <;> (simp only [lnE, put_length] <;> omega)) | (refine Fit.draw1 ‹Fit _ _ _› ?_ ?_ ?_ <;> (simp only [lnE, put_length] <;> omega)) | (refine Fit.range0 ?_ ?_ <;> (simp only [lnE, put_length] <;> omega)) | (refine ArOk.mono ‹ArOk _ _ _ _ _› ?_ <;> (simp only [lnE, put_length] <;> omega)) | (refine ArOk.hid ‹ArOk _ _ _ _ _› ?_ ?_ <;> (simp only [lnE, put_length] <;> omega)) | (refine ArOk.hid0 ‹ArOk _ _ _ _ _› ?_ ?_ <;> (simp only [lnE, put_length] <;> omega)) | ((intro xr hxr; simp [AM.refs, refsF, refsC] at hxr) <;> (simp only [lnE, put_length] <;> omega)) | fail)) only [syA, syB, argFr, D, E, T, C, undefv, eqF, aeq, sheqs, sheq, rdCells, cellsOf, fill, putAt, if_true, if_false, reduceIte, ↓reduceIte, reduceCtorEq, eq_self, Nat.reduceEqDiff, Nat.reduceAdd, Nat.reduceSub, Nat.reduceMul, Nat.reduceLT, Nat.reduceLeDiff, Nat.reducePow, Nat.reduceDiv, Nat.reduceMod, Int.reduceLT, Int.reduceLE, Int.reduceGT, Int.reduceGE, Int.reduceToNat, Int.reducePow, Int.reduceNeg, Int.reduceBEq, Int.reduceBNe, Int.reduceEq, Int.reduceAdd, Int.reduceSub, Int.reduceMul, cellv, sc, flatv, refs, refsF, refsC, syR, Int.le_refl]
    exact ⟨_, rfl, rfl, rfl, rfl, rfl, rfl⟩
  | n + 1, i, hi => by
    have hlen := (hr default).lenF
    obtain ⟨fr, f1, f2⟩ := tback_loop hF ho k hr hcl hm (u := u) (b6 := b6) n (i + 1) (by omega)
    obtain ⟨a1, a2⟩ := way_byte ho (k := i) (by omega)
    have a3 := way_le ho (k := i) (by omega)
    obtain ⟨a4, a5⟩ := List.getElem?_eq_some_iff.1 a2
    have nx := fun d => tnext_walk (d := d) hF k (told := i) (steps := t.length + i) (by omega) (by omega) a1 a4 (by omega)
    rw [a5] at nx
    have e1 : nxR (colO t o) (o.idxOf 0) (rowK (colO t o) (o.idxOf 0) i) = rowK (colO t o) (o.idxOf 0) (i + 1) := rfl
    simp only [e1, Nat.add_assoc] at nx
    have hn : n < t.length := by omega
    have hgd : t.getD (t.length - i - 1) 0 = t[n] := by rw [show t.length - i - 1 = n by omega, List.getD_eq_getElem?_getD, List.getElem?_eq_getElem hn, Option.getD_some]
    rw [hgd] at nx
    obtain ⟨a, e, rfl⟩ : ∃ a e, v = .slice a t.length e := (hr default).len
    obtain ⟨b, of, g, pl, cs, rfl, _, hh, hb2, hcell⟩ := (hr (fB r 0 n0 z (o.idxOf 0) (colO t o).length (rowK (colO t o) (o.idxOf 0) (i + 1)) (i + 1) (t.length + (i + 1)))).at_ hn
    simp only [] at hb2 hh
    have c1 : ((n + 1 : Nat) : Int) - 1 = n := by omega
    have c2 : (n : Int) ≥ 0 := by omega
    have c3 : 0 ≤ (n : Int) ∧ (n : Int) < t.length := by omega
    have hl1 : ∀ B, (put (hq.set f B) r q A).length = hq.length := fun B => by rw [put_length, List.length_set]
    have hgc := fun fr B => gcFr_same (base := hq.length) fr (put (hq.set f B) r q A) L H [] (by rw [hl1]; exact Nat.le_refl _)
    generalize t[n] = y at *
    have hbe : ((y : Int) == y) = true := by simp
    rw [iter_by lb4_0.eq_1]
    simp (disch := (first | omega | (simp only [lnE, put_length] <;> omega) | (refine Fit.mono ‹Fit _ _ _› ?_ <;> (simp only [lnE, put_length] <;> omega)) | (refine Fit.draw ‹Fit _ _ _› ?_ ?_ <;> (simp only [lnE, put_length] <;> omega)) | (refine Fit.hid1 ‹Fit _ _ _› ?_ ?_ <;> (simp only [lnE, put_length] <;> omega)) | (refine Fit.draw1 ‹Fit _ _ _› ?_ ?_ ?_ <;> (simp only [lnE, put_length] <;> omega)) | (refine Fit.range0 ?_ ?_ <;> (simp only [lnE, put_length] <;> omega)) | (refine ArOk.mono ‹ArOk _ _ _ _ _› ?_ <;> (simp only [lnE, put_length] <;> omega)) | (refine ArOk.hid ‹ArOk _ _ _ _ _› ?_ ?_ <;> (simp only [lnE, put_length] <;> omega)) | (refine ArOk.hid0 ‹ArOk _ _ _ _ _› ?_ ?_ <;> (simp only [lnE, put_length] <;> omega)) | ((intro xr hxr; simp [AM.refs, refsF, refsC] at hxr) <;> (simp only [lnE, put_length] <;> omega)) | fail)) only [syA, syB, argFr, D, E, T, C, undefv, eqF, aeq, sheqs, sheq, rdCells, cellsOf, fill, putAt, if_true, if_false, reduceIte, ↓reduceIte, reduceCtorEq, eq_self, Nat.reduceEqDiff, Nat.reduceAdd, Nat.reduceSub, Nat.reduceMul, Nat.reduceLT, Nat.reduceLeDiff, Nat.reducePow, Nat.reduceDiv, Nat.reduceMod, Int.reduceLT, Int.reduceLE, Int.reduceGT, Int.reduceGE, Int.reduceToNat, Int.reducePow, Int.reduceNeg, Int.reduceBEq, Int.reduceBNe, Int.reduceEq, Int.reduceAdd, Int.reduceSub, Int.reduceMul, cellv, sc, flatv, refs, refsF, refsC, syR, Int.le_refl, hlen, c1, c2, c3, nx, hb2, hh, hcell, hbe, hl1, hgc, f1]
    exact ⟨fr, rfl, f2⟩
end
theorem tback_run {hp : List Blk} {v : Value} {x : List Nat} (hr : Rd ⟨hp, hp.length, [], []⟩ v x) :
    ∃ σ', Lrun env (.func 4) [v] ⟨hp, hp.length, [], []⟩ = some (.bool true, σ') := by
  have hF : Fit hp.length hp.length [] := ⟨Nat.le_refl _, Low.nil _⟩
  have hlen := hr.lenF
  rw [Lrun_sym 4 _ _ fn4]
  by_cases g1 : (x.length : Int) = 0
  · simp (disch := (first | omega | (simp only [lnE] <;> omega) | (refine Fit.mono ‹Fit _ _ _› ?_ <;> (simp only [lnE] <;> omega)) | (refine Fit.draw ‹Fit _ _ _› ?_ ?_ <;> (simp only [lnE] <;> omega)) | (refine Fit.hid1 ‹Fit _ _ _› ?_ ?_ <;> (simp only [lnE] <;> omega)) | (refine Fit.draw1 ‹Fit _ _ _› ?_ ?_ ?_ <;> (simp only [lnE] <;> omega)) | (refine Fit.range0 ?_ ?_ <;> (simp only [lnE] <;> omega)) | fail)) only [syA, syB, argFr, D, E, T, C, undefv, eqF, aeq, sheqs, sheq, rdCells, cellsOf, fill, putAt, if_true, if_false, reduceIte, ↓reduceIte, reduceCtorEq, eq_self, Nat.reduceEqDiff, Nat.reduceAdd, Nat.reduceSub, Nat.reduceMul, Nat.reduceLT, Nat.reduceLeDiff, Nat.reducePow, Nat.reduceDiv, Nat.reduceMod, Int.reduceLT, Int.reduceLE, Int.reduceGT, Int.reduceGE, Int.reduceToNat, Int.reducePow, Int.reduceNeg, Int.reduceBEq, Int.reduceBNe, Int.reduceEq, Int.reduceAdd, Int.reduceSub, Int.reduceMul, cellv, sc, flatv, refs, refsF, refsC, hF.not0, hF.not1, hF.up0, hF.up1, ac4, hlen, g1, wakes22_walk]
    exact ⟨_, rfl⟩
  have g1' : ((x.length : Int) == 0) = false := by rw [beq_eq_false_iff_ne]; exact g1
  by_cases g2 : (x.length : Int) > 200
  · simp (disch := (first | omega | (simp only [lnE] <;> omega) | (refine Fit.mono ‹Fit _ _ _› ?_ <;> (simp only [lnE] <;> omega)) | (refine Fit.draw ‹Fit _ _ _› ?_ ?_ <;> (simp only [lnE] <;> omega)) | (refine Fit.hid1 ‹Fit _ _ _› ?_ ?_ <;> (simp only [lnE] <;> omega)) | (refine Fit.draw1 ‹Fit _ _ _› ?_ ?_ ?_ <;> (simp only [lnE] <;> omega)) | (refine Fit.range0 ?_ ?_ <;> (simp only [lnE] <;> omega)) | fail)) only [syA, syB, argFr, D, E, T, C, undefv, eqF, aeq, sheqs, sheq, rdCells, cellsOf, fill, putAt, if_true, if_false, reduceIte, ↓reduceIte, reduceCtorEq, eq_self, Nat.reduceEqDiff, Nat.reduceAdd, Nat.reduceSub, Nat.reduceMul, Nat.reduceLT, Nat.reduceLeDiff, Nat.reducePow, Nat.reduceDiv, Nat.reduceMod, Int.reduceLT, Int.reduceLE, Int.reduceGT, Int.reduceGE, Int.reduceToNat, Int.reducePow, Int.reduceNeg, Int.reduceBEq, Int.reduceBNe, Int.reduceEq, Int.reduceAdd, Int.reduceSub, Int.reduceMul, cellv, sc, flatv, refs, refsF, refsC, hF.not0, hF.not1, hF.up0, hF.up1, ac4, hlen, g1', g2, wakes22_walk]
    exact ⟨_, rfl⟩
  have ho := ordR_ord x
  have t17 := turn17_walk (d := []) (hq := hp) (L := hp.length) (H := []) hF hr (by omega)
  have hcl := colO_len ho
  have hcix2 : (turnR x).2.1 ≤ x.length := (turnR_len x).2
  rw [(turnR_is x).1, (turnR_is x).2] at t17
  rw [(turnR_is x).2] at hcix2
  have hby : By (colO x (ordR x (x.length + 1))) := colO_by hr.by_
  generalize ordR x (x.length + 1) = o at *
  have hcix1 : 1 ≤ o.idxOf 0 := by
    rcases Nat.eq_zero_or_pos (o.idxOf 0) with h | h
    · have h1 := List.getElem_idxOf (x := 0) (xs := o) (List.idxOf_lt_length_iff.2 (ho.mem.2 (Nat.zero_le _)))
      have h2 := ho.first
      simp only [h] at h1
      rw [List.getElem?_eq_getElem (by have := ho.len; omega), h1] at h2
      simp only [Option.some.injEq] at h2
      omega
    · exact h
  have hne : colO x o ≠ [] := by intro h; rw [h] at hcl; simp at hcl; omega
  rw [bv_ne hne, bb_ne hne] at t17
  have hrc : Rd ⟨hp ++ [.cells (colO x o).length true (u8s (colO x o))], hp.length, [], []⟩ (.slice (some ⟨hp.length, 0, some (colO x o).length⟩) (colO x o).length 1) (colO x o) := Rd.whole (by rw [get_new0]) rfl hby (.inr rfl)
  have ld := laid22_walk (d := []) (hp := hp ++ [.cells (colO x o).length true (u8s (colO x o))]) (L := hp.length) (H := []) (hF.mono (by simp)) hrc (by omega)
  obtain ⟨B, n1, k1⟩ := made22 (hp := hp ++ [.cells (colO x o).length true (u8s (colO x o))]) hby (by omega) (by omega) (ix := o.idxOf 0) (by omega) hp.length (by simp) [.cells 0 true [.int .i64 0, .int .i64 (colO x o).length], .cells 0 true [.int .i64 (colO x o).length, .int .i64 (4 * (colO x o).length + 4 : Nat)]] rfl
  obtain ⟨CB, hCB⟩ : ∃ CB, CB = Blk.cells (colO x o).length true (u8s (colO x o)) := ⟨_, rfl⟩
  rw [← hCB] at hrc ld n1 k1 t17
  generalize 4 * (colO x o).length + 4 = sz at *
  have hset : ∀ W W', (hp ++ [CB, default, default, Blk.cells 0 true [.int .i64 0, .int .i64 (colO x o).length], .cells 0 true [.int .i64 (colO x o).length, .int .i64 sz], W]).set (hp.length + 5) W' = hp ++ [CB, default, default, Blk.cells 0 true [.int .i64 0, .int .i64 (colO x o).length], .cells 0 true [.int .i64 (colO x o).length, .int .i64 sz], W'] := fun W W' => by simp only [set_new, List.set_cons_succ, List.set_cons_zero]
  obtain ⟨hq, hqe⟩ : ∃ hq, hq = hp ++ [CB, default, default, Blk.cells 0 true [.int .i64 0, .int .i64 (colO x o).length], .cells 0 true [.int .i64 (colO x o).length, .int .i64 sz], default] := ⟨_, rfl⟩
  have hql : hq.length = hp.length + 6 := by rw [hqe]; simp
  simp only [List.length_append, List.length_cons, List.length_nil, Nat.zero_add] at k1
  have kq : TbOk hq.length (hp.length + 1) (hp.length + 1 + 1) (hp.length + 5) hp.length [] B 0 (colO x o).length sz (o.idxOf 0) (colO x o) := by rw [hql]; exact k1
  have hFq : Fit hq.length hp.length [] := ⟨by omega, Low.nil _⟩
  have hrq : ∀ B', Rd ⟨put (hq.set (hp.length + 5) B') (hp.length + 1) (hp.length + 1 + 1) B, hp.length, [], []⟩ v x := fun B' => by rw [hqe, hset]; exact hr.put (by omega) (by omega)
  have va := fun d => tbvalid_walk (d := d) hFq kq (row := 0) (told := 0) (steps := 0) (by omega)
  have hvr0 := vw_right (f := fun _ => 0) ho
  have hvc := (vw_cost (f := fun _ => 0) (k := 1) (fun a => by omega) (x := colO x o) (ix := o.idxOf 0) x.length 0 0).2
  have hv2 : (vw (fun _ => 0) (colO x o) (o.idxOf 0) x.length 0 0).2 = x.length := by omega
  rw [hcl] at va
  rw [hvr0.1, hv2] at va
  obtain ⟨fr, e1, e2, e3, e4, e5, e6⟩ := tback_loop (A := B) hFq ho kq hrq hcl (by omega) (u := .slice (some ⟨hp.length, 0, some (colO x o).length⟩) (colO x o).length 1) (b6 := hp.length + 3) x.length 0 (by omega)
  have sp := fun d => tsteps_walk (d := d) hFq kq (row := 0) (told := 0) (steps := x.length)
  have td := fun d => ttold_walk (d := d) hFq kq (row := 0) (told := 0) (steps := x.length)
  have dn := fun d => tnext_done (d := d) hFq kq (told := x.length) (row := rowK (colO x o) (o.idxOf 0) x.length) (steps := x.length + x.length) (.inl hcl.symm)
  have sp2 := fun d => tsteps_walk (d := d) hFq kq (row := rowK (colO x o) (o.idxOf 0) x.length) (told := x.length) (steps := x.length + x.length)
  simp only [rowK, Nat.add_zero] at e1
  have kB : ArOk (hp.length + 3) (hp.length + 1) (hp.length + 1 + 1) [] B := ⟨by omega, by omega, k1.ok.ne, k1.ok.by_, k1.ok.live0, k1.ok.live1, k1.ok.peak0, k1.ok.peak1, k1.ok.size, rfl, rfl⟩
  have hHB := k1.holds
  have lo := hHB.load
  simp only [Int.natCast_zero] at lo
  have rv := fun nw L' => (Rd.put (nw := nw) (L' := L') (d' := []) (r := hp.length + 1) (q := hp.length + 1 + 1) (A := B) hrc (by simp) (by simp)).str
  have rvh := fun nw L' lo n (hlo : hp.length + 1 ≤ lo) => (Rd_put_hide (nw := nw) (L' := L') (d' := []) (r := hp.length + 1) (q := hp.length + 1 + 1) (lo := lo) (n := n) (A := B) hrc (by simp) (by simp) (by simpa using hlo)).str
  have lw1 : ∀ (nw : List Blk) (L' : Nat), Fit (hp ++ (CB :: default :: default :: nw)).length L' [] → Lrun env (.func 20) [arP (hp.length + 1), .agg #[.int .i64 0, .int .i64 (colO x o).length]] ⟨put (hp ++ (CB :: default :: default :: nw)) (hp.length + 1) (hp.length + 1 + 1) B, L', [], []⟩ = some (sl (hp ++ (CB :: default :: default :: nw)).length (colO x o).length (some (colO x o)), ⟨put (hp ++ (CB :: default :: default :: nw) ++ slB (colO x o).length (some (colO x o))) (hp.length + 1) (hp.length + 1 + 1) B, L', [], []⟩) := fun nw L' hF' => by
    have h := load_walk (d := []) (L := L') (H := []) (hp := hp ++ (CB :: default :: default :: nw)) (r := hp.length + 1) (q := hp.length + 1 + 1) hF' (kB.mono (by simp)) 0 (colO x o).length
    rw [lo] at h
    exact h
  have m4 : 2 * (x.length : Int) = ((x.length + x.length : Nat) : Int) := by omega
  have htk : (u8s (colO x o)).take x.length = u8s (colO x o) := by rw [← hcl, List.take_of_length_le (by rw [u8s_length]; exact Nat.le_refl _)]
  simp only [hqe, hset] at va e1 sp td dn sp2
  simp only [List.length_append, List.length_cons, List.length_nil, Nat.zero_add, Nat.reduceAdd, List.append_assoc, List.cons_append, List.nil_append, Int.natCast_zero, Nat.add_zero, Int.natCast_one, decide_true, hcl] at n1 va e1 e6 dn ld sp td sp2 t17 lw1 rv rvh
  simp (disch := (first | omega | (simp only [lnE, put_length] <;> omega) | (refine Fit.mono ‹Fit _ _ _› ?_ <;> (simp only [lnE, put_length] <;> omega)) | (refine Fit.draw ‹Fit _ _ _› ?_ ?_ <;> (simp only [lnE, put_length] <;> omega)) | (refine Fit.hid1 ‹Fit _ _ _› ?_ ?_ <;> (simp only [lnE, put_length] <;> omega)) | (refine Fit.draw1 ‹Fit _ _ _› ?_ ?_ ?_ <;> (simp only [lnE, put_length] <;> omega)) | (refine Fit.range0 ?_ ?_ <;> (simp only [lnE, put_length] <;> omega)) | (refine ArOk.mono ‹ArOk _ _ _ _ _› ?_ <;> (simp only [lnE, put_length] <;> omega)) | (refine ArOk.hid ‹ArOk _ _ _ _ _› ?_ ?_ <;> (simp only [lnE, put_length] <;> omega)) | (refine ArOk.hid0 ‹ArOk _ _ _ _ _› ?_ ?_ <;> (simp only [lnE, put_length] <;> omega)) | ((intro xr hxr; simp [AM.refs, refsF, refsC] at hxr) <;> (simp only [lnE, put_length] <;> omega)) | fail)) only [syA, syB, argFr, D, E, T, C, undefv, eqF, aeq, sheqs, sheq, rdCells, cellsOf, fill, putAt, if_true, if_false, reduceIte, ↓reduceIte, reduceCtorEq, eq_self, Nat.reduceEqDiff, Nat.reduceAdd, Nat.reduceSub, Nat.reduceMul, Nat.reduceLT, Nat.reduceLeDiff, Nat.reducePow, Nat.reduceDiv, Nat.reduceMod, Int.reduceLT, Int.reduceLE, Int.reduceGT, Int.reduceGE, Int.reduceToNat, Int.reducePow, Int.reduceNeg, Int.reduceBEq, Int.reduceBNe, Int.reduceEq, Int.reduceAdd, Int.reduceSub, Int.reduceMul, cellv, sc, flatv, refs, refsF, refsC, syR, Int.le_refl, hF.not0, hF.not1, hF.up0, hF.up1, ac4, hlen, g1', g2, t17, ld, n1, va, sp, td, e1, e2, e3, e4, e5, e6, dn, sp2, m4, lw1, rv, rvh, sl_some, slB_some, hcl, htk, wakes22_walk, gc_bool_new]
  exact ⟨_, rfl⟩
end ArA
end Go.Proofs.Ytlbdgbfblgjjgaa
