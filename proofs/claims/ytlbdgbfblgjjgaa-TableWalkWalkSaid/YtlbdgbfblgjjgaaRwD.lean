/-
  WALKS WITH RANKS: Next, Valid, Reset, Steps, Told on the abstract machine. Conditions: none.
-/
import Derived.Test.YtlbdgbfblgjjgaaRwC
set_option linter.all false
namespace Go.Proofs.Ytlbdgbfblgjjgaa
namespace ArA
open Go Go.RowKit AM ArEnv
abbrev wkP (w : Nat) : Value := .pointer (some ⟨w, 0, some 0⟩)
section
variable {hp : List Blk} {L : Nat} {H d : List Nat} {r q w : Nat} {A : Arn} {s t z kk ix : Nat} {x : List Nat} {row told steps : Nat}
theorem rsteps_walk (hF : Fit hp.length L H) (k : WkOk hp.length r q w L H A s t z kk ix x) (hb : hp[w]? = some (.cells 0 false (wkC r s x.length t z ix kk x 256 row told steps))) :
    Lrun env (.func 36) [wkP w] ⟨put hp r q A, L, H, d⟩ = some (.int .i64 steps, ⟨put hp r q A, L, H, d⟩) := by
  have hwr := k.wr
  have hwq := k.wq
  have hid := k.hid
  have k0 := k.ok
  rw [Lrun_sym 36 _ _ fn36]
  simp (disch := (first | omega | (simp only [lnE, put_length] <;> omega) | (refine Fit.mono ‹Fit _ _ _› ?_ <;> (simp only [lnE, put_length] <;> omega)) | (refine Fit.draw ‹Fit _ _ _› ?_ ?_ <;> (simp only [lnE, put_length] <;> omega)) | (refine Fit.hid1 ‹Fit _ _ _› ?_ ?_ <;> (simp only [lnE, put_length] <;> omega)) | (refine Fit.draw1 ‹Fit _ _ _› ?_ ?_ ?_ <;> (simp only [lnE, put_length] <;> omega)) | (refine Fit.range0 ?_ ?_ <;> (simp only [lnE, put_length] <;> omega)) | (refine ArOk.mono ‹ArOk _ _ _ _ _› ?_ <;> (simp only [lnE, put_length] <;> omega)) | (refine ArOk.hid ‹ArOk _ _ _ _ _› ?_ ?_ <;> (simp only [lnE, put_length] <;> omega)) | (refine ArOk.hid0 ‹ArOk _ _ _ _ _› ?_ ?_ <;> (simp only [lnE, put_length] <;> omega)) | ((intro xr hxr; simp [AM.refs, refsF, refsC] at hxr) <;> (simp only [lnE, put_length] <;> omega)) | fail)) only [syA, syB, argFr, D, E, T, C, undefv, eqF, aeq, sheqs, sheq, rdCells, cellsOf, fill, putAt, if_true, if_false, reduceIte, ↓reduceIte, reduceCtorEq, eq_self, Nat.reduceEqDiff, Nat.reduceAdd, Nat.reduceSub, Nat.reduceMul, Nat.reduceLT, Nat.reduceLeDiff, Nat.reducePow, Nat.reduceDiv, Nat.reduceMod, Int.reduceLT, Int.reduceLE, Int.reduceGT, Int.reduceGE, Int.reduceToNat, Int.reducePow, Int.reduceNeg, Int.reduceBEq, Int.reduceBNe, Int.reduceEq, Int.reduceAdd, Int.reduceSub, Int.reduceMul, cellv, sc, flatv, refs, refsF, refsC, syR, Int.le_refl, hF.not0, hF.not1, hF.up0, hF.up1, k0.hr, k0.hq, ac36, hb, hwr, hwq, hid, wk265]
theorem rtold_walk (hF : Fit hp.length L H) (k : WkOk hp.length r q w L H A s t z kk ix x) (hb : hp[w]? = some (.cells 0 false (wkC r s x.length t z ix kk x 256 row told steps))) :
    Lrun env (.func 38) [wkP w] ⟨put hp r q A, L, H, d⟩ = some (.int .i64 told, ⟨put hp r q A, L, H, d⟩) := by
  have hwr := k.wr
  have hwq := k.wq
  have hid := k.hid
  have k0 := k.ok
  rw [Lrun_sym 38 _ _ fn38]
  simp (disch := (first | omega | (simp only [lnE, put_length] <;> omega) | (refine Fit.mono ‹Fit _ _ _› ?_ <;> (simp only [lnE, put_length] <;> omega)) | (refine Fit.draw ‹Fit _ _ _› ?_ ?_ <;> (simp only [lnE, put_length] <;> omega)) | (refine Fit.hid1 ‹Fit _ _ _› ?_ ?_ <;> (simp only [lnE, put_length] <;> omega)) | (refine Fit.draw1 ‹Fit _ _ _› ?_ ?_ ?_ <;> (simp only [lnE, put_length] <;> omega)) | (refine Fit.range0 ?_ ?_ <;> (simp only [lnE, put_length] <;> omega)) | (refine ArOk.mono ‹ArOk _ _ _ _ _› ?_ <;> (simp only [lnE, put_length] <;> omega)) | (refine ArOk.hid ‹ArOk _ _ _ _ _› ?_ ?_ <;> (simp only [lnE, put_length] <;> omega)) | (refine ArOk.hid0 ‹ArOk _ _ _ _ _› ?_ ?_ <;> (simp only [lnE, put_length] <;> omega)) | ((intro xr hxr; simp [AM.refs, refsF, refsC] at hxr) <;> (simp only [lnE, put_length] <;> omega)) | fail)) only [syA, syB, argFr, D, E, T, C, undefv, eqF, aeq, sheqs, sheq, rdCells, cellsOf, fill, putAt, if_true, if_false, reduceIte, ↓reduceIte, reduceCtorEq, eq_self, Nat.reduceEqDiff, Nat.reduceAdd, Nat.reduceSub, Nat.reduceMul, Nat.reduceLT, Nat.reduceLeDiff, Nat.reducePow, Nat.reduceDiv, Nat.reduceMod, Int.reduceLT, Int.reduceLE, Int.reduceGT, Int.reduceGE, Int.reduceToNat, Int.reducePow, Int.reduceNeg, Int.reduceBEq, Int.reduceBNe, Int.reduceEq, Int.reduceAdd, Int.reduceSub, Int.reduceMul, cellv, sc, flatv, refs, refsF, refsC, syR, Int.le_refl, hF.not0, hF.not1, hF.up0, hF.up1, k0.hr, k0.hq, ac38, hb, hwr, hwq, hid, wk264]
theorem rnext_done (hF : Fit hp.length L H) (k : WkOk hp.length r q w L H A s t z kk ix x) (hb : hp[w]? = some (.cells 0 false (wkC r s x.length t z ix kk x 256 row x.length steps))) :
    Lrun env (.func 37) [wkP w] ⟨put hp r q A, L, H, d⟩ = some (.tuple #[.int .u8 0, .bool false], ⟨put hp r q A, L, H, d⟩) := by
  have hwr := k.wr
  have hwq := k.wq
  have hid := k.hid
  have k0 := k.ok
  rw [Lrun_sym 37 _ _ fn37]
  simp (disch := (first | omega | (simp only [lnE, put_length] <;> omega) | (refine Fit.mono ‹Fit _ _ _› ?_ <;> (simp only [lnE, put_length] <;> omega)) | (refine Fit.draw ‹Fit _ _ _› ?_ ?_ <;> (simp only [lnE, put_length] <;> omega)) | (refine Fit.hid1 ‹Fit _ _ _› ?_ ?_ <;> (simp only [lnE, put_length] <;> omega)) | (refine Fit.draw1 ‹Fit _ _ _› ?_ ?_ ?_ <;> (simp only [lnE, put_length] <;> omega)) | (refine Fit.range0 ?_ ?_ <;> (simp only [lnE, put_length] <;> omega)) | (refine ArOk.mono ‹ArOk _ _ _ _ _› ?_ <;> (simp only [lnE, put_length] <;> omega)) | (refine ArOk.hid ‹ArOk _ _ _ _ _› ?_ ?_ <;> (simp only [lnE, put_length] <;> omega)) | (refine ArOk.hid0 ‹ArOk _ _ _ _ _› ?_ ?_ <;> (simp only [lnE, put_length] <;> omega)) | ((intro xr hxr; simp [AM.refs, refsF, refsC] at hxr) <;> (simp only [lnE, put_length] <;> omega)) | fail)) only [syA, syB, argFr, D, E, T, C, undefv, eqF, aeq, sheqs, sheq, rdCells, cellsOf, fill, putAt, if_true, if_false, reduceIte, ↓reduceIte, reduceCtorEq, eq_self, Nat.reduceEqDiff, Nat.reduceAdd, Nat.reduceSub, Nat.reduceMul, Nat.reduceLT, Nat.reduceLeDiff, Nat.reducePow, Nat.reduceDiv, Nat.reduceMod, Int.reduceLT, Int.reduceLE, Int.reduceGT, Int.reduceGE, Int.reduceToNat, Int.reducePow, Int.reduceNeg, Int.reduceBEq, Int.reduceBNe, Int.reduceEq, Int.reduceAdd, Int.reduceSub, Int.reduceMul, cellv, sc, flatv, refs, refsF, refsC, syR, Int.le_refl, hF.not0, hF.not1, hF.up0, hF.up1, k0.hr, k0.hq, ac37, hb, hwr, hwq, hid, wk264, wk2]
theorem rnext_end (hF : Fit hp.length L H) (k : WkOk hp.length r q w L H A s t z kk ix x) (hb : hp[w]? = some (.cells 0 false (wkC r s x.length t z ix kk x 256 ix told steps))) (ht : told ≠ x.length) :
    Lrun env (.func 37) [wkP w] ⟨put hp r q A, L, H, d⟩ = some (.tuple #[.int .u8 0, .bool false], ⟨put hp r q A, L, H, d⟩) := by
  have hwr := k.wr
  have hwq := k.wq
  have hid := k.hid
  have k0 := k.ok
  have c1 : ¬ (told : Int) = x.length := by omega
  have bn := fun d => behind_none (d := d) hF k hb
  rw [Lrun_sym 37 _ _ fn37]
  simp (disch := (first | omega | (simp only [lnE, put_length] <;> omega) | (refine Fit.mono ‹Fit _ _ _› ?_ <;> (simp only [lnE, put_length] <;> omega)) | (refine Fit.draw ‹Fit _ _ _› ?_ ?_ <;> (simp only [lnE, put_length] <;> omega)) | (refine Fit.hid1 ‹Fit _ _ _› ?_ ?_ <;> (simp only [lnE, put_length] <;> omega)) | (refine Fit.draw1 ‹Fit _ _ _› ?_ ?_ ?_ <;> (simp only [lnE, put_length] <;> omega)) | (refine Fit.range0 ?_ ?_ <;> (simp only [lnE, put_length] <;> omega)) | (refine ArOk.mono ‹ArOk _ _ _ _ _› ?_ <;> (simp only [lnE, put_length] <;> omega)) | (refine ArOk.hid ‹ArOk _ _ _ _ _› ?_ ?_ <;> (simp only [lnE, put_length] <;> omega)) | (refine ArOk.hid0 ‹ArOk _ _ _ _ _› ?_ ?_ <;> (simp only [lnE, put_length] <;> omega)) | ((intro xr hxr; simp [AM.refs, refsF, refsC] at hxr) <;> (simp only [lnE, put_length] <;> omega)) | fail)) only [syA, syB, argFr, D, E, T, C, undefv, eqF, aeq, sheqs, sheq, rdCells, cellsOf, fill, putAt, if_true, if_false, reduceIte, ↓reduceIte, reduceCtorEq, eq_self, Nat.reduceEqDiff, Nat.reduceAdd, Nat.reduceSub, Nat.reduceMul, Nat.reduceLT, Nat.reduceLeDiff, Nat.reducePow, Nat.reduceDiv, Nat.reduceMod, Int.reduceLT, Int.reduceLE, Int.reduceGT, Int.reduceGE, Int.reduceToNat, Int.reducePow, Int.reduceNeg, Int.reduceBEq, Int.reduceBNe, Int.reduceEq, Int.reduceAdd, Int.reduceSub, Int.reduceMul, cellv, sc, flatv, refs, refsF, refsC, syR, Int.le_refl, hF.not0, hF.not1, hF.up0, hF.up1, k0.hr, k0.hq, ac37, hb, hwr, hwq, hid, wk264, wk263, wk2, c1, bn]
theorem rnext_walk (hF : Fit hp.length L H) (k : WkOk hp.length r q w L H A s t z kk ix x) (hb : hp[w]? = some (.cells 0 false (wkC r s x.length t z ix kk x 256 row told steps))) (ht : told < x.length) (hs : steps ≤ 1099511627776) (hp1 : row ≤ x.length) (hne : row ≠ ix) (hx : atR ix row < x.length) :
    Lrun env (.func 37) [wkP w] ⟨put hp r q A, L, H, d⟩ = some (.tuple #[.int .u8 (x[atR ix row] : Nat), .bool true], ⟨put (hp.set w (.cells 0 false (wkC r s x.length t z ix kk x 256 (nxR x ix row) (told + 1) (steps + 1 + atR ix row % kk)))) r q A, L, H, d⟩) := by
  have hwr := k.wr
  have hwq := k.wq
  have hid := k.hid
  have k0 := k.ok
  have hwL : ¬ w < L := by have := k.wL; omega
  have hwn := k.wn
  have hsm := k.small
  have hb2 : ∀ B : Blk, (hp.set w B)[w]? = some B := fun B => List.getElem?_set_self hwn
  have hlen : ∀ B : Blk, (hp.set w B).length = hp.length := fun B => List.length_set
  have c1 : ¬ (told : Int) = x.length := by omega
  have c2 : (told : Int) + 1 = ((told + 1 : Nat) : Int) := by omega
  have bn := fun d => behind_walk (d := d) hF k hb hs hp1 hne hx
  rw [Lrun_sym 37 _ _ fn37]
  simp (disch := (first | omega | (simp only [lnE, put_length] <;> omega) | (refine Fit.mono ‹Fit _ _ _› ?_ <;> (simp only [lnE, put_length] <;> omega)) | (refine Fit.draw ‹Fit _ _ _› ?_ ?_ <;> (simp only [lnE, put_length] <;> omega)) | (refine Fit.hid1 ‹Fit _ _ _› ?_ ?_ <;> (simp only [lnE, put_length] <;> omega)) | (refine Fit.draw1 ‹Fit _ _ _› ?_ ?_ ?_ <;> (simp only [lnE, put_length] <;> omega)) | (refine Fit.range0 ?_ ?_ <;> (simp only [lnE, put_length] <;> omega)) | (refine ArOk.mono ‹ArOk _ _ _ _ _› ?_ <;> (simp only [lnE, put_length] <;> omega)) | (refine ArOk.hid ‹ArOk _ _ _ _ _› ?_ ?_ <;> (simp only [lnE, put_length] <;> omega)) | (refine ArOk.hid0 ‹ArOk _ _ _ _ _› ?_ ?_ <;> (simp only [lnE, put_length] <;> omega)) | ((intro xr hxr; simp [AM.refs, refsF, refsC] at hxr) <;> (simp only [lnE, put_length] <;> omega)) | fail)) only [syA, syB, argFr, D, E, T, C, undefv, eqF, aeq, sheqs, sheq, rdCells, cellsOf, fill, putAt, if_true, if_false, reduceIte, ↓reduceIte, reduceCtorEq, eq_self, Nat.reduceEqDiff, Nat.reduceAdd, Nat.reduceSub, Nat.reduceMul, Nat.reduceLT, Nat.reduceLeDiff, Nat.reducePow, Nat.reduceDiv, Nat.reduceMod, Int.reduceLT, Int.reduceLE, Int.reduceGT, Int.reduceGE, Int.reduceToNat, Int.reducePow, Int.reduceNeg, Int.reduceBEq, Int.reduceBNe, Int.reduceEq, Int.reduceAdd, Int.reduceSub, Int.reduceMul, cellv, sc, flatv, refs, refsF, refsC, syR, Int.le_refl, hF.not0, hF.not1, hF.up0, hF.up1, k0.hr, k0.hq, ac37, hb, hwr, hwq, hid, wk264, wk263, wk2, c1, c2, bn, hwL, hb2, wk_len, wkS263, wkS264, List.set_set]
theorem rvalid_loop {r0 : Nat} (hk : kk ≤ 65536) : ∀ (n i : Nat), i + n = x.length → ∀ (hp : List Blk) (row steps : Nat), Fit hp.length L H → WkOk hp.length r q w L H A s t z kk ix x → hp[w]? = some (.cells 0 false (wkC r s x.length t z ix kk x 256 r0 told steps)) → row ≤ x.length → steps + n * 65536 ≤ 1099511627776 → ∃ e fr,
    Liter env lb35_0 [3, 4, 0, 16, 17] hp.length [(3, .int .i64 row), (4, .func (.func 59) #[wkP w] #[]), (0, wkP w), (16, .int .i64 x.length), (17, .int .i64 i)] ⟨put hp r q A, L, H, []⟩ =
      some (e, fr, ⟨put (hp.set w (.cells 0 false (wkC r s x.length t z ix kk x 256 r0 told (vw (fun a => a % kk) x ix n row steps).2))) r q A, L, H, []⟩) ∧
      match (vw (fun a => a % kk) x ix n row steps).1 with
      | some r' => e = .exit 0 ∧ fr.get 3 = some (.int .i64 (r' : Nat)) ∧ fr.get 0 = some (wkP w)
      | none => e = .ret ∧ fr.get 2 = some (.bool false)
  | 0, i, hn, hp, row, steps, hF, k, hb, hr, hs => by
    obtain rfl : i = x.length := by omega
    have e1 : hp.set w (.cells 0 false (wkC r s x.length t z ix kk x 256 r0 told steps)) = hp := set_same hb
    simp only [vw, e1]
    rw [iter_by lb35_0.eq_1]
    simp (disch := (first | omega | (simp only [lnE, put_length] <;> omega) | (refine Fit.mono ‹Fit _ _ _› ?_ <;> (simp only [lnE, put_length] <;> omega)) | (refine Fit.draw ‹Fit _ _ _› ?_ ?_ <;> (simp only [lnE, put_length] <;> omega)) | (refine Fit.hid1 ‹Fit _ _ _› ?_ ?_ <;> (simp only [lnE, put_length] <;> omega)) | (refine Fit.draw1 ‹Fit _ _ _› ?_ ?_ ?_ <;> (simp only [lnE, put_length] <;> omega)) | (refine Fit.range0 ?_ ?_ <;> (simp only [lnE, put_length] <;> omega)) | (refine ArOk.mono ‹ArOk _ _ _ _ _› ?_ <;> (simp only [lnE, put_length] <;> omega)) | (refine ArOk.hid ‹ArOk _ _ _ _ _› ?_ ?_ <;> (simp only [lnE, put_length] <;> omega)) | (refine ArOk.hid0 ‹ArOk _ _ _ _ _› ?_ ?_ <;> (simp only [lnE, put_length] <;> omega)) | ((intro xr hxr; simp [AM.refs, refsF, refsC] at hxr) <;> (simp only [lnE, put_length] <;> omega)) | fail)) only [syA, syB, argFr, D, E, T, C, undefv, eqF, aeq, sheqs, sheq, rdCells, cellsOf, fill, putAt, if_true, if_false, reduceIte, ↓reduceIte, reduceCtorEq, eq_self, Nat.reduceEqDiff, Nat.reduceAdd, Nat.reduceSub, Nat.reduceMul, Nat.reduceLT, Nat.reduceLeDiff, Nat.reducePow, Nat.reduceDiv, Nat.reduceMod, Int.reduceLT, Int.reduceLE, Int.reduceGT, Int.reduceGE, Int.reduceToNat, Int.reducePow, Int.reduceNeg, Int.reduceBEq, Int.reduceBNe, Int.reduceEq, Int.reduceAdd, Int.reduceSub, Int.reduceMul, cellv, sc, flatv, refs, refsF, refsC, syR, Int.le_refl]
    exact ⟨_, _, rfl, rfl, rfl, rfl⟩
  | n + 1, i, hn, hp, row, steps, hF, k, hb, hr, hs => by
    have hwr := k.wr
    have hwq := k.wq
    have hid := k.hid
    have k0 := k.ok
    have hwn := k.wn
    have hsm := k.small
    have c1 : (i : Int) < x.length := by omega
    by_cases hri : row = ix
    · subst hri
      have e1 : hp.set w (.cells 0 false (wkC r s x.length t z row kk x 256 r0 told steps)) = hp := set_same hb
      have bn := fun d => behind_none (d := d) hF k hb
      simp only [vw, if_true, e1]
      rw [iter_by lb35_0.eq_1]
      simp (disch := (first | omega | (simp only [lnE, put_length] <;> omega) | (refine Fit.mono ‹Fit _ _ _› ?_ <;> (simp only [lnE, put_length] <;> omega)) | (refine Fit.draw ‹Fit _ _ _› ?_ ?_ <;> (simp only [lnE, put_length] <;> omega)) | (refine Fit.hid1 ‹Fit _ _ _› ?_ ?_ <;> (simp only [lnE, put_length] <;> omega)) | (refine Fit.draw1 ‹Fit _ _ _› ?_ ?_ ?_ <;> (simp only [lnE, put_length] <;> omega)) | (refine Fit.range0 ?_ ?_ <;> (simp only [lnE, put_length] <;> omega)) | (refine ArOk.mono ‹ArOk _ _ _ _ _› ?_ <;> (simp only [lnE, put_length] <;> omega)) | (refine ArOk.hid ‹ArOk _ _ _ _ _› ?_ ?_ <;> (simp only [lnE, put_length] <;> omega)) | (refine ArOk.hid0 ‹ArOk _ _ _ _ _› ?_ ?_ <;> (simp only [lnE, put_length] <;> omega)) | ((intro xr hxr; simp [AM.refs, refsF, refsC] at hxr) <;> (simp only [lnE, put_length] <;> omega)) | fail)) only [syA, syB, argFr, D, E, T, C, undefv, eqF, aeq, sheqs, sheq, rdCells, cellsOf, fill, putAt, if_true, if_false, reduceIte, ↓reduceIte, reduceCtorEq, eq_self, Nat.reduceEqDiff, Nat.reduceAdd, Nat.reduceSub, Nat.reduceMul, Nat.reduceLT, Nat.reduceLeDiff, Nat.reducePow, Nat.reduceDiv, Nat.reduceMod, Int.reduceLT, Int.reduceLE, Int.reduceGT, Int.reduceGE, Int.reduceToNat, Int.reducePow, Int.reduceNeg, Int.reduceBEq, Int.reduceBNe, Int.reduceEq, Int.reduceAdd, Int.reduceSub, Int.reduceMul, cellv, sc, flatv, refs, refsF, refsC, syR, Int.le_refl, hF.not0, hF.not1, hF.up0, hF.up1, k0.hr, k0.hq, c1, bn]
      exact ⟨_, _, rfl, rfl, rfl⟩
    · have hx := atR_lt' hr k.ixm hri
      have bn := fun d => behind_walk (d := d) hF k hb (by omega) hr hri hx
      have hmod : atR ix row % kk < kk := Nat.mod_lt _ (by have := k.kk1; omega)
      have hnx := nxR_le hr k.ixm hri
      have hlen : (hp.set w (.cells 0 false (wkC r s x.length t z ix kk x 256 r0 told (steps + 1 + atR ix row % kk)))).length = hp.length := List.length_set
      obtain ⟨e, fr, f1, f2⟩ := rvalid_loop hk n (i + 1) (by omega) (hp.set w (.cells 0 false (wkC r s x.length t z ix kk x 256 r0 told (steps + 1 + atR ix row % kk)))) (nxR x ix row) (steps + 1 + atR ix row % kk) (by rw [hlen]; exact hF) (by rw [hlen]; exact k) (List.getElem?_set_self hwn) hnx (by rw [Nat.add_mul] at hs; omega)
      rw [hlen, List.set_set] at f1
      simp only [Int.natCast_add, Int.natCast_one] at f1
      simp only [vw, if_neg hri]
      rw [iter_by lb35_0.eq_1]
      simp (disch := (first | omega | (simp only [lnE, put_length] <;> omega) | (refine Fit.mono ‹Fit _ _ _› ?_ <;> (simp only [lnE, put_length] <;> omega)) | (refine Fit.draw ‹Fit _ _ _› ?_ ?_ <;> (simp only [lnE, put_length] <;> omega)) | (refine Fit.hid1 ‹Fit _ _ _› ?_ ?_ <;> (simp only [lnE, put_length] <;> omega)) | (refine Fit.draw1 ‹Fit _ _ _› ?_ ?_ ?_ <;> (simp only [lnE, put_length] <;> omega)) | (refine Fit.range0 ?_ ?_ <;> (simp only [lnE, put_length] <;> omega)) | (refine ArOk.mono ‹ArOk _ _ _ _ _› ?_ <;> (simp only [lnE, put_length] <;> omega)) | (refine ArOk.hid ‹ArOk _ _ _ _ _› ?_ ?_ <;> (simp only [lnE, put_length] <;> omega)) | (refine ArOk.hid0 ‹ArOk _ _ _ _ _› ?_ ?_ <;> (simp only [lnE, put_length] <;> omega)) | ((intro xr hxr; simp [AM.refs, refsF, refsC] at hxr) <;> (simp only [lnE, put_length] <;> omega)) | fail)) only [syA, syB, argFr, D, E, T, C, undefv, eqF, aeq, sheqs, sheq, rdCells, cellsOf, fill, putAt, if_true, if_false, reduceIte, ↓reduceIte, reduceCtorEq, eq_self, Nat.reduceEqDiff, Nat.reduceAdd, Nat.reduceSub, Nat.reduceMul, Nat.reduceLT, Nat.reduceLeDiff, Nat.reducePow, Nat.reduceDiv, Nat.reduceMod, Int.reduceLT, Int.reduceLE, Int.reduceGT, Int.reduceGE, Int.reduceToNat, Int.reducePow, Int.reduceNeg, Int.reduceBEq, Int.reduceBNe, Int.reduceEq, Int.reduceAdd, Int.reduceSub, Int.reduceMul, cellv, sc, flatv, refs, refsF, refsC, syR, Int.le_refl, hF.not0, hF.not1, hF.up0, hF.up1, k0.hr, k0.hq, c1, bn, f1]
      exact ⟨e, fr, rfl, f2⟩
theorem rwvalid_walk {r0 : Nat} (hF : Fit hp.length L H) (k : WkOk hp.length r q w L H A s t z kk ix x) (hb : hp[w]? = some (.cells 0 false (wkC r s x.length t z ix kk x 256 r0 told steps))) (hk : kk ≤ 65536) (hs : steps + x.length * 65536 ≤ 1099511627776) :
    Lrun env (.func 35) [wkP w] ⟨put hp r q A, L, H, d⟩ = some (.bool (decide ((vw (fun a => a % kk) x ix x.length 0 steps).1 = some ix)), ⟨put (hp.set w (.cells 0 false (wkC r s x.length t z ix kk x 256 r0 told (vw (fun a => a % kk) x ix x.length 0 steps).2))) r q A, L, H, d⟩) := by
  have hwr := k.wr
  have hwq := k.wq
  have hid := k.hid
  have k0 := k.ok
  have hwn := k.wn
  obtain ⟨e, fr, f1, f2⟩ := rvalid_loop (r0 := r0) (told := told) hk x.length 0 (by omega) hp 0 steps hF k hb (Nat.zero_le _) hs
  have hb2 : ∀ B : Blk, (hp.set w B)[w]? = some B := fun B => List.getElem?_set_self hwn
  generalize vw (fun a => a % kk) x ix x.length 0 steps = V at *
  obtain ⟨V1, V2⟩ := V
  simp only [Int.natCast_zero] at f1
  rw [Lrun_sym 35 _ _ fn35]
  cases V1 with
  | none =>
    obtain ⟨rfl, f2⟩ := f2
    simp (disch := (first | omega | (simp only [lnE, put_length] <;> omega) | (refine Fit.mono ‹Fit _ _ _› ?_ <;> (simp only [lnE, put_length] <;> omega)) | (refine Fit.draw ‹Fit _ _ _› ?_ ?_ <;> (simp only [lnE, put_length] <;> omega)) | (refine Fit.hid1 ‹Fit _ _ _› ?_ ?_ <;> (simp only [lnE, put_length] <;> omega)) | (refine Fit.draw1 ‹Fit _ _ _› ?_ ?_ ?_ <;> (simp only [lnE, put_length] <;> omega)) | (refine Fit.range0 ?_ ?_ <;> (simp only [lnE, put_length] <;> omega)) | (refine ArOk.mono ‹ArOk _ _ _ _ _› ?_ <;> (simp only [lnE, put_length] <;> omega)) | (refine ArOk.hid ‹ArOk _ _ _ _ _› ?_ ?_ <;> (simp only [lnE, put_length] <;> omega)) | (refine ArOk.hid0 ‹ArOk _ _ _ _ _› ?_ ?_ <;> (simp only [lnE, put_length] <;> omega)) | ((intro xr hxr; simp [AM.refs, refsF, refsC] at hxr) <;> (simp only [lnE, put_length] <;> omega)) | fail)) only [syA, syB, argFr, D, E, T, C, undefv, eqF, aeq, sheqs, sheq, rdCells, cellsOf, fill, putAt, if_true, if_false, reduceIte, ↓reduceIte, reduceCtorEq, eq_self, Nat.reduceEqDiff, Nat.reduceAdd, Nat.reduceSub, Nat.reduceMul, Nat.reduceLT, Nat.reduceLeDiff, Nat.reducePow, Nat.reduceDiv, Nat.reduceMod, Int.reduceLT, Int.reduceLE, Int.reduceGT, Int.reduceGE, Int.reduceToNat, Int.reducePow, Int.reduceNeg, Int.reduceBEq, Int.reduceBNe, Int.reduceEq, Int.reduceAdd, Int.reduceSub, Int.reduceMul, cellv, sc, flatv, refs, refsF, refsC, syR, Int.le_refl, hF.not0, hF.not1, hF.up0, hF.up1, k0.hr, k0.hq, ac35, hb, hwr, hwq, hid, wk2, f1, f2]
  | some r' =>
    obtain ⟨rfl, f2, f3⟩ := f2
    simp (disch := (first | omega | (simp only [lnE, put_length] <;> omega) | (refine Fit.mono ‹Fit _ _ _› ?_ <;> (simp only [lnE, put_length] <;> omega)) | (refine Fit.draw ‹Fit _ _ _› ?_ ?_ <;> (simp only [lnE, put_length] <;> omega)) | (refine Fit.hid1 ‹Fit _ _ _› ?_ ?_ <;> (simp only [lnE, put_length] <;> omega)) | (refine Fit.draw1 ‹Fit _ _ _› ?_ ?_ ?_ <;> (simp only [lnE, put_length] <;> omega)) | (refine Fit.range0 ?_ ?_ <;> (simp only [lnE, put_length] <;> omega)) | (refine ArOk.mono ‹ArOk _ _ _ _ _› ?_ <;> (simp only [lnE, put_length] <;> omega)) | (refine ArOk.hid ‹ArOk _ _ _ _ _› ?_ ?_ <;> (simp only [lnE, put_length] <;> omega)) | (refine ArOk.hid0 ‹ArOk _ _ _ _ _› ?_ ?_ <;> (simp only [lnE, put_length] <;> omega)) | ((intro xr hxr; simp [AM.refs, refsF, refsC] at hxr) <;> (simp only [lnE, put_length] <;> omega)) | fail)) only [syA, syB, argFr, D, E, T, C, undefv, eqF, aeq, sheqs, sheq, rdCells, cellsOf, fill, putAt, if_true, if_false, reduceIte, ↓reduceIte, reduceCtorEq, eq_self, Nat.reduceEqDiff, Nat.reduceAdd, Nat.reduceSub, Nat.reduceMul, Nat.reduceLT, Nat.reduceLeDiff, Nat.reducePow, Nat.reduceDiv, Nat.reduceMod, Int.reduceLT, Int.reduceLE, Int.reduceGT, Int.reduceGE, Int.reduceToNat, Int.reducePow, Int.reduceNeg, Int.reduceBEq, Int.reduceBNe, Int.reduceEq, Int.reduceAdd, Int.reduceSub, Int.reduceMul, cellv, sc, flatv, refs, refsF, refsC, syR, Int.le_refl, hF.not0, hF.not1, hF.up0, hF.up1, k0.hr, k0.hq, ac35, hb, hb2, hwr, hwq, hid, wk2, wk5, f1, f2, f3]
    have hbe : (((r' : Nat) : Int) == ((ix : Nat) : Int)) = decide (r' = ix) := by rw [Bool.eq_iff_iff]; simp; omega
    simp only [Option.some.injEq, hbe]
end
end ArA
end Go.Proofs.Ytlbdgbfblgjjgaa
