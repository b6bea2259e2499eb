/-
  THE WAY BACK: walk of the reference's Next. Conditions: none.
-/
import Derived.Test.YtlbdgbfblgjjgaaWkPlain
import Derived.Test.YtlbdgbfblgjjgaaSufTurn
set_option linter.all false
namespace Go.Proofs.Ytlbdgbfblgjjgaa
namespace ArA
open Go Go.RowKit AM ArEnv
section
variable {L : Nat} {H d : List Nat}
theorem nx17_bad {hq : List Blk} (hF : Fit hq.length L H) {v : Value} {x : List Nat} (hr : Rd ⟨hq, L, H, []⟩ v x) (ix row : Int) (h : ix < 0 ∨ ix > x.length ∨ row < 0 ∨ row > x.length ∨ row = ix) :
    Lrun env (.func 31) [v, .int .i64 ix, .int .i64 row] ⟨hq, L, H, d⟩ = some (.tuple #[.int .i64 0, .int .u8 0, .bool false], ⟨hq, L, H, d⟩) := by
  have hlen := hr.lenF
  rw [Lrun_sym 31 _ _ fn31]
  by_cases h1 : ix < 0
  · simp (disch := (first | omega | (simp only [lnE] <;> omega) | (refine Fit.mono ‹Fit _ _ _› ?_ <;> (simp only [lnE] <;> omega)) | (refine Fit.draw ‹Fit _ _ _› ?_ ?_ <;> (simp only [lnE] <;> omega)) | (refine Fit.hid1 ‹Fit _ _ _› ?_ ?_ <;> (simp only [lnE] <;> omega)) | (refine Fit.draw1 ‹Fit _ _ _› ?_ ?_ ?_ <;> (simp only [lnE] <;> omega)) | (refine Fit.range0 ?_ ?_ <;> (simp only [lnE] <;> omega)) | fail)) only [syA, syB, argFr, D, E, T, C, undefv, eqF, aeq, sheqs, sheq, rdCells, cellsOf, fill, putAt, if_true, if_false, reduceIte, ↓reduceIte, reduceCtorEq, eq_self, Nat.reduceEqDiff, Nat.reduceAdd, Nat.reduceSub, Nat.reduceMul, Nat.reduceLT, Nat.reduceLeDiff, Nat.reducePow, Nat.reduceDiv, Nat.reduceMod, Int.reduceLT, Int.reduceLE, Int.reduceGT, Int.reduceGE, Int.reduceToNat, Int.reducePow, Int.reduceNeg, Int.reduceBEq, Int.reduceBNe, Int.reduceEq, Int.reduceAdd, Int.reduceSub, Int.reduceMul, cellv, sc, flatv, refs, refsF, refsC, hF.not0, hF.not1, hF.up0, hF.up1, ac31, hlen, h1]
  by_cases h2 : ix > x.length
  · simp (disch := (first | omega | (simp only [lnE] <;> omega) | (refine Fit.mono ‹Fit _ _ _› ?_ <;> (simp only [lnE] <;> omega)) | (refine Fit.draw ‹Fit _ _ _› ?_ ?_ <;> (simp only [lnE] <;> omega)) | (refine Fit.hid1 ‹Fit _ _ _› ?_ ?_ <;> (simp only [lnE] <;> omega)) | (refine Fit.draw1 ‹Fit _ _ _› ?_ ?_ ?_ <;> (simp only [lnE] <;> omega)) | (refine Fit.range0 ?_ ?_ <;> (simp only [lnE] <;> omega)) | fail)) only [syA, syB, argFr, D, E, T, C, undefv, eqF, aeq, sheqs, sheq, rdCells, cellsOf, fill, putAt, if_true, if_false, reduceIte, ↓reduceIte, reduceCtorEq, eq_self, Nat.reduceEqDiff, Nat.reduceAdd, Nat.reduceSub, Nat.reduceMul, Nat.reduceLT, Nat.reduceLeDiff, Nat.reducePow, Nat.reduceDiv, Nat.reduceMod, Int.reduceLT, Int.reduceLE, Int.reduceGT, Int.reduceGE, Int.reduceToNat, Int.reducePow, Int.reduceNeg, Int.reduceBEq, Int.reduceBNe, Int.reduceEq, Int.reduceAdd, Int.reduceSub, Int.reduceMul, cellv, sc, flatv, refs, refsF, refsC, hF.not0, hF.not1, hF.up0, hF.up1, ac31, hlen, h1, h2]
  by_cases h3 : row < 0
  · simp (disch := (first | omega | (simp only [lnE] <;> omega) | (refine Fit.mono ‹Fit _ _ _› ?_ <;> (simp only [lnE] <;> omega)) | (refine Fit.draw ‹Fit _ _ _› ?_ ?_ <;> (simp only [lnE] <;> omega)) | (refine Fit.hid1 ‹Fit _ _ _› ?_ ?_ <;> (simp only [lnE] <;> omega)) | (refine Fit.draw1 ‹Fit _ _ _› ?_ ?_ ?_ <;> (simp only [lnE] <;> omega)) | (refine Fit.range0 ?_ ?_ <;> (simp only [lnE] <;> omega)) | fail)) only [syA, syB, argFr, D, E, T, C, undefv, eqF, aeq, sheqs, sheq, rdCells, cellsOf, fill, putAt, if_true, if_false, reduceIte, ↓reduceIte, reduceCtorEq, eq_self, Nat.reduceEqDiff, Nat.reduceAdd, Nat.reduceSub, Nat.reduceMul, Nat.reduceLT, Nat.reduceLeDiff, Nat.reducePow, Nat.reduceDiv, Nat.reduceMod, Int.reduceLT, Int.reduceLE, Int.reduceGT, Int.reduceGE, Int.reduceToNat, Int.reducePow, Int.reduceNeg, Int.reduceBEq, Int.reduceBNe, Int.reduceEq, Int.reduceAdd, Int.reduceSub, Int.reduceMul, cellv, sc, flatv, refs, refsF, refsC, hF.not0, hF.not1, hF.up0, hF.up1, ac31, hlen, h1, h2, h3]
  by_cases h4 : row > x.length
  · simp (disch := (first | omega | (simp only [lnE] <;> omega) | (refine Fit.mono ‹Fit _ _ _› ?_ <;> (simp only [lnE] <;> omega)) | (refine Fit.draw ‹Fit _ _ _› ?_ ?_ <;> (simp only [lnE] <;> omega)) | (refine Fit.hid1 ‹Fit _ _ _› ?_ ?_ <;> (simp only [lnE] <;> omega)) | (refine Fit.draw1 ‹Fit _ _ _› ?_ ?_ ?_ <;> (simp only [lnE] <;> omega)) | (refine Fit.range0 ?_ ?_ <;> (simp only [lnE] <;> omega)) | fail)) only [syA, syB, argFr, D, E, T, C, undefv, eqF, aeq, sheqs, sheq, rdCells, cellsOf, fill, putAt, if_true, if_false, reduceIte, ↓reduceIte, reduceCtorEq, eq_self, Nat.reduceEqDiff, Nat.reduceAdd, Nat.reduceSub, Nat.reduceMul, Nat.reduceLT, Nat.reduceLeDiff, Nat.reducePow, Nat.reduceDiv, Nat.reduceMod, Int.reduceLT, Int.reduceLE, Int.reduceGT, Int.reduceGE, Int.reduceToNat, Int.reducePow, Int.reduceNeg, Int.reduceBEq, Int.reduceBNe, Int.reduceEq, Int.reduceAdd, Int.reduceSub, Int.reduceMul, cellv, sc, flatv, refs, refsF, refsC, hF.not0, hF.not1, hF.up0, hF.up1, ac31, hlen, h1, h2, h3, h4]
  have h5 : row = ix := by omega
  simp (disch := (first | omega | (simp only [lnE] <;> omega) | (refine Fit.mono ‹Fit _ _ _› ?_ <;> (simp only [lnE] <;> omega)) | (refine Fit.draw ‹Fit _ _ _› ?_ ?_ <;> (simp only [lnE] <;> omega)) | (refine Fit.hid1 ‹Fit _ _ _› ?_ ?_ <;> (simp only [lnE] <;> omega)) | (refine Fit.draw1 ‹Fit _ _ _› ?_ ?_ ?_ <;> (simp only [lnE] <;> omega)) | (refine Fit.range0 ?_ ?_ <;> (simp only [lnE] <;> omega)) | fail)) only [syA, syB, argFr, D, E, T, C, undefv, eqF, aeq, sheqs, sheq, rdCells, cellsOf, fill, putAt, if_true, if_false, reduceIte, ↓reduceIte, reduceCtorEq, eq_self, Nat.reduceEqDiff, Nat.reduceAdd, Nat.reduceSub, Nat.reduceMul, Nat.reduceLT, Nat.reduceLeDiff, Nat.reducePow, Nat.reduceDiv, Nat.reduceMod, Int.reduceLT, Int.reduceLE, Int.reduceGT, Int.reduceGE, Int.reduceToNat, Int.reducePow, Int.reduceNeg, Int.reduceBEq, Int.reduceBNe, Int.reduceEq, Int.reduceAdd, Int.reduceSub, Int.reduceMul, cellv, sc, flatv, refs, refsF, refsC, hF.not0, hF.not1, hF.up0, hF.up1, ac31, hlen, h1, h2, h3, h4, h5]
theorem nx17_loop {hq : List Blk} (hF : Fit hq.length L H) {a : Option Addr} {e : Nat} {x : List Nat} (hr : Rd ⟨hq, L, H, []⟩ (.slice a x.length e) x) (hm : x.length ≤ 1048576) {p : Nat} (hp : p < x.length) : ∀ n i : Nat, i + n = x.length → ∃ fr,
    Liter env lb31_0 [10, 11, 0, 9] hq.length [(10, .int .i64 ((1 + (less x[p] (x.take i) + same x[p] (x.take (min i p))) : Nat) : Int)), (11, .int .i64 i), (0, .slice a x.length e), (9, .int .i64 p)] ⟨hq, L, H, []⟩ =
      some (.exit 0, fr, ⟨hq, L, H, []⟩) ∧ fr.get 10 = some (.int .i64 ((1 + (less x[p] x + same x[p] (x.take p)) : Nat) : Int)) ∧ fr.get 0 = some (.slice a x.length e) ∧ fr.get 9 = some (.int .i64 p)
  | 0, i, hi => by
    obtain rfl : i = x.length := by omega
    rw [iter_by lb31_0.eq_1, List.take_length, Nat.min_eq_right (by omega)]
    simp (disch := (first | omega | (simp only [lnE] <;> omega) | (refine Fit.mono ‹Fit _ _ _› ?_ <;> (simp only [lnE] <;> omega)) | (refine Fit.draw ‹Fit _ _ _› ?_ ?_ <;> (simp only [lnE] <;> omega)) | (refine Fit.hid1 ‹Fit _ _ _› ?_ ?_ <;> (simp only [lnE] <;> omega)) | (refine Fit.draw1 ‹Fit _ _ _› ?_ ?_ ?_ <;> (simp only [lnE] <;> omega)) | (refine Fit.range0 ?_ ?_ <;> (simp only [lnE] <;> omega)) | fail)) only [syA, syB, argFr, D, E, T, C, undefv, eqF, aeq, sheqs, sheq, rdCells, cellsOf, fill, putAt, if_true, if_false, reduceIte, ↓reduceIte, reduceCtorEq, eq_self, Nat.reduceEqDiff, Nat.reduceAdd, Nat.reduceSub, Nat.reduceMul, Nat.reduceLT, Nat.reduceLeDiff, Nat.reducePow, Nat.reduceDiv, Nat.reduceMod, Int.reduceLT, Int.reduceLE, Int.reduceGT, Int.reduceGE, Int.reduceToNat, Int.reducePow, Int.reduceNeg, Int.reduceBEq, Int.reduceBNe, Int.reduceEq, Int.reduceAdd, Int.reduceSub, Int.reduceMul, cellv, sc, flatv, refs, refsF, refsC, hF.not0, hF.not1, hF.up0, hF.up1]
    exact ⟨_, rfl, rfl, rfl, rfl⟩
  | n + 1, i, hi => by
    have hix : i < x.length := by omega
    obtain ⟨fr, f1, f2⟩ := nx17_loop hF hr hm hp n (i + 1) (by omega)
    obtain ⟨b, o, g, pl, cs, rfl, _, hh, hb, hc1⟩ := hr.at_ hix
    obtain ⟨_, _, _, _, _, he, _, _, hb', hc2⟩ := hr.at_ hp
    simp only [Option.some.injEq, Addr.mk.injEq] at he
    obtain ⟨rfl, rfl, rfl⟩ := he
    simp only [] at hb hb' hh
    rw [hb] at hb'
    simp only [Option.some.injEq, Blk.cells.injEq, true_and] at hb'
    obtain ⟨rfl, rfl⟩ := hb'
    have c1 : (i : Int) < x.length := by omega
    have c2 : 0 ≤ (i : Int) ∧ (i : Int) < x.length := by omega
    have c3 : 0 ≤ (p : Int) ∧ (p : Int) < x.length := by omega
    have t1 : x.take (i + 1) = x.take i ++ [x[i]] := by rw [List.take_add_one, List.getElem?_eq_getElem hix]; rfl
    have l1 : less x[p] (x.take (i + 1)) = less x[p] (x.take i) + if x[i] < x[p] then 1 else 0 := by rw [t1, less_app]; simp [less]
    have l2 : same x[p] (x.take (min (i + 1) p)) = same x[p] (x.take (min i p)) + if i < p ∧ x[i] = x[p] then 1 else 0 := by
      by_cases h : i < p
      · rw [Nat.min_eq_left (by omega), Nat.min_eq_left (by omega), t1, same_app]; simp [same, h]
      · rw [Nat.min_eq_right (by omega), Nat.min_eq_right (by omega)]; simp [h]
    rw [l1, l2] at f1
    have lb1 : less x[p] (x.take i) ≤ 1048576 := by have := less_same x[p] (x.take i); have h2 := List.length_take_le i x; have := List.length_take_le' i x; omega
    have lb2 : same x[p] (x.take (min i p)) ≤ 1048576 := by have := same_le x[p] (x.take (min i p)); have := List.length_take_le' (min i p) x; omega
    generalize hX : x[p] = X at *
    generalize hY : x[i] = Y at *
    generalize less X (x.take i) = l at *
    generalize same X (x.take (min i p)) = s at *
    have ir1 : ((i : Nat) : Int) + 1 = ((i + 1 : Nat) : Int) := by omega
    rw [iter_by lb31_0.eq_1]
    rcases Nat.lt_trichotomy Y X with h | h | h
    · have h1 : (Y : Int) < X := by omega
      have h2 : ¬ Y = X := by omega
      rw [if_pos h, if_neg (by simp [h2])] at f1
      have ir2 : ((1 + (l + s) : Nat) : Int) + 1 = ((1 + (l + 1 + (s + 0)) : Nat) : Int) := by omega
      simp (disch := (first | omega | (simp only [lnE] <;> omega) | (refine Fit.mono ‹Fit _ _ _› ?_ <;> (simp only [lnE] <;> omega)) | (refine Fit.draw ‹Fit _ _ _› ?_ ?_ <;> (simp only [lnE] <;> omega)) | (refine Fit.hid1 ‹Fit _ _ _› ?_ ?_ <;> (simp only [lnE] <;> omega)) | (refine Fit.draw1 ‹Fit _ _ _› ?_ ?_ ?_ <;> (simp only [lnE] <;> omega)) | (refine Fit.range0 ?_ ?_ <;> (simp only [lnE] <;> omega)) | fail)) only [syA, syB, argFr, D, E, T, C, undefv, eqF, aeq, sheqs, sheq, rdCells, cellsOf, fill, putAt, if_true, if_false, reduceIte, ↓reduceIte, reduceCtorEq, eq_self, Nat.reduceEqDiff, Nat.reduceAdd, Nat.reduceSub, Nat.reduceMul, Nat.reduceLT, Nat.reduceLeDiff, Nat.reducePow, Nat.reduceDiv, Nat.reduceMod, Int.reduceLT, Int.reduceLE, Int.reduceGT, Int.reduceGE, Int.reduceToNat, Int.reducePow, Int.reduceNeg, Int.reduceBEq, Int.reduceBNe, Int.reduceEq, Int.reduceAdd, Int.reduceSub, Int.reduceMul, cellv, sc, flatv, refs, refsF, refsC, hF.not0, hF.not1, hF.up0, hF.up1, c1, c2, c3, hb, hh, hc1, hc2, h1, ir1, ir2, f1]
      exact ⟨fr, f1, f2⟩
    · subst h
      have h1 : ¬ (Y : Int) < Y := by omega
      rw [if_neg (by omega)] at f1
      by_cases h3 : i < p
      · have h4 : (i : Int) < p := by omega
        rw [if_pos ⟨h3, rfl⟩] at f1
        have ir2 : ((1 + (l + s) : Nat) : Int) + 1 = ((1 + (l + 0 + (s + 1)) : Nat) : Int) := by omega
        simp (disch := (first | omega | (simp only [lnE] <;> omega) | (refine Fit.mono ‹Fit _ _ _› ?_ <;> (simp only [lnE] <;> omega)) | (refine Fit.draw ‹Fit _ _ _› ?_ ?_ <;> (simp only [lnE] <;> omega)) | (refine Fit.hid1 ‹Fit _ _ _› ?_ ?_ <;> (simp only [lnE] <;> omega)) | (refine Fit.draw1 ‹Fit _ _ _› ?_ ?_ ?_ <;> (simp only [lnE] <;> omega)) | (refine Fit.range0 ?_ ?_ <;> (simp only [lnE] <;> omega)) | fail)) only [syA, syB, argFr, D, E, T, C, undefv, eqF, aeq, sheqs, sheq, rdCells, cellsOf, fill, putAt, if_true, if_false, reduceIte, ↓reduceIte, reduceCtorEq, eq_self, Nat.reduceEqDiff, Nat.reduceAdd, Nat.reduceSub, Nat.reduceMul, Nat.reduceLT, Nat.reduceLeDiff, Nat.reducePow, Nat.reduceDiv, Nat.reduceMod, Int.reduceLT, Int.reduceLE, Int.reduceGT, Int.reduceGE, Int.reduceToNat, Int.reducePow, Int.reduceNeg, Int.reduceBEq, Int.reduceBNe, Int.reduceEq, Int.reduceAdd, Int.reduceSub, Int.reduceMul, cellv, sc, flatv, refs, refsF, refsC, hF.not0, hF.not1, hF.up0, hF.up1, c1, c2, c3, hb, hh, hc1, hc2, h1, h4, ir1, ir2, f1]
        exact ⟨fr, f1, f2⟩
      · have h4 : ¬ (i : Int) < p := by omega
        rw [if_neg (by simp [h3])] at f1
        simp only [Nat.add_zero] at f1
        simp (disch := (first | omega | (simp only [lnE] <;> omega) | (refine Fit.mono ‹Fit _ _ _› ?_ <;> (simp only [lnE] <;> omega)) | (refine Fit.draw ‹Fit _ _ _› ?_ ?_ <;> (simp only [lnE] <;> omega)) | (refine Fit.hid1 ‹Fit _ _ _› ?_ ?_ <;> (simp only [lnE] <;> omega)) | (refine Fit.draw1 ‹Fit _ _ _› ?_ ?_ ?_ <;> (simp only [lnE] <;> omega)) | (refine Fit.range0 ?_ ?_ <;> (simp only [lnE] <;> omega)) | fail)) only [syA, syB, argFr, D, E, T, C, undefv, eqF, aeq, sheqs, sheq, rdCells, cellsOf, fill, putAt, if_true, if_false, reduceIte, ↓reduceIte, reduceCtorEq, eq_self, Nat.reduceEqDiff, Nat.reduceAdd, Nat.reduceSub, Nat.reduceMul, Nat.reduceLT, Nat.reduceLeDiff, Nat.reducePow, Nat.reduceDiv, Nat.reduceMod, Int.reduceLT, Int.reduceLE, Int.reduceGT, Int.reduceGE, Int.reduceToNat, Int.reducePow, Int.reduceNeg, Int.reduceBEq, Int.reduceBNe, Int.reduceEq, Int.reduceAdd, Int.reduceSub, Int.reduceMul, cellv, sc, flatv, refs, refsF, refsC, hF.not0, hF.not1, hF.up0, hF.up1, c1, c2, c3, hb, hh, hc1, hc2, h1, h4, ir1, f1]
        exact ⟨fr, rfl, f2⟩
    · have h1 : ¬ (Y : Int) < X := by omega
      have h2 : ((Y : Int) == X) = false := by rw [beq_eq_false_iff_ne]; omega
      have h3 : ¬ Y = X := by omega
      rw [if_neg (by omega), if_neg (by simp [h3])] at f1
      simp only [Nat.add_zero] at f1
      simp (disch := (first | omega | (simp only [lnE] <;> omega) | (refine Fit.mono ‹Fit _ _ _› ?_ <;> (simp only [lnE] <;> omega)) | (refine Fit.draw ‹Fit _ _ _› ?_ ?_ <;> (simp only [lnE] <;> omega)) | (refine Fit.hid1 ‹Fit _ _ _› ?_ ?_ <;> (simp only [lnE] <;> omega)) | (refine Fit.draw1 ‹Fit _ _ _› ?_ ?_ ?_ <;> (simp only [lnE] <;> omega)) | (refine Fit.range0 ?_ ?_ <;> (simp only [lnE] <;> omega)) | fail)) only [syA, syB, argFr, D, E, T, C, undefv, eqF, aeq, sheqs, sheq, rdCells, cellsOf, fill, putAt, if_true, if_false, reduceIte, ↓reduceIte, reduceCtorEq, eq_self, Nat.reduceEqDiff, Nat.reduceAdd, Nat.reduceSub, Nat.reduceMul, Nat.reduceLT, Nat.reduceLeDiff, Nat.reducePow, Nat.reduceDiv, Nat.reduceMod, Int.reduceLT, Int.reduceLE, Int.reduceGT, Int.reduceGE, Int.reduceToNat, Int.reducePow, Int.reduceNeg, Int.reduceBEq, Int.reduceBNe, Int.reduceEq, Int.reduceAdd, Int.reduceSub, Int.reduceMul, cellv, sc, flatv, refs, refsF, refsC, hF.not0, hF.not1, hF.up0, hF.up1, c1, c2, c3, hb, hh, hc1, hc2, h1, h2, ir1, f1]
      exact ⟨fr, rfl, f2⟩
theorem nx17_walk {hq : List Blk} (hF : Fit hq.length L H) {v : Value} {x : List Nat} (hr : Rd ⟨hq, L, H, []⟩ v x) (hm : x.length ≤ 1048576) {ix row : Nat} (h1 : ix ≤ x.length) (h2 : row ≤ x.length) (h3 : row ≠ ix) (hx : atR ix row < x.length) :
    Lrun env (.func 31) [v, .int .i64 ix, .int .i64 row] ⟨hq, L, H, d⟩ = some (.tuple #[.int .i64 (nxR x ix row : Nat), .int .u8 (x[atR ix row] : Nat), .bool true], ⟨hq, L, H, d⟩) := by
  have hlen := hr.lenF
  obtain ⟨a, e, rfl⟩ := hr.len
  obtain ⟨fr, f1, f2, f3, f4⟩ := nx17_loop hF hr hm hx x.length 0 (by omega)
  rw [nxR_eq hx]
  obtain ⟨b, o, g, pl, cs, rfl, _, hh, hb, hc1⟩ := hr.at_ hx
  simp only [] at hb hh
  have z1 : less x[atR ix row] (x.take 0) = 0 := rfl
  have z2 : same x[atR ix row] (x.take (min 0 (atR ix row))) = 0 := by rw [Nat.zero_min]; rfl
  rw [z1, z2] at f1
  have hb256 := hr.by_.get hx
  have c1 : ¬ (ix : Int) > x.length := by omega
  have c2 : ¬ (row : Int) > x.length := by omega
  have c3 : ((row : Int) == ix) = false := by rw [beq_eq_false_iff_ne]; omega
  have c4 : 0 ≤ ((atR ix row : Nat) : Int) ∧ ((atR ix row : Nat) : Int) < x.length := by omega
  have c0 : ¬ (ix : Int) < 0 := by omega
  have c0' : ¬ (row : Int) < 0 := by omega
  simp only [Int.natCast_zero, Nat.add_zero, Int.natCast_one] at f1
  rw [Lrun_sym 31 _ _ fn31]
  by_cases c5 : row > ix
  · have c6 : (row : Int) > ix := by omega
    have c7 : (row : Int) - 1 = (atR ix row : Nat) := by have : atR ix row = row - 1 := if_neg (by omega)
                                                         omega
    generalize atR ix row = p at *
    simp (disch := (first | omega | (simp only [lnE] <;> omega) | (refine Fit.mono ‹Fit _ _ _› ?_ <;> (simp only [lnE] <;> omega)) | (refine Fit.draw ‹Fit _ _ _› ?_ ?_ <;> (simp only [lnE] <;> omega)) | (refine Fit.hid1 ‹Fit _ _ _› ?_ ?_ <;> (simp only [lnE] <;> omega)) | (refine Fit.draw1 ‹Fit _ _ _› ?_ ?_ ?_ <;> (simp only [lnE] <;> omega)) | (refine Fit.range0 ?_ ?_ <;> (simp only [lnE] <;> omega)) | fail)) only [syA, syB, argFr, D, E, T, C, undefv, eqF, aeq, sheqs, sheq, rdCells, cellsOf, fill, putAt, if_true, if_false, reduceIte, ↓reduceIte, reduceCtorEq, eq_self, Nat.reduceEqDiff, Nat.reduceAdd, Nat.reduceSub, Nat.reduceMul, Nat.reduceLT, Nat.reduceLeDiff, Nat.reducePow, Nat.reduceDiv, Nat.reduceMod, Int.reduceLT, Int.reduceLE, Int.reduceGT, Int.reduceGE, Int.reduceToNat, Int.reducePow, Int.reduceNeg, Int.reduceBEq, Int.reduceBNe, Int.reduceEq, Int.reduceAdd, Int.reduceSub, Int.reduceMul, cellv, sc, flatv, refs, refsF, refsC, hF.not0, hF.not1, hF.up0, hF.up1, ac31, hlen, c0, c0', c1, c2, c3, c4, c6, c7, f1, f2, f3, f4, hb, hh, hc1]
  · have c6 : ¬ (row : Int) > ix := by omega
    have c7 : atR ix row = row := if_pos (by omega)
    generalize hp : atR ix row = p at *
    subst c7
    simp (disch := (first | omega | (simp only [lnE] <;> omega) | (refine Fit.mono ‹Fit _ _ _› ?_ <;> (simp only [lnE] <;> omega)) | (refine Fit.draw ‹Fit _ _ _› ?_ ?_ <;> (simp only [lnE] <;> omega)) | (refine Fit.hid1 ‹Fit _ _ _› ?_ ?_ <;> (simp only [lnE] <;> omega)) | (refine Fit.draw1 ‹Fit _ _ _› ?_ ?_ ?_ <;> (simp only [lnE] <;> omega)) | (refine Fit.range0 ?_ ?_ <;> (simp only [lnE] <;> omega)) | fail)) only [syA, syB, argFr, D, E, T, C, undefv, eqF, aeq, sheqs, sheq, rdCells, cellsOf, fill, putAt, if_true, if_false, reduceIte, ↓reduceIte, reduceCtorEq, eq_self, Nat.reduceEqDiff, Nat.reduceAdd, Nat.reduceSub, Nat.reduceMul, Nat.reduceLT, Nat.reduceLeDiff, Nat.reducePow, Nat.reduceDiv, Nat.reduceMod, Int.reduceLT, Int.reduceLE, Int.reduceGT, Int.reduceGE, Int.reduceToNat, Int.reducePow, Int.reduceNeg, Int.reduceBEq, Int.reduceBNe, Int.reduceEq, Int.reduceAdd, Int.reduceSub, Int.reduceMul, cellv, sc, flatv, refs, refsF, refsC, hF.not0, hF.not1, hF.up0, hF.up1, ac31, hlen, c0, c0', c1, c2, c3, c4, c6, f1, f2, f3, f4, hb, hh, hc1]
end
end ArA
end Go.Proofs.Ytlbdgbfblgjjgaa
