/-
  TableWalkMatches: the law's loops. Conditions: none.
-/
import Derived.Test.YtlbdgbfblgjjgaaTmC
import Derived.Test.YtlbdgbfblgjjgaaRkM
set_option linter.all false
namespace Go.Proofs.Ytlbdgbfblgjjgaa
namespace ArA
open Go Go.RowKit AM ArEnv
section
variable {L : Nat} {H : List Nat} {hs : List Blk} {r f ix : Nat} {x : List Nat} {v vc va : Value} {t z : Nat} {b7 b14 bt bn : Nat}
theorem chk_loop (hF : Fit hs.length L H) (hwd : ∀ i, i ≤ x.length → ∀ d, Lrun env (.func 22) [arP r, .agg #[.int .i64 t, .int .i64 z], .int .i64 i] ⟨hs, L, H, d⟩ = some (.tuple #[.int .u32 (tv x ix i : Nat), .bool true], ⟨hs, L, H, d⟩))
    (h7 : hs[b7]? = some (.cells 0 true [.int .i64 t, .int .i64 z])) (h7H : H.contains b7 = false) (ht : hs[bt]? = some (.cells (x.length + 1) true (i64n (tvL x ix (x.length + 1))))) (htH : H.contains bt = false) (hix : ix ≤ x.length) (hm : x.length ≤ 65536) : ∀ n i, i + n = x.length + 1 → ∃ fr,
    Liter env lb3_1 [20, 7, 11, 14, 0, 16, 19, 3, 4, 21] hs.length [(20, .slice (some ⟨bt, 0, some (x.length + 1)⟩) (x.length + 1) 1), (7, .pointer (some ⟨b7, 0, some 0⟩)), (11, arP r), (14, .pointer (some ⟨b14, 0, some 0⟩)), (0, v), (16, fP f), (19, vc), (3, .int .i64 ix), (4, va), (21, .int .i64 i)] ⟨hs, L, H, []⟩ =
      some (.exit 0, fr, ⟨hs, L, H, []⟩) ∧ fr.get 20 = some (.slice (some ⟨bt, 0, some (x.length + 1)⟩) (x.length + 1) 1) ∧ fr.get 7 = some (.pointer (some ⟨b7, 0, some 0⟩)) ∧ fr.get 11 = some (arP r) ∧ fr.get 14 = some (.pointer (some ⟨b14, 0, some 0⟩)) ∧ fr.get 0 = some v ∧ fr.get 16 = some (fP f) ∧ fr.get 19 = some vc ∧ fr.get 3 = some (.int .i64 ix) ∧ fr.get 4 = some va
  | 0, i, hi => by
    obtain rfl : i = x.length + 1 := by omega
    rw [iter_by lb3_1.eq_1]
    simp (disch := (first | omega | (simp only [lnE, put_length] <;> omega) | (refine Fit.mono ‹Fit _ _ _› ?_ <;> (simp only [lnE, put_length] <;> omega)) | (refine Fit.draw ‹Fit _ _ _› ?_ ?_ <;> (simp only [lnE, put_length] <;> omega)) | (refine Fit.hid1 ‹Fit _ _ _› ?_ ?_ <;> (simp only [lnE, put_length] <;> omega)) | (refine Fit.draw1 ‹Fit _ _ _› ?_ ?_ ?_ <;> (simp only [lnE, put_length] <;> omega)) | (refine Fit.range0 ?_ ?_ <;> (simp only [lnE, put_length] <;> omega)) | (refine ArOk.mono ‹ArOk _ _ _ _ _› ?_ <;> (simp only [lnE, put_length] <;> omega)) | (refine ArOk.hid ‹ArOk _ _ _ _ _› ?_ ?_ <;> (simp only [lnE, put_length] <;> omega)) | (refine ArOk.hid0 ‹ArOk _ _ _ _ _› ?_ ?_ <;> (simp only [lnE, put_length] <;> omega)) | ((intro xr hxr; simp [AM.refs, refsF, refsC] at hxr) <;> (simp only [lnE, put_length] <;> omega)) | fail)) only [syA, syB, argFr, D, E, T, C, undefv, eqF, aeq, sheqs, sheq, rdCells, cellsOf, fill, putAt, if_true, if_false, reduceIte, ↓reduceIte, reduceCtorEq, eq_self, Nat.reduceEqDiff, Nat.reduceAdd, Nat.reduceSub, Nat.reduceMul, Nat.reduceLT, Nat.reduceLeDiff, Nat.reducePow, Nat.reduceDiv, Nat.reduceMod, Int.reduceLT, Int.reduceLE, Int.reduceGT, Int.reduceGE, Int.reduceToNat, Int.reducePow, Int.reduceNeg, Int.reduceBEq, Int.reduceBNe, Int.reduceEq, Int.reduceAdd, Int.reduceSub, Int.reduceMul, cellv, sc, flatv, refs, refsF, refsC, syR, Int.le_refl]
    exact ⟨_, rfl, rfl, rfl, rfl, rfl, rfl, rfl, rfl, rfl, rfl⟩
  | n + 1, i, hi => by
    obtain ⟨fr, f1, f2⟩ := chk_loop hF hwd h7 h7H ht htH hix hm n (i + 1) (by omega)
    have c1 : (i : Int) < ((x.length + 1 : Nat) : Int) := by omega
    have c2 : 0 ≤ (i : Int) ∧ (i : Int) < ((x.length + 1 : Nat) : Int) := by omega
    have w := hwd i (by omega)
    have hc := tvL_at x ix (show i < x.length + 1 by omega)
    have hv := tv_le (x := x) (ix := ix) (w := i) (by omega) hix
    have ir1 : ((i : Nat) : Int) + 1 = ((i + 1 : Nat) : Int) := by omega
    generalize tv x ix i = y at *
    have hv2 : 0 ≤ (y : Int) ∧ (y : Int) ≤ 65536 := by omega
    rw [iter_by lb3_1.eq_1]
    simp (disch := (first | omega | (simp only [lnE, put_length] <;> omega) | (refine Fit.mono ‹Fit _ _ _› ?_ <;> (simp only [lnE, put_length] <;> omega)) | (refine Fit.draw ‹Fit _ _ _› ?_ ?_ <;> (simp only [lnE, put_length] <;> omega)) | (refine Fit.hid1 ‹Fit _ _ _› ?_ ?_ <;> (simp only [lnE, put_length] <;> omega)) | (refine Fit.draw1 ‹Fit _ _ _› ?_ ?_ ?_ <;> (simp only [lnE, put_length] <;> omega)) | (refine Fit.range0 ?_ ?_ <;> (simp only [lnE, put_length] <;> omega)) | (refine ArOk.mono ‹ArOk _ _ _ _ _› ?_ <;> (simp only [lnE, put_length] <;> omega)) | (refine ArOk.hid ‹ArOk _ _ _ _ _› ?_ ?_ <;> (simp only [lnE, put_length] <;> omega)) | (refine ArOk.hid0 ‹ArOk _ _ _ _ _› ?_ ?_ <;> (simp only [lnE, put_length] <;> omega)) | ((intro xr hxr; simp [AM.refs, refsF, refsC] at hxr) <;> (simp only [lnE, put_length] <;> omega)) | fail)) only [syA, syB, argFr, D, E, T, C, undefv, eqF, aeq, sheqs, sheq, rdCells, cellsOf, fill, putAt, if_true, if_false, reduceIte, ↓reduceIte, reduceCtorEq, eq_self, Nat.reduceEqDiff, Nat.reduceAdd, Nat.reduceSub, Nat.reduceMul, Nat.reduceLT, Nat.reduceLeDiff, Nat.reducePow, Nat.reduceDiv, Nat.reduceMod, Int.reduceLT, Int.reduceLE, Int.reduceGT, Int.reduceGE, Int.reduceToNat, Int.reducePow, Int.reduceNeg, Int.reduceBEq, Int.reduceBNe, Int.reduceEq, Int.reduceAdd, Int.reduceSub, Int.reduceMul, cellv, sc, flatv, refs, refsF, refsC, syR, Int.le_refl, hF.not0, hF.not1, hF.up0, hF.up1, c1, c2, w, h7, h7H, ht, htH, hc, hv2, convF_int, ir1, f1]
    exact ⟨fr, rfl, f2⟩
theorem out_loop {b nb : List Nat} (hF : Fit hs.length L H) (hr : Rd ⟨hs, L, H, []⟩ v b) (hn : hs[bn]? = some (.cells b.length true (u8s nb))) (hnH : H.contains bn = false) (hnl : nb.length = b.length) (h7 : hs[b7]? = some (.cells 0 true [.int .i64 t, .int .i64 z])) (h7H : H.contains b7 = false)
    (hsame : ∀ i, i < b.length → ¬ (t ≤ i ∧ i < t + 4 * (x.length + 1)) → nb[i]? = b[i]?) (hm : x.length ≤ 65536) (ht : t ≤ 65536) (hb : b.length ≤ 65536) {bt' : Option Addr} : ∀ n i, i + n = b.length → ∃ fr,
    Liter env lb3_0 [0, 24, 20, 7, 16, 19, 3, 4, 25] hs.length [(0, v), (24, .slice (some ⟨bn, 0, some b.length⟩) b.length 1), (20, .slice bt' (x.length + 1) 1), (7, .pointer (some ⟨b7, 0, some 0⟩)), (16, fP f), (19, vc), (3, .int .i64 ix), (4, va), (25, .int .i64 i)] ⟨hs, L, H, []⟩ =
      some (.exit 2, fr, ⟨hs, L, H, []⟩) ∧ fr.get 24 = some (.slice (some ⟨bn, 0, some b.length⟩) b.length 1) ∧ fr.get 0 = some v ∧ fr.get 16 = some (fP f) ∧ fr.get 19 = some vc ∧ fr.get 3 = some (.int .i64 ix) ∧ fr.get 4 = some va
  | 0, i, hi => by
    obtain rfl : i = b.length := by omega
    have hlen := hr.lenF
    rw [iter_by lb3_0.eq_1]
    simp (disch := (first | omega | (simp only [lnE, put_length] <;> omega) | (refine Fit.mono ‹Fit _ _ _› ?_ <;> (simp only [lnE, put_length] <;> omega)) | (refine Fit.draw ‹Fit _ _ _› ?_ ?_ <;> (simp only [lnE, put_length] <;> omega)) | (refine Fit.hid1 ‹Fit _ _ _› ?_ ?_ <;> (simp only [lnE, put_length] <;> omega)) | (refine Fit.draw1 ‹Fit _ _ _› ?_ ?_ ?_ <;> (simp only [lnE, put_length] <;> omega)) | (refine Fit.range0 ?_ ?_ <;> (simp only [lnE, put_length] <;> omega)) | (refine ArOk.mono ‹ArOk _ _ _ _ _› ?_ <;> (simp only [lnE, put_length] <;> omega)) | (refine ArOk.hid ‹ArOk _ _ _ _ _› ?_ ?_ <;> (simp only [lnE, put_length] <;> omega)) | (refine ArOk.hid0 ‹ArOk _ _ _ _ _› ?_ ?_ <;> (simp only [lnE, put_length] <;> omega)) | ((intro xr hxr; simp [AM.refs, refsF, refsC] at hxr) <;> (simp only [lnE, put_length] <;> omega)) | fail)) only [syA, syB, argFr, D, E, T, C, undefv, eqF, aeq, sheqs, sheq, rdCells, cellsOf, fill, putAt, if_true, if_false, reduceIte, ↓reduceIte, reduceCtorEq, eq_self, Nat.reduceEqDiff, Nat.reduceAdd, Nat.reduceSub, Nat.reduceMul, Nat.reduceLT, Nat.reduceLeDiff, Nat.reducePow, Nat.reduceDiv, Nat.reduceMod, Int.reduceLT, Int.reduceLE, Int.reduceGT, Int.reduceGE, Int.reduceToNat, Int.reducePow, Int.reduceNeg, Int.reduceBEq, Int.reduceBNe, Int.reduceEq, Int.reduceAdd, Int.reduceSub, Int.reduceMul, cellv, sc, flatv, refs, refsF, refsC, syR, Int.le_refl, hlen]
    exact ⟨_, rfl, rfl, rfl, rfl, rfl, rfl, rfl⟩
  | n + 1, i, hi => by
    have hlen := hr.lenF
    have hib : i < b.length := by omega
    obtain ⟨fr, f1, f2⟩ := out_loop hF hr hn hnH hnl h7 h7H hsame hm ht hb (bt' := bt') n (i + 1) (by omega)
    have c1 : (i : Int) < b.length := by omega
    have c2 : 0 ≤ (i : Int) ∧ (i : Int) < b.length := by omega
    have ir1 : ((i : Nat) : Int) + 1 = ((i + 1 : Nat) : Int) := by omega
    have c4 : 4 * ((x.length + 1 : Nat) : Int) = ((4 * (x.length + 1) : Nat) : Int) := by omega
    have c5 : (t : Int) + ((4 * (x.length + 1) : Nat) : Int) = ((t + 4 * (x.length + 1) : Nat) : Int) := by omega
    have c6 : ((t + 4 * (x.length + 1) : Nat) : Int) ≤ 1000000 := by omega
    obtain ⟨a, e, rfl⟩ := hr.len
    obtain ⟨bb, of, g, pl, cs, rfl, _, hh, hb2, hcell⟩ := hr.at_ hib
    simp only [] at hb2 hh
    have hcn : (u8s nb)[i]? = some (.int .u8 (nb[i]'(by omega) : Nat)) := by rw [u8s_get, List.getElem?_eq_getElem (by omega)]; rfl
    rw [iter_by lb3_0.eq_1]
    by_cases h1 : (i : Int) ≥ t
    · by_cases h2 : (i : Int) < ((t + 4 * (x.length + 1) : Nat) : Int)
      · simp (disch := (first | omega | (simp only [lnE, put_length] <;> omega) | (refine Fit.mono ‹Fit _ _ _› ?_ <;> (simp only [lnE, put_length] <;> omega)) | (refine Fit.draw ‹Fit _ _ _› ?_ ?_ <;> (simp only [lnE, put_length] <;> omega)) | (refine Fit.hid1 ‹Fit _ _ _› ?_ ?_ <;> (simp only [lnE, put_length] <;> omega)) | (refine Fit.draw1 ‹Fit _ _ _› ?_ ?_ ?_ <;> (simp only [lnE, put_length] <;> omega)) | (refine Fit.range0 ?_ ?_ <;> (simp only [lnE, put_length] <;> omega)) | (refine ArOk.mono ‹ArOk _ _ _ _ _› ?_ <;> (simp only [lnE, put_length] <;> omega)) | (refine ArOk.hid ‹ArOk _ _ _ _ _› ?_ ?_ <;> (simp only [lnE, put_length] <;> omega)) | (refine ArOk.hid0 ‹ArOk _ _ _ _ _› ?_ ?_ <;> (simp only [lnE, put_length] <;> omega)) | ((intro xr hxr; simp [AM.refs, refsF, refsC] at hxr) <;> (simp only [lnE, put_length] <;> omega)) | fail)) only [syA, syB, argFr, D, E, T, C, undefv, eqF, aeq, sheqs, sheq, rdCells, cellsOf, fill, putAt, if_true, if_false, reduceIte, ↓reduceIte, reduceCtorEq, eq_self, Nat.reduceEqDiff, Nat.reduceAdd, Nat.reduceSub, Nat.reduceMul, Nat.reduceLT, Nat.reduceLeDiff, Nat.reducePow, Nat.reduceDiv, Nat.reduceMod, Int.reduceLT, Int.reduceLE, Int.reduceGT, Int.reduceGE, Int.reduceToNat, Int.reducePow, Int.reduceNeg, Int.reduceBEq, Int.reduceBNe, Int.reduceEq, Int.reduceAdd, Int.reduceSub, Int.reduceMul, cellv, sc, flatv, refs, refsF, refsC, syR, Int.le_refl, hF.not0, hF.not1, hF.up0, hF.up1, hlen, c1, c2, c4, c5, h1, h2, h7, h7H, ir1, f1]
        exact ⟨fr, rfl, f2⟩
      · have hs := hsame i hib (by omega)
        rw [List.getElem?_eq_getElem (by omega), List.getElem?_eq_getElem hib] at hs
        have hs2 : nb[i]'(by omega) = b[i] := by simpa using hs
        rw [hs2] at hcn
        generalize b[i] = y at *
        have hbe : ((y : Int) != y) = false := by simp
        simp (disch := (first | omega | (simp only [lnE, put_length] <;> omega) | (refine Fit.mono ‹Fit _ _ _› ?_ <;> (simp only [lnE, put_length] <;> omega)) | (refine Fit.draw ‹Fit _ _ _› ?_ ?_ <;> (simp only [lnE, put_length] <;> omega)) | (refine Fit.hid1 ‹Fit _ _ _› ?_ ?_ <;> (simp only [lnE, put_length] <;> omega)) | (refine Fit.draw1 ‹Fit _ _ _› ?_ ?_ ?_ <;> (simp only [lnE, put_length] <;> omega)) | (refine Fit.range0 ?_ ?_ <;> (simp only [lnE, put_length] <;> omega)) | (refine ArOk.mono ‹ArOk _ _ _ _ _› ?_ <;> (simp only [lnE, put_length] <;> omega)) | (refine ArOk.hid ‹ArOk _ _ _ _ _› ?_ ?_ <;> (simp only [lnE, put_length] <;> omega)) | (refine ArOk.hid0 ‹ArOk _ _ _ _ _› ?_ ?_ <;> (simp only [lnE, put_length] <;> omega)) | ((intro xr hxr; simp [AM.refs, refsF, refsC] at hxr) <;> (simp only [lnE, put_length] <;> omega)) | fail)) only [syA, syB, argFr, D, E, T, C, undefv, eqF, aeq, sheqs, sheq, rdCells, cellsOf, fill, putAt, if_true, if_false, reduceIte, ↓reduceIte, reduceCtorEq, eq_self, Nat.reduceEqDiff, Nat.reduceAdd, Nat.reduceSub, Nat.reduceMul, Nat.reduceLT, Nat.reduceLeDiff, Nat.reducePow, Nat.reduceDiv, Nat.reduceMod, Int.reduceLT, Int.reduceLE, Int.reduceGT, Int.reduceGE, Int.reduceToNat, Int.reducePow, Int.reduceNeg, Int.reduceBEq, Int.reduceBNe, Int.reduceEq, Int.reduceAdd, Int.reduceSub, Int.reduceMul, cellv, sc, flatv, refs, refsF, refsC, syR, Int.le_refl, hF.not0, hF.not1, hF.up0, hF.up1, hlen, c1, c2, c4, c5, h1, h2, h7, h7H, hn, hnH, hcn, hb2, hh, hcell, hbe, ir1, f1]
        exact ⟨fr, rfl, f2⟩
    · have hs := hsame i hib (by omega)
      rw [List.getElem?_eq_getElem (by omega), List.getElem?_eq_getElem hib] at hs
      have hs2 : nb[i]'(by omega) = b[i] := by simpa using hs
      rw [hs2] at hcn
      generalize b[i] = y at *
      have hbe : ((y : Int) != y) = false := by simp
      simp (disch := (first | omega | (simp only [lnE, put_length] <;> omega) | (refine Fit.mono ‹Fit _ _ _› ?_ <;> (simp only [lnE, put_length] <;> omega)) | (refine Fit.draw ‹Fit _ _ _› ?_ ?_ <;> (simp only [lnE, put_length] <;> omega)) | (refine Fit.hid1 ‹Fit _ _ _› ?_ ?_ <;> (simp only [lnE, put_length] <;> omega)) | (refine Fit.draw1 ‹Fit _ _ _› ?_ ?_ ?_ <;> (simp only [lnE, put_length] <;> omega)) | (refine Fit.range0 ?_ ?_ <;> (simp only [lnE, put_length] <;> omega)) | (refine ArOk.mono ‹ArOk _ _ _ _ _› ?_ <;> (simp only [lnE, put_length] <;> omega)) | (refine ArOk.hid ‹ArOk _ _ _ _ _› ?_ ?_ <;> (simp only [lnE, put_length] <;> omega)) | (refine ArOk.hid0 ‹ArOk _ _ _ _ _› ?_ ?_ <;> (simp only [lnE, put_length] <;> omega)) | ((intro xr hxr; simp [AM.refs, refsF, refsC] at hxr) <;> (simp only [lnE, put_length] <;> omega)) | fail)) only [syA, syB, argFr, D, E, T, C, undefv, eqF, aeq, sheqs, sheq, rdCells, cellsOf, fill, putAt, if_true, if_false, reduceIte, ↓reduceIte, reduceCtorEq, eq_self, Nat.reduceEqDiff, Nat.reduceAdd, Nat.reduceSub, Nat.reduceMul, Nat.reduceLT, Nat.reduceLeDiff, Nat.reducePow, Nat.reduceDiv, Nat.reduceMod, Int.reduceLT, Int.reduceLE, Int.reduceGT, Int.reduceGE, Int.reduceToNat, Int.reducePow, Int.reduceNeg, Int.reduceBEq, Int.reduceBNe, Int.reduceEq, Int.reduceAdd, Int.reduceSub, Int.reduceMul, cellv, sc, flatv, refs, refsF, refsC, syR, Int.le_refl, hF.not0, hF.not1, hF.up0, hF.up1, hlen, c1, c2, c4, c5, h1, h7, h7H, hn, hnH, hcn, hb2, hh, hcell, hbe, ir1, f1]
      exact ⟨fr, rfl, f2⟩
end
end ArA
end Go.Proofs.Ytlbdgbfblgjjgaa
