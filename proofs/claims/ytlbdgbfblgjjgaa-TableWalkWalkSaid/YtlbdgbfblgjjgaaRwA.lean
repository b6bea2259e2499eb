/-
  WALKS WITH RANKS: walks of the walk's functions on the abstract machine. Conditions: none.
-/
import Derived.Test.YtlbdgbfblgjjgaaWkPlain
set_option linter.all false
namespace Go.Proofs.Ytlbdgbfblgjjgaa
namespace ArA
open Go Go.RowKit AM ArEnv
/-- The cells of a walk. -/
def wkC (r s m t z ix kk : Nat) (x : List Nat) (n row told steps : Nat) : List Value :=
  arP r :: .int .i64 s :: .int .i64 m :: .int .i64 t :: .int .i64 z :: .int .i64 ix :: .int .i64 kk :: (lP x n ++ [.int .i64 row, .int .i64 told, .int .i64 steps])
section
variable {r s m t z ix kk n row told steps : Nat} {x : List Nat}
theorem wk0 : (wkC r s m t z ix kk x n row told steps)[0]? = some (arP r) := rfl
theorem wk1 : (wkC r s m t z ix kk x n row told steps)[1]? = some (.int .i64 s) := rfl
theorem wk2 : (wkC r s m t z ix kk x n row told steps)[2]? = some (.int .i64 m) := rfl
theorem wk3 : (wkC r s m t z ix kk x n row told steps)[3]? = some (.int .i64 t) := rfl
theorem wk4 : (wkC r s m t z ix kk x n row told steps)[4]? = some (.int .i64 z) := rfl
theorem wk5 : (wkC r s m t z ix kk x n row told steps)[5]? = some (.int .i64 ix) := rfl
theorem wk6 : (wkC r s m t z ix kk x n row told steps)[6]? = some (.int .i64 kk) := rfl
theorem wkL {c : Nat} (h : c < 256) : (wkC r s m t z ix kk x n row told steps)[7 + c]? = some (.int .i64 ((if c < n then csm x c else 0 : Nat) : Int)) := by
  unfold wkC
  rw [show 7 + c = c + 1 + 1 + 1 + 1 + 1 + 1 + 1 by omega]
  simp only [List.getElem?_cons_succ]
  rw [List.getElem?_append_left (by rw [lP_len]; exact h), lP_get _ _ h]
theorem wk_tail {j : Nat} (h : 256 ≤ j) : (wkC r s m t z ix kk x n row told steps)[7 + j]? = [Value.int .i64 row, .int .i64 told, .int .i64 steps][j - 256]? := by
  unfold wkC
  rw [show 7 + j = j + 1 + 1 + 1 + 1 + 1 + 1 + 1 by omega]
  simp only [List.getElem?_cons_succ]
  rw [List.getElem?_append_right (by rw [lP_len]; exact h), lP_len]
theorem wk263 : (wkC r s m t z ix kk x n row told steps)[263]? = some (.int .i64 row) := wk_tail (j := 256) (Nat.le_refl _)
theorem wk264 : (wkC r s m t z ix kk x n row told steps)[264]? = some (.int .i64 told) := wk_tail (j := 257) (by decide)
theorem wk265 : (wkC r s m t z ix kk x n row told steps)[265]? = some (.int .i64 steps) := wk_tail (j := 258) (by decide)
theorem wk_len : (wkC r s m t z ix kk x n row told steps).length = 266 := by
  unfold wkC; simp [lP_len]
theorem wk_set {j : Nat} (h : 256 ≤ j) (v : Value) : (wkC r s m t z ix kk x n row told steps).set (7 + j) v = arP r :: .int .i64 s :: .int .i64 m :: .int .i64 t :: .int .i64 z :: .int .i64 ix :: .int .i64 kk :: (lP x n ++ [Value.int .i64 row, .int .i64 told, .int .i64 steps].set (j - 256) v) := by
  unfold wkC
  rw [show 7 + j = j + 1 + 1 + 1 + 1 + 1 + 1 + 1 by omega]
  simp only [List.set_cons_succ]
  rw [List.set_append_right _ _ (by rw [lP_len]; exact h), lP_len]
theorem wkS263 {v : Nat} : (wkC r s m t z ix kk x n row told steps).set 263 (.int .i64 v) = wkC r s m t z ix kk x n v told steps := wk_set (j := 256) (Nat.le_refl _) _
theorem wkS264 {v : Nat} : (wkC r s m t z ix kk x n row told steps).set 264 (.int .i64 v) = wkC r s m t z ix kk x n row v steps := wk_set (j := 257) (by decide) _
theorem wkS265 {v : Nat} : (wkC r s m t z ix kk x n row told steps).set 265 (.int .i64 v) = wkC r s m t z ix kk x n row told v := wk_set (j := 258) (by decide) _
theorem wkSL (h : n < 256) : (wkC r s m t z ix kk x n row told steps).set (7 + n) (.int .i64 (csm x n : Nat)) = wkC r s m t z ix kk x (n + 1) row told steps := by
  unfold wkC
  rw [show 7 + n = n + 1 + 1 + 1 + 1 + 1 + 1 + 1 by omega]
  simp only [List.set_cons_succ]
  rw [List.set_append_left _ _ (by rw [lP_len]; exact h), lP_set _ h]
theorem wk_cut1 : ((wkC r s m t z ix kk x n row told steps).drop 1).take 2 = [.int .i64 s, .int .i64 m] := rfl
theorem wk_cut3 : ((wkC r s m t z ix kk x n row told steps).drop 3).take 2 = [.int .i64 t, .int .i64 z] := rfl
end
structure WkOk (n r q w : Nat) (L : Nat) (H : List Nat) (A : Arn) (s t z kk ix : Nat) (x : List Nat) : Prop where
  ok : ArOk n r q H A
  holds : Holds A s x
  valid : rValid A s x.length t z kk = true
  kk1 : 1 ≤ kk
  ixm : ix ≤ x.length
  rank : ∀ c, c < 256 → ∀ p, p ≤ x.length → base A t z kk c p + tail x kk c p = (x.take p).count c
  wr : r ≠ w
  wq : q ≠ w
  wn : w < n
  wL : L ≤ w
  hid : H.contains w = false
  small : x.length ≤ 65536
  by_ : By x
section
variable {hp : List Blk} {L : Nat} {H d : List Nat} {r q w : Nat} {A : Arn} {s t z kk ix : Nat} {x : List Nat} {row told steps : Nat}
theorem behind_none (hF : Fit hp.length L H) (k : WkOk hp.length r q w L H A s t z kk ix x) (hb : hp[w]? = some (.cells 0 false (wkC r s x.length t z ix kk x 256 row told steps))) :
    Lrun env (.func 59) [.pointer (some ⟨w, 0, some 0⟩), .int .i64 ix] ⟨put hp r q A, L, H, d⟩ = some (.tuple #[.int .i64 0, .int .u8 0, .bool false], ⟨put hp r q A, L, H, d⟩) := by
  have hwr := k.wr
  have hwq := k.wq
  have hid := k.hid
  have k0 := k.ok
  rw [Lrun_sym 59 _ _ fn59]
  simp (disch := (first | omega | (simp only [lnE, put_length] <;> omega) | (refine Fit.mono ‹Fit _ _ _› ?_ <;> (simp only [lnE, put_length] <;> omega)) | (refine Fit.draw ‹Fit _ _ _› ?_ ?_ <;> (simp only [lnE, put_length] <;> omega)) | (refine Fit.hid1 ‹Fit _ _ _› ?_ ?_ <;> (simp only [lnE, put_length] <;> omega)) | (refine Fit.draw1 ‹Fit _ _ _› ?_ ?_ ?_ <;> (simp only [lnE, put_length] <;> omega)) | (refine Fit.range0 ?_ ?_ <;> (simp only [lnE, put_length] <;> omega)) | (refine ArOk.mono ‹ArOk _ _ _ _ _› ?_ <;> (simp only [lnE, put_length] <;> omega)) | (refine ArOk.hid ‹ArOk _ _ _ _ _› ?_ ?_ <;> (simp only [lnE, put_length] <;> omega)) | (refine ArOk.hid0 ‹ArOk _ _ _ _ _› ?_ ?_ <;> (simp only [lnE, put_length] <;> omega)) | ((intro xr hxr; simp [AM.refs, refsF, refsC] at hxr) <;> (simp only [lnE, put_length] <;> omega)) | fail)) only [syA, syB, argFr, D, E, T, C, undefv, eqF, aeq, sheqs, sheq, rdCells, cellsOf, fill, putAt, if_true, if_false, reduceIte, ↓reduceIte, reduceCtorEq, eq_self, Nat.reduceEqDiff, Nat.reduceAdd, Nat.reduceSub, Nat.reduceMul, Nat.reduceLT, Nat.reduceLeDiff, Nat.reducePow, Nat.reduceDiv, Nat.reduceMod, Int.reduceLT, Int.reduceLE, Int.reduceGT, Int.reduceGE, Int.reduceToNat, Int.reducePow, Int.reduceNeg, Int.reduceBEq, Int.reduceBNe, Int.reduceEq, Int.reduceAdd, Int.reduceSub, Int.reduceMul, cellv, sc, flatv, refs, refsF, refsC, syR, Int.le_refl, hF.not0, hF.not1, hF.up0, hF.up1, k0.hr, k0.hq, ac59, hb, hwr, hwq, hid, wk5]
theorem behind_walk (hF : Fit hp.length L H) (k : WkOk hp.length r q w L H A s t z kk ix x) (hb : hp[w]? = some (.cells 0 false (wkC r s x.length t z ix kk x 256 row told steps))) (hs : steps ≤ 1099511627776) {p : Nat} (hp1 : p ≤ x.length) (hne : p ≠ ix) (hx : atR ix p < x.length) :
    Lrun env (.func 59) [.pointer (some ⟨w, 0, some 0⟩), .int .i64 p] ⟨put hp r q A, L, H, d⟩ = some (.tuple #[.int .i64 (nxR x ix p : Nat), .int .u8 (x[atR ix p] : Nat), .bool true], ⟨put (hp.set w (.cells 0 false (wkC r s x.length t z ix kk x 256 row told (steps + 1 + atR ix p % kk)))) r q A, L, H, d⟩) := by
  have hwr := k.wr
  have hwq := k.wq
  have hid := k.hid
  have k0 := k.ok
  have hsm := k.small
  have hwn := k.wn
  have hwL : ¬ w < L := by have := k.wL; omega
  have hb2 : ∀ B : Blk, (hp.set w B)[w]? = some B := fun B => List.getElem?_set_self hwn
  have hkk := k.kk1
  have hnl := nx_le hx
  have hmod : atR ix p % kk ≤ x.length := Nat.le_trans (Nat.mod_le _ _) (by omega)
  have hc : x[atR ix p] < 256 := k.by_.get hx
  have hrk := rank_walk (d := []) (hp := hp) (L := L) (H := H) hF k0 k.holds hsm k.valid k.kk1 (p := atR ix p) (by omega) hc
  have hby := byte_walk (d := []) (hp := hp) (L := L) (H := H) hF k0 s x.length (atR ix p : Nat)
  have b1 := k.holds.byte hx
  have b2 := k.holds.part hx
  rw [k.rank _ hc _ (by omega)] at hrk
  rw [b1, b2] at hby
  have hlc : csm x x[atR ix p] = less x[atR ix p] x := csm_less _ _
  have hnx := nxR_eq (x := x) (ix := ix) (r := p) hx
  rw [same_count] at hnx hnl
  have hcl : (x.take (atR ix p)).count x[atR ix p] ≤ x.length := Nat.le_trans List.count_le_length (by simp; omega)
  have hL := wkL (r := r) (s := s) (m := x.length) (t := t) (z := z) (ix := ix) (kk := kk) (n := 256) (row := row) (told := told) (steps := steps + 1 + atR ix p % kk) (x := x) hc
  rw [if_pos hc, hlc] at hL
  have c1 : ¬ (p : Int) = ix := by omega
  have hst : (steps : Int) + (1 + (atR ix p % kk : Nat)) = ((steps + 1 + atR ix p % kk : Nat) : Int) := by omega
  have hnx2 : (1 : Int) + (less x[atR ix p] x : Nat) + ((x.take (atR ix p)).count x[atR ix p] : Nat) = (nxR x ix p : Nat) := by rw [hnx]; omega
  have hcx : 0 ≤ (x[atR ix p] : Int) ∧ (x[atR ix p] : Int) < 256 := by omega
  rw [Lrun_sym 59 _ _ fn59]
  by_cases c2 : p > ix
  · have c3 : (p : Int) > ix := by omega
    have hat : atR ix p = p - 1 := if_neg (by omega)
    have c4 : (p : Int) - 1 = (atR ix p : Nat) := by rw [hat]; omega
    generalize atR ix p = a at *
    simp (disch := (first | omega | (simp only [lnE, put_length] <;> omega) | (refine Fit.mono ‹Fit _ _ _› ?_ <;> (simp only [lnE, put_length] <;> omega)) | (refine Fit.draw ‹Fit _ _ _› ?_ ?_ <;> (simp only [lnE, put_length] <;> omega)) | (refine Fit.hid1 ‹Fit _ _ _› ?_ ?_ <;> (simp only [lnE, put_length] <;> omega)) | (refine Fit.draw1 ‹Fit _ _ _› ?_ ?_ ?_ <;> (simp only [lnE, put_length] <;> omega)) | (refine Fit.range0 ?_ ?_ <;> (simp only [lnE, put_length] <;> omega)) | (refine ArOk.mono ‹ArOk _ _ _ _ _› ?_ <;> (simp only [lnE, put_length] <;> omega)) | (refine ArOk.hid ‹ArOk _ _ _ _ _› ?_ ?_ <;> (simp only [lnE, put_length] <;> omega)) | (refine ArOk.hid0 ‹ArOk _ _ _ _ _› ?_ ?_ <;> (simp only [lnE, put_length] <;> omega)) | ((intro xr hxr; simp [AM.refs, refsF, refsC] at hxr) <;> (simp only [lnE, put_length] <;> omega)) | fail)) only [syA, syB, argFr, D, E, T, C, undefv, eqF, aeq, sheqs, sheq, rdCells, cellsOf, fill, putAt, if_true, if_false, reduceIte, ↓reduceIte, reduceCtorEq, eq_self, Nat.reduceEqDiff, Nat.reduceAdd, Nat.reduceSub, Nat.reduceMul, Nat.reduceLT, Nat.reduceLeDiff, Nat.reducePow, Nat.reduceDiv, Nat.reduceMod, Int.reduceLT, Int.reduceLE, Int.reduceGT, Int.reduceGE, Int.reduceToNat, Int.reducePow, Int.reduceNeg, Int.reduceBEq, Int.reduceBNe, Int.reduceEq, Int.reduceAdd, Int.reduceSub, Int.reduceMul, cellv, sc, flatv, refs, refsF, refsC, syR, Int.le_refl, hF.not0, hF.not1, hF.up0, hF.up1, k0.hr, k0.hq, ac59, hb, hwr, hwq, hid, wk0, wk1, wk2, wk3, wk4, wk5, wk6, wk265, wkS265, wk_cut1, wk_cut3, wk_len, hL, c1, c3, c4, hby, hrk, hst, hnx2, hcx, hwL, hb2]
  · have c3 : ¬ (p : Int) > ix := by omega
    have hat : atR ix p = p := if_pos (by omega)
    generalize hatp : atR ix p = a at *
    subst hat
    simp (disch := (first | omega | (simp only [lnE, put_length] <;> omega) | (refine Fit.mono ‹Fit _ _ _› ?_ <;> (simp only [lnE, put_length] <;> omega)) | (refine Fit.draw ‹Fit _ _ _› ?_ ?_ <;> (simp only [lnE, put_length] <;> omega)) | (refine Fit.hid1 ‹Fit _ _ _› ?_ ?_ <;> (simp only [lnE, put_length] <;> omega)) | (refine Fit.draw1 ‹Fit _ _ _› ?_ ?_ ?_ <;> (simp only [lnE, put_length] <;> omega)) | (refine Fit.range0 ?_ ?_ <;> (simp only [lnE, put_length] <;> omega)) | (refine ArOk.mono ‹ArOk _ _ _ _ _› ?_ <;> (simp only [lnE, put_length] <;> omega)) | (refine ArOk.hid ‹ArOk _ _ _ _ _› ?_ ?_ <;> (simp only [lnE, put_length] <;> omega)) | (refine ArOk.hid0 ‹ArOk _ _ _ _ _› ?_ ?_ <;> (simp only [lnE, put_length] <;> omega)) | ((intro xr hxr; simp [AM.refs, refsF, refsC] at hxr) <;> (simp only [lnE, put_length] <;> omega)) | fail)) only [syA, syB, argFr, D, E, T, C, undefv, eqF, aeq, sheqs, sheq, rdCells, cellsOf, fill, putAt, if_true, if_false, reduceIte, ↓reduceIte, reduceCtorEq, eq_self, Nat.reduceEqDiff, Nat.reduceAdd, Nat.reduceSub, Nat.reduceMul, Nat.reduceLT, Nat.reduceLeDiff, Nat.reducePow, Nat.reduceDiv, Nat.reduceMod, Int.reduceLT, Int.reduceLE, Int.reduceGT, Int.reduceGE, Int.reduceToNat, Int.reducePow, Int.reduceNeg, Int.reduceBEq, Int.reduceBNe, Int.reduceEq, Int.reduceAdd, Int.reduceSub, Int.reduceMul, cellv, sc, flatv, refs, refsF, refsC, syR, Int.le_refl, hF.not0, hF.not1, hF.up0, hF.up1, k0.hr, k0.hq, ac59, hb, hwr, hwq, hid, wk0, wk1, wk2, wk3, wk4, wk5, wk6, wk265, wkS265, wk_cut1, wk_cut3, wk_len, hL, c1, c3, hby, hrk, hst, hnx2, hcx, hwL, hb2]
end
end ArA
end Go.Proofs.Ytlbdgbfblgjjgaa
