/-
  WALKS WITH A TABLE: New, behind, Next, Valid, Reset, Steps, Told of a walk, on the abstract machine. Conditions: none.
-/
import Derived.Test.YtlbdgbfblgjjgaaTwA
import Derived.Test.YtlbdgbfblgjjgaaRwC
set_option linter.all false
namespace Go.Proofs.Ytlbdgbfblgjjgaa
namespace ArA
open Go Go.RowKit AM ArEnv
/-- How many bytes come before each, in the order of the rows, n of them seen. -/
def lN (x : List Nat) (n : Nat) : List Value := (List.range 256).map fun j => .int .i64 ((less j x + same j (x.take n) : Nat) : Int)
theorem lN_len (x : List Nat) (n : Nat) : (lN x n).length = 256 := by simp [lN]
theorem lN_at (x : List Nat) (n : Nat) {j : Nat} (h : j < 256) : (lN x n)[j]? = some (.int .i64 ((less j x + same j (x.take n) : Nat) : Int)) := by simp [lN, h]
theorem lN_zero (x : List Nat) : lP x 256 = lN x 0 := ext256 (lP_len _ _) (lN_len _ _) fun j hj => by rw [lP_get _ _ hj, lN_at _ _ hj, if_pos hj, csm_less]; rfl
theorem lN_set {x : List Nat} {n : Nat} (h : n < x.length) (hb : x[n] < 256) : (lN x n).set x[n] (.int .i64 ((less x[n] x + same x[n] (x.take n) : Nat) + 1)) = lN x (n + 1) := ext256 (by rw [List.length_set, lN_len]) (lN_len _ _) fun j hj => by
  rw [List.getElem?_set, lN_at x (n + 1) hj, List.take_add_one, List.getElem?_eq_getElem h]
  simp only [Option.toList_some, same_app, same]
  by_cases e : x[n] = j
  · subst e; rw [if_pos rfl, if_pos (by rw [lN_len]; exact hj), if_pos rfl]; congr 2
  · rw [if_neg e, lN_at x n hj, if_neg e]; congr 2
theorem lN_scs (x : List Nat) (n : Nat) : (lN x n).all AM.sc = true := by simp [lN, AM.sc]
abbrev fP (f : Nat) : Value := .pointer (some ⟨f, 0, some 0⟩)
structure TbOk (n r q f : Nat) (L : Nat) (H : List Nat) (A : Arn) (s t z ix : Nat) (x : List Nat) : Prop where
  ok : ArOk n r q H A
  holds : Holds A s x
  word : ∀ w, w ≤ x.length → A.wpart t z w = true ∧ A.wordV t z w = tv x ix w
  ixm : ix ≤ x.length
  fr : r ≠ f
  fq : q ≠ f
  fn : f < n
  fL : L ≤ f
  hid : H.contains f = false
  small : x.length ≤ 65536
  by_ : By x
section
variable {hq : List Blk} {L : Nat} {H d : List Nat} {r q f : Nat} {A B : Arn} {s t z ix : Nat} {x : List Nat} {row told steps : Nat}
theorem tbehind_none (hF : Fit hq.length L H) (k : TbOk hq.length r q f L H A s t z ix x) :
    Lrun env (.func 55) [fP f, .int .i64 ix] ⟨put (hq.set f (fB r s t z ix x.length row told steps)) r q A, L, H, d⟩ = some (.tuple #[.int .i64 0, .int .u8 0, .bool false], ⟨put (hq.set f (fB r s t z ix x.length row told steps)) r q A, L, H, d⟩) := by
  have hlen : ∀ B, (hq.set f B).length = hq.length := fun B => List.length_set
  have hfr := k.fr
  have hfq := k.fq
  have hid := k.hid
  have k0 := k.ok
  have hb : ∀ B, (hq.set f B)[f]? = some B := fun B => List.getElem?_set_self k.fn
  have bn := fun d => tbyte_none (d := d) (hp := hq.set f (fB r s t z ix x.length row told steps)) (L := L) (by rw [hlen]; exact hF) (by rw [hlen]; exact k.ok) hfr hfq hid (hb _)
  have ww := fun d L' (hF' : Fit hq.length L' H) => word_walk (d := d) (hp := hq.set f (fB r s t z ix x.length row told steps)) (L := L') (H := H) (r := r) (q := q) (A := A) (by rw [hlen]; exact hF') (by rw [hlen]; exact k.ok) t z ix
  obtain ⟨w1, w2⟩ := k.word ix k.ixm
  simp only [w1, w2] at ww
  generalize tv x ix ix = y at *
  unfold fB at bn ww ⊢
  rw [Lrun_sym 55 _ _ fn55]
  simp (disch := (first | omega | (simp only [lnE, put_length] <;> omega) | (refine Fit.mono ‹Fit _ _ _› ?_ <;> (simp only [lnE, put_length] <;> omega)) | (refine Fit.draw ‹Fit _ _ _› ?_ ?_ <;> (simp only [lnE, put_length] <;> omega)) | (refine Fit.hid1 ‹Fit _ _ _› ?_ ?_ <;> (simp only [lnE, put_length] <;> omega)) | (refine Fit.draw1 ‹Fit _ _ _› ?_ ?_ ?_ <;> (simp only [lnE, put_length] <;> omega)) | (refine Fit.range0 ?_ ?_ <;> (simp only [lnE, put_length] <;> omega)) | (refine ArOk.mono ‹ArOk _ _ _ _ _› ?_ <;> (simp only [lnE, put_length] <;> omega)) | (refine ArOk.hid ‹ArOk _ _ _ _ _› ?_ ?_ <;> (simp only [lnE, put_length] <;> omega)) | (refine ArOk.hid0 ‹ArOk _ _ _ _ _› ?_ ?_ <;> (simp only [lnE, put_length] <;> omega)) | ((intro xr hxr; simp [AM.refs, refsF, refsC] at hxr) <;> (simp only [lnE, put_length] <;> omega)) | fail)) only [syA, syB, argFr, D, E, T, C, undefv, eqF, aeq, sheqs, sheq, rdCells, cellsOf, fill, putAt, if_true, if_false, reduceIte, ↓reduceIte, reduceCtorEq, eq_self, Nat.reduceEqDiff, Nat.reduceAdd, Nat.reduceSub, Nat.reduceMul, Nat.reduceLT, Nat.reduceLeDiff, Nat.reducePow, Nat.reduceDiv, Nat.reduceMod, Int.reduceLT, Int.reduceLE, Int.reduceGT, Int.reduceGE, Int.reduceToNat, Int.reducePow, Int.reduceNeg, Int.reduceBEq, Int.reduceBNe, Int.reduceEq, Int.reduceAdd, Int.reduceSub, Int.reduceMul, cellv, sc, flatv, refs, refsF, refsC, syR, Int.le_refl, hF.not0, hF.not1, hF.up0, hF.up1, k0.hr, k0.hq, ac55, hb, hfr, hfq, hid, hlen, bn, ww]
theorem tbehind_walk (hF : Fit hq.length L H) (k : TbOk hq.length r q f L H A s t z ix x) {p : Nat} (hp : p ≤ x.length) (hne : p ≠ ix) (ha : atR ix p < x.length) (hs : steps ≤ 1099511627776) :
    Lrun env (.func 55) [fP f, .int .i64 p] ⟨put (hq.set f (fB r s t z ix x.length row told steps)) r q A, L, H, d⟩ = some (.tuple #[.int .i64 (nxR x ix p : Nat), .int .u8 (x[atR ix p] : Nat), .bool true], ⟨put (hq.set f (fB r s t z ix x.length row told (steps + 1))) r q A, L, H, d⟩) := by
  have hlen : ∀ B, (hq.set f B).length = hq.length := fun B => List.length_set
  have hfr := k.fr
  have hfq := k.fq
  have hid := k.hid
  have k0 := k.ok
  have hfL : ¬ f < L := by have := k.fL; omega
  have hb : ∀ B, (hq.set f B)[f]? = some B := fun B => List.getElem?_set_self k.fn
  have bn := fun d => tbyte_walk (d := d) (hp := hq.set f (fB r s t z ix x.length row told steps)) (L := L) (by rw [hlen]; exact hF) (by rw [hlen]; exact k.ok) k.holds hfr hfq hid (hb _) hne ha
  have ww := fun d L' (hF' : Fit hq.length L' H) => word_walk (d := d) (hp := hq.set f (fB r s t z ix x.length row told steps)) (L := L') (H := H) (r := r) (q := q) (A := A) (by rw [hlen]; exact hF') (by rw [hlen]; exact k.ok) t z p
  obtain ⟨w1, w2⟩ := k.word p hp
  have w3 : tv x ix p = nxR x ix p := if_neg hne
  rw [w3] at w2
  simp only [w1, w2] at ww
  have hle := nxR_le hp k.ixm hne
  have hsm := k.small
  have hn2 : 0 ≤ ((nxR x ix p : Nat) : Int) ∧ ((nxR x ix p : Nat) : Int) ≤ 65536 := by omega
  have hst : (steps : Int) + 1 = ((steps + 1 : Nat) : Int) := by omega
  generalize x[atR ix p] = y at *
  generalize nxR x ix p = nx at *
  unfold fB at bn ww ⊢
  rw [Lrun_sym 55 _ _ fn55]
  simp (disch := (first | omega | (simp only [lnE, put_length] <;> omega) | (refine Fit.mono ‹Fit _ _ _› ?_ <;> (simp only [lnE, put_length] <;> omega)) | (refine Fit.draw ‹Fit _ _ _› ?_ ?_ <;> (simp only [lnE, put_length] <;> omega)) | (refine Fit.hid1 ‹Fit _ _ _› ?_ ?_ <;> (simp only [lnE, put_length] <;> omega)) | (refine Fit.draw1 ‹Fit _ _ _› ?_ ?_ ?_ <;> (simp only [lnE, put_length] <;> omega)) | (refine Fit.range0 ?_ ?_ <;> (simp only [lnE, put_length] <;> omega)) | (refine ArOk.mono ‹ArOk _ _ _ _ _› ?_ <;> (simp only [lnE, put_length] <;> omega)) | (refine ArOk.hid ‹ArOk _ _ _ _ _› ?_ ?_ <;> (simp only [lnE, put_length] <;> omega)) | (refine ArOk.hid0 ‹ArOk _ _ _ _ _› ?_ ?_ <;> (simp only [lnE, put_length] <;> omega)) | ((intro xr hxr; simp [AM.refs, refsF, refsC] at hxr) <;> (simp only [lnE, put_length] <;> omega)) | fail)) only [syA, syB, argFr, D, E, T, C, undefv, eqF, aeq, sheqs, sheq, rdCells, cellsOf, fill, putAt, if_true, if_false, reduceIte, ↓reduceIte, reduceCtorEq, eq_self, Nat.reduceEqDiff, Nat.reduceAdd, Nat.reduceSub, Nat.reduceMul, Nat.reduceLT, Nat.reduceLeDiff, Nat.reducePow, Nat.reduceDiv, Nat.reduceMod, Int.reduceLT, Int.reduceLE, Int.reduceGT, Int.reduceGE, Int.reduceToNat, Int.reducePow, Int.reduceNeg, Int.reduceBEq, Int.reduceBNe, Int.reduceEq, Int.reduceAdd, Int.reduceSub, Int.reduceMul, cellv, sc, flatv, refs, refsF, refsC, syR, Int.le_refl, hF.not0, hF.not1, hF.up0, hF.up1, k0.hr, k0.hq, ac55, hb, hfr, hfq, hid, hlen, bn, ww, hst, hfL, List.set_set, convF_int, hn2]
theorem tnext_done (hF : Fit hq.length L H) (k : TbOk hq.length r q f L H A s t z ix x) (h : told = x.length ∨ row = ix) :
    Lrun env (.func 29) [fP f] ⟨put (hq.set f (fB r s t z ix x.length row told steps)) r q A, L, H, d⟩ = some (.tuple #[.int .u8 0, .bool false], ⟨put (hq.set f (fB r s t z ix x.length row told steps)) r q A, L, H, d⟩) := by
  have hlen : ∀ B, (hq.set f B).length = hq.length := fun B => List.length_set
  have hfr := k.fr
  have hfq := k.fq
  have hid := k.hid
  have k0 := k.ok
  have hb : ∀ B, (hq.set f B)[f]? = some B := fun B => List.getElem?_set_self k.fn
  by_cases h1 : told = x.length
  · subst h1
    unfold fB
    rw [Lrun_sym 29 _ _ fn29]
    simp (disch := (first | omega | (simp only [lnE, put_length] <;> omega) | (refine Fit.mono ‹Fit _ _ _› ?_ <;> (simp only [lnE, put_length] <;> omega)) | (refine Fit.draw ‹Fit _ _ _› ?_ ?_ <;> (simp only [lnE, put_length] <;> omega)) | (refine Fit.hid1 ‹Fit _ _ _› ?_ ?_ <;> (simp only [lnE, put_length] <;> omega)) | (refine Fit.draw1 ‹Fit _ _ _› ?_ ?_ ?_ <;> (simp only [lnE, put_length] <;> omega)) | (refine Fit.range0 ?_ ?_ <;> (simp only [lnE, put_length] <;> omega)) | (refine ArOk.mono ‹ArOk _ _ _ _ _› ?_ <;> (simp only [lnE, put_length] <;> omega)) | (refine ArOk.hid ‹ArOk _ _ _ _ _› ?_ ?_ <;> (simp only [lnE, put_length] <;> omega)) | (refine ArOk.hid0 ‹ArOk _ _ _ _ _› ?_ ?_ <;> (simp only [lnE, put_length] <;> omega)) | ((intro xr hxr; simp [AM.refs, refsF, refsC] at hxr) <;> (simp only [lnE, put_length] <;> omega)) | fail)) only [syA, syB, argFr, D, E, T, C, undefv, eqF, aeq, sheqs, sheq, rdCells, cellsOf, fill, putAt, if_true, if_false, reduceIte, ↓reduceIte, reduceCtorEq, eq_self, Nat.reduceEqDiff, Nat.reduceAdd, Nat.reduceSub, Nat.reduceMul, Nat.reduceLT, Nat.reduceLeDiff, Nat.reducePow, Nat.reduceDiv, Nat.reduceMod, Int.reduceLT, Int.reduceLE, Int.reduceGT, Int.reduceGE, Int.reduceToNat, Int.reducePow, Int.reduceNeg, Int.reduceBEq, Int.reduceBNe, Int.reduceEq, Int.reduceAdd, Int.reduceSub, Int.reduceMul, cellv, sc, flatv, refs, refsF, refsC, syR, Int.le_refl, hF.not0, hF.not1, hF.up0, hF.up1, k0.hr, k0.hq, ac29, hb, hfr, hfq, hid, hlen]
  · obtain rfl : row = ix := by rcases h with h | h; exact absurd h h1; exact h
    have bn := fun d => tbehind_none (d := d) hF k (row := row) (told := told) (steps := steps)
    have h2 : ((told : Int) == x.length) = false := by rw [beq_eq_false_iff_ne]; omega
    have h3 : ¬ ((told : Int) = x.length) := by omega
    unfold fB at bn ⊢
    rw [Lrun_sym 29 _ _ fn29]
    simp (disch := (first | omega | (simp only [lnE, put_length] <;> omega) | (refine Fit.mono ‹Fit _ _ _› ?_ <;> (simp only [lnE, put_length] <;> omega)) | (refine Fit.draw ‹Fit _ _ _› ?_ ?_ <;> (simp only [lnE, put_length] <;> omega)) | (refine Fit.hid1 ‹Fit _ _ _› ?_ ?_ <;> (simp only [lnE, put_length] <;> omega)) | (refine Fit.draw1 ‹Fit _ _ _› ?_ ?_ ?_ <;> (simp only [lnE, put_length] <;> omega)) | (refine Fit.range0 ?_ ?_ <;> (simp only [lnE, put_length] <;> omega)) | (refine ArOk.mono ‹ArOk _ _ _ _ _› ?_ <;> (simp only [lnE, put_length] <;> omega)) | (refine ArOk.hid ‹ArOk _ _ _ _ _› ?_ ?_ <;> (simp only [lnE, put_length] <;> omega)) | (refine ArOk.hid0 ‹ArOk _ _ _ _ _› ?_ ?_ <;> (simp only [lnE, put_length] <;> omega)) | ((intro xr hxr; simp [AM.refs, refsF, refsC] at hxr) <;> (simp only [lnE, put_length] <;> omega)) | fail)) only [syA, syB, argFr, D, E, T, C, undefv, eqF, aeq, sheqs, sheq, rdCells, cellsOf, fill, putAt, if_true, if_false, reduceIte, ↓reduceIte, reduceCtorEq, eq_self, Nat.reduceEqDiff, Nat.reduceAdd, Nat.reduceSub, Nat.reduceMul, Nat.reduceLT, Nat.reduceLeDiff, Nat.reducePow, Nat.reduceDiv, Nat.reduceMod, Int.reduceLT, Int.reduceLE, Int.reduceGT, Int.reduceGE, Int.reduceToNat, Int.reducePow, Int.reduceNeg, Int.reduceBEq, Int.reduceBNe, Int.reduceEq, Int.reduceAdd, Int.reduceSub, Int.reduceMul, cellv, sc, flatv, refs, refsF, refsC, syR, Int.le_refl, hF.not0, hF.not1, hF.up0, hF.up1, k0.hr, k0.hq, ac29, hb, hfr, hfq, hid, hlen, h2, h3, bn]
theorem tnext_walk (hF : Fit hq.length L H) (k : TbOk hq.length r q f L H A s t z ix x) (ht : told < x.length) (hp : row ≤ x.length) (hne : row ≠ ix) (ha : atR ix row < x.length) (hs : steps ≤ 1099511627776) :
    Lrun env (.func 29) [fP f] ⟨put (hq.set f (fB r s t z ix x.length row told steps)) r q A, L, H, d⟩ = some (.tuple #[.int .u8 (x[atR ix row] : Nat), .bool true], ⟨put (hq.set f (fB r s t z ix x.length (nxR x ix row) (told + 1) (steps + 1))) r q A, L, H, d⟩) := by
  have hlen : ∀ B, (hq.set f B).length = hq.length := fun B => List.length_set
  have hfr := k.fr
  have hfq := k.fq
  have hid := k.hid
  have k0 := k.ok
  have hfL : ¬ f < L := by have := k.fL; omega
  have hb : ∀ B, (hq.set f B)[f]? = some B := fun B => List.getElem?_set_self k.fn
  have bn := fun d => tbehind_walk (d := d) hF k (row := row) (told := told) (steps := steps) hp hne ha hs
  have h2 : ((told : Int) == x.length) = false := by rw [beq_eq_false_iff_ne]; omega
  have h3 : ¬ ((told : Int) = x.length) := by omega
  have h4 : (told : Int) + 1 = ((told + 1 : Nat) : Int) := by omega
  have hsm := k.small
  generalize x[atR ix row] = y at *
  generalize nxR x ix row = nx at *
  unfold fB at bn ⊢
  rw [Lrun_sym 29 _ _ fn29]
  simp (disch := (first | omega | (simp only [lnE, put_length] <;> omega) | (refine Fit.mono ‹Fit _ _ _› ?_ <;> (simp only [lnE, put_length] <;> omega)) | (refine Fit.draw ‹Fit _ _ _› ?_ ?_ <;> (simp only [lnE, put_length] <;> omega)) | (refine Fit.hid1 ‹Fit _ _ _› ?_ ?_ <;> (simp only [lnE, put_length] <;> omega)) | (refine Fit.draw1 ‹Fit _ _ _› ?_ ?_ ?_ <;> (simp only [lnE, put_length] <;> omega)) | (refine Fit.range0 ?_ ?_ <;> (simp only [lnE, put_length] <;> omega)) | (refine ArOk.mono ‹ArOk _ _ _ _ _› ?_ <;> (simp only [lnE, put_length] <;> omega)) | (refine ArOk.hid ‹ArOk _ _ _ _ _› ?_ ?_ <;> (simp only [lnE, put_length] <;> omega)) | (refine ArOk.hid0 ‹ArOk _ _ _ _ _› ?_ ?_ <;> (simp only [lnE, put_length] <;> omega)) | ((intro xr hxr; simp [AM.refs, refsF, refsC] at hxr) <;> (simp only [lnE, put_length] <;> omega)) | fail)) only [syA, syB, argFr, D, E, T, C, undefv, eqF, aeq, sheqs, sheq, rdCells, cellsOf, fill, putAt, if_true, if_false, reduceIte, ↓reduceIte, reduceCtorEq, eq_self, Nat.reduceEqDiff, Nat.reduceAdd, Nat.reduceSub, Nat.reduceMul, Nat.reduceLT, Nat.reduceLeDiff, Nat.reducePow, Nat.reduceDiv, Nat.reduceMod, Int.reduceLT, Int.reduceLE, Int.reduceGT, Int.reduceGE, Int.reduceToNat, Int.reducePow, Int.reduceNeg, Int.reduceBEq, Int.reduceBNe, Int.reduceEq, Int.reduceAdd, Int.reduceSub, Int.reduceMul, cellv, sc, flatv, refs, refsF, refsC, syR, Int.le_refl, hF.not0, hF.not1, hF.up0, hF.up1, k0.hr, k0.hq, ac29, hb, hfr, hfq, hid, hlen, h2, h3, h4, bn, hfL, List.set_set]
theorem tsteps_walk {L' : Nat} (hF : Fit hq.length L' H) (k : TbOk hq.length r q f L H A s t z ix x) :
    Lrun env (.func 27) [fP f] ⟨put (hq.set f (fB r s t z ix x.length row told steps)) r q A, L', H, d⟩ = some (.int .i64 steps, ⟨put (hq.set f (fB r s t z ix x.length row told steps)) r q A, L', H, d⟩) := by
  have hlen : ∀ B, (hq.set f B).length = hq.length := fun B => List.length_set
  have hfr := k.fr
  have hfq := k.fq
  have hid := k.hid
  have k0 := k.ok
  have hb : ∀ B, (hq.set f B)[f]? = some B := fun B => List.getElem?_set_self k.fn
  unfold fB
  rw [Lrun_sym 27 _ _ fn27]
  simp (disch := (first | omega | (simp only [lnE, put_length] <;> omega) | (refine Fit.mono ‹Fit _ _ _› ?_ <;> (simp only [lnE, put_length] <;> omega)) | (refine Fit.draw ‹Fit _ _ _› ?_ ?_ <;> (simp only [lnE, put_length] <;> omega)) | (refine Fit.hid1 ‹Fit _ _ _› ?_ ?_ <;> (simp only [lnE, put_length] <;> omega)) | (refine Fit.draw1 ‹Fit _ _ _› ?_ ?_ ?_ <;> (simp only [lnE, put_length] <;> omega)) | (refine Fit.range0 ?_ ?_ <;> (simp only [lnE, put_length] <;> omega)) | (refine ArOk.mono ‹ArOk _ _ _ _ _› ?_ <;> (simp only [lnE, put_length] <;> omega)) | (refine ArOk.hid ‹ArOk _ _ _ _ _› ?_ ?_ <;> (simp only [lnE, put_length] <;> omega)) | (refine ArOk.hid0 ‹ArOk _ _ _ _ _› ?_ ?_ <;> (simp only [lnE, put_length] <;> omega)) | ((intro xr hxr; simp [AM.refs, refsF, refsC] at hxr) <;> (simp only [lnE, put_length] <;> omega)) | fail)) only [syA, syB, argFr, D, E, T, C, undefv, eqF, aeq, sheqs, sheq, rdCells, cellsOf, fill, putAt, if_true, if_false, reduceIte, ↓reduceIte, reduceCtorEq, eq_self, Nat.reduceEqDiff, Nat.reduceAdd, Nat.reduceSub, Nat.reduceMul, Nat.reduceLT, Nat.reduceLeDiff, Nat.reducePow, Nat.reduceDiv, Nat.reduceMod, Int.reduceLT, Int.reduceLE, Int.reduceGT, Int.reduceGE, Int.reduceToNat, Int.reducePow, Int.reduceNeg, Int.reduceBEq, Int.reduceBNe, Int.reduceEq, Int.reduceAdd, Int.reduceSub, Int.reduceMul, cellv, sc, flatv, refs, refsF, refsC, syR, Int.le_refl, hF.not0, hF.not1, hF.up0, hF.up1, k0.hr, k0.hq, ac27, hb, hfr, hfq, hid, hlen]
theorem ttold_walk {L' : Nat} (hF : Fit hq.length L' H) (k : TbOk hq.length r q f L H A s t z ix x) :
    Lrun env (.func 28) [fP f] ⟨put (hq.set f (fB r s t z ix x.length row told steps)) r q A, L', H, d⟩ = some (.int .i64 told, ⟨put (hq.set f (fB r s t z ix x.length row told steps)) r q A, L', H, d⟩) := by
  have hlen : ∀ B, (hq.set f B).length = hq.length := fun B => List.length_set
  have hfr := k.fr
  have hfq := k.fq
  have hid := k.hid
  have k0 := k.ok
  have hb : ∀ B, (hq.set f B)[f]? = some B := fun B => List.getElem?_set_self k.fn
  unfold fB
  rw [Lrun_sym 28 _ _ fn28]
  simp (disch := (first | omega | (simp only [lnE, put_length] <;> omega) | (refine Fit.mono ‹Fit _ _ _› ?_ <;> (simp only [lnE, put_length] <;> omega)) | (refine Fit.draw ‹Fit _ _ _› ?_ ?_ <;> (simp only [lnE, put_length] <;> omega)) | (refine Fit.hid1 ‹Fit _ _ _› ?_ ?_ <;> (simp only [lnE, put_length] <;> omega)) | (refine Fit.draw1 ‹Fit _ _ _› ?_ ?_ ?_ <;> (simp only [lnE, put_length] <;> omega)) | (refine Fit.range0 ?_ ?_ <;> (simp only [lnE, put_length] <;> omega)) | (refine ArOk.mono ‹ArOk _ _ _ _ _› ?_ <;> (simp only [lnE, put_length] <;> omega)) | (refine ArOk.hid ‹ArOk _ _ _ _ _› ?_ ?_ <;> (simp only [lnE, put_length] <;> omega)) | (refine ArOk.hid0 ‹ArOk _ _ _ _ _› ?_ ?_ <;> (simp only [lnE, put_length] <;> omega)) | ((intro xr hxr; simp [AM.refs, refsF, refsC] at hxr) <;> (simp only [lnE, put_length] <;> omega)) | fail)) only [syA, syB, argFr, D, E, T, C, undefv, eqF, aeq, sheqs, sheq, rdCells, cellsOf, fill, putAt, if_true, if_false, reduceIte, ↓reduceIte, reduceCtorEq, eq_self, Nat.reduceEqDiff, Nat.reduceAdd, Nat.reduceSub, Nat.reduceMul, Nat.reduceLT, Nat.reduceLeDiff, Nat.reducePow, Nat.reduceDiv, Nat.reduceMod, Int.reduceLT, Int.reduceLE, Int.reduceGT, Int.reduceGE, Int.reduceToNat, Int.reducePow, Int.reduceNeg, Int.reduceBEq, Int.reduceBNe, Int.reduceEq, Int.reduceAdd, Int.reduceSub, Int.reduceMul, cellv, sc, flatv, refs, refsF, refsC, syR, Int.le_refl, hF.not0, hF.not1, hF.up0, hF.up1, k0.hr, k0.hq, ac28, hb, hfr, hfq, hid, hlen]
theorem treset_walk (hF : Fit hq.length L H) (k : TbOk hq.length r q f L H A s t z ix x) :
    Lrun env (.func 43) [fP f] ⟨put (hq.set f (fB r s t z ix x.length row told steps)) r q A, L, H, d⟩ = some (.tuple #[], ⟨put (hq.set f (fB r s t z ix x.length 0 0 steps)) r q A, L, H, d⟩) := by
  have hlen : ∀ B, (hq.set f B).length = hq.length := fun B => List.length_set
  have hfr := k.fr
  have hfq := k.fq
  have hid := k.hid
  have k0 := k.ok
  have hfL : ¬ f < L := by have := k.fL; omega
  have hb : ∀ B, (hq.set f B)[f]? = some B := fun B => List.getElem?_set_self k.fn
  unfold fB
  rw [Lrun_sym 43 _ _ fn43]
  simp (disch := (first | omega | (simp only [lnE, put_length] <;> omega) | (refine Fit.mono ‹Fit _ _ _› ?_ <;> (simp only [lnE, put_length] <;> omega)) | (refine Fit.draw ‹Fit _ _ _› ?_ ?_ <;> (simp only [lnE, put_length] <;> omega)) | (refine Fit.hid1 ‹Fit _ _ _› ?_ ?_ <;> (simp only [lnE, put_length] <;> omega)) | (refine Fit.draw1 ‹Fit _ _ _› ?_ ?_ ?_ <;> (simp only [lnE, put_length] <;> omega)) | (refine Fit.range0 ?_ ?_ <;> (simp only [lnE, put_length] <;> omega)) | (refine ArOk.mono ‹ArOk _ _ _ _ _› ?_ <;> (simp only [lnE, put_length] <;> omega)) | (refine ArOk.hid ‹ArOk _ _ _ _ _› ?_ ?_ <;> (simp only [lnE, put_length] <;> omega)) | (refine ArOk.hid0 ‹ArOk _ _ _ _ _› ?_ ?_ <;> (simp only [lnE, put_length] <;> omega)) | ((intro xr hxr; simp [AM.refs, refsF, refsC] at hxr) <;> (simp only [lnE, put_length] <;> omega)) | fail)) only [syA, syB, argFr, D, E, T, C, undefv, eqF, aeq, sheqs, sheq, rdCells, cellsOf, fill, putAt, if_true, if_false, reduceIte, ↓reduceIte, reduceCtorEq, eq_self, Nat.reduceEqDiff, Nat.reduceAdd, Nat.reduceSub, Nat.reduceMul, Nat.reduceLT, Nat.reduceLeDiff, Nat.reducePow, Nat.reduceDiv, Nat.reduceMod, Int.reduceLT, Int.reduceLE, Int.reduceGT, Int.reduceGE, Int.reduceToNat, Int.reducePow, Int.reduceNeg, Int.reduceBEq, Int.reduceBNe, Int.reduceEq, Int.reduceAdd, Int.reduceSub, Int.reduceMul, cellv, sc, flatv, refs, refsF, refsC, syR, Int.le_refl, hF.not0, hF.not1, hF.up0, hF.up1, k0.hr, k0.hq, ac43, hb, hfr, hfq, hid, hlen, hfL, List.set_set, Int.natCast_zero]
theorem tbvalid_loop (hF : Fit hq.length L H) (k : TbOk hq.length r q f L H A s t z ix x) {r0 : Nat} : ∀ (n i : Nat), i + n = x.length → ∀ (row st : Nat), row ≤ x.length → st + n ≤ 1099511627776 → ∃ e fr,
    Liter env lb26_0 [3, 0, 13, 14] hq.length [(3, .int .i64 row), (0, fP f), (13, .int .i64 x.length), (14, .int .i64 i)] ⟨put (hq.set f (fB r s t z ix x.length r0 told st)) r q A, L, H, []⟩ =
      some (e, fr, ⟨put (hq.set f (fB r s t z ix x.length r0 told (vw (fun _ => 0) x ix n row st).2)) r q A, L, H, []⟩) ∧
      match (vw (fun _ => 0) x ix n row st).1 with
      | some r' => e = .exit 0 ∧ fr.get 3 = some (.int .i64 (r' : Nat)) ∧ fr.get 0 = some (fP f)
      | none => e = .ret ∧ fr.get 2 = some (.bool false)
  | 0, i, hn, row, st, hr, hs => by
    obtain rfl : i = x.length := by omega
    simp only [vw]
    rw [iter_by lb26_0.eq_1]
    simp (disch := (first | omega | (simp only [lnE, put_length] <;> omega) | (refine Fit.mono ‹Fit _ _ _› ?_ <;> (simp only [lnE, put_length] <;> omega)) | (refine Fit.draw ‹Fit _ _ _› ?_ ?_ <;> (simp only [lnE, put_length] <;> omega)) | (refine Fit.hid1 ‹Fit _ _ _› ?_ ?_ <;> (simp only [lnE, put_length] <;> omega)) | (refine Fit.draw1 ‹Fit _ _ _› ?_ ?_ ?_ <;> (simp only [lnE, put_length] <;> omega)) | (refine Fit.range0 ?_ ?_ <;> (simp only [lnE, put_length] <;> omega)) | (refine ArOk.mono ‹ArOk _ _ _ _ _› ?_ <;> (simp only [lnE, put_length] <;> omega)) | (refine ArOk.hid ‹ArOk _ _ _ _ _› ?_ ?_ <;> (simp only [lnE, put_length] <;> omega)) | (refine ArOk.hid0 ‹ArOk _ _ _ _ _› ?_ ?_ <;> (simp only [lnE, put_length] <;> omega)) | ((intro xr hxr; simp [AM.refs, refsF, refsC] at hxr) <;> (simp only [lnE, put_length] <;> omega)) | fail)) only [syA, syB, argFr, D, E, T, C, undefv, eqF, aeq, sheqs, sheq, rdCells, cellsOf, fill, putAt, if_true, if_false, reduceIte, ↓reduceIte, reduceCtorEq, eq_self, Nat.reduceEqDiff, Nat.reduceAdd, Nat.reduceSub, Nat.reduceMul, Nat.reduceLT, Nat.reduceLeDiff, Nat.reducePow, Nat.reduceDiv, Nat.reduceMod, Int.reduceLT, Int.reduceLE, Int.reduceGT, Int.reduceGE, Int.reduceToNat, Int.reducePow, Int.reduceNeg, Int.reduceBEq, Int.reduceBNe, Int.reduceEq, Int.reduceAdd, Int.reduceSub, Int.reduceMul, cellv, sc, flatv, refs, refsF, refsC, syR, Int.le_refl]
    exact ⟨_, _, rfl, rfl, rfl, rfl⟩
  | n + 1, i, hn, row, st, hr, hs => by
    have hlen : ∀ B, (put (hq.set f B) r q A).length = hq.length := fun B => by rw [put_length, List.length_set]
    have hsm := k.small
    have k0 := k.ok
    have c1 : (i : Int) < x.length := by omega
    have hgc := fun fr B => gcFr_same (base := hq.length) fr (put (hq.set f B) r q A) L H [] (by rw [hlen]; exact Nat.le_refl _)
    by_cases hri : row = ix
    · subst hri
      have bn := fun d => tbehind_none (d := d) hF k (row := r0) (told := told) (steps := st)
      simp only [vw, if_true]
      rw [iter_by lb26_0.eq_1]
      simp (disch := (first | omega | (simp only [lnE, put_length] <;> omega) | (refine Fit.mono ‹Fit _ _ _› ?_ <;> (simp only [lnE, put_length] <;> omega)) | (refine Fit.draw ‹Fit _ _ _› ?_ ?_ <;> (simp only [lnE, put_length] <;> omega)) | (refine Fit.hid1 ‹Fit _ _ _› ?_ ?_ <;> (simp only [lnE, put_length] <;> omega)) | (refine Fit.draw1 ‹Fit _ _ _› ?_ ?_ ?_ <;> (simp only [lnE, put_length] <;> omega)) | (refine Fit.range0 ?_ ?_ <;> (simp only [lnE, put_length] <;> omega)) | (refine ArOk.mono ‹ArOk _ _ _ _ _› ?_ <;> (simp only [lnE, put_length] <;> omega)) | (refine ArOk.hid ‹ArOk _ _ _ _ _› ?_ ?_ <;> (simp only [lnE, put_length] <;> omega)) | (refine ArOk.hid0 ‹ArOk _ _ _ _ _› ?_ ?_ <;> (simp only [lnE, put_length] <;> omega)) | ((intro xr hxr; simp [AM.refs, refsF, refsC] at hxr) <;> (simp only [lnE, put_length] <;> omega)) | fail)) only [syA, syB, argFr, D, E, T, C, undefv, eqF, aeq, sheqs, sheq, rdCells, cellsOf, fill, putAt, if_true, if_false, reduceIte, ↓reduceIte, reduceCtorEq, eq_self, Nat.reduceEqDiff, Nat.reduceAdd, Nat.reduceSub, Nat.reduceMul, Nat.reduceLT, Nat.reduceLeDiff, Nat.reducePow, Nat.reduceDiv, Nat.reduceMod, Int.reduceLT, Int.reduceLE, Int.reduceGT, Int.reduceGE, Int.reduceToNat, Int.reducePow, Int.reduceNeg, Int.reduceBEq, Int.reduceBNe, Int.reduceEq, Int.reduceAdd, Int.reduceSub, Int.reduceMul, cellv, sc, flatv, refs, refsF, refsC, syR, Int.le_refl, hF.not0, hF.not1, hF.up0, hF.up1, k0.hr, k0.hq, c1, bn]
      exact ⟨_, _, rfl, rfl, rfl⟩
    · have hx := atR_lt' hr k.ixm hri
      have bn := fun d => tbehind_walk (d := d) hF k (row := r0) (told := told) (steps := st) hr hri hx (by omega)
      have hnx := nxR_le hr k.ixm hri
      obtain ⟨e, fr, f1, f2⟩ := tbvalid_loop hF k (r0 := r0) n (i + 1) (by omega) (nxR x ix row) (st + 1) hnx (by omega)
      simp only [Int.natCast_add, Int.natCast_one] at f1
      simp only [vw, if_neg hri, Nat.add_zero]
      rw [iter_by lb26_0.eq_1]
      simp (disch := (first | omega | (simp only [lnE, put_length] <;> omega) | (refine Fit.mono ‹Fit _ _ _› ?_ <;> (simp only [lnE, put_length] <;> omega)) | (refine Fit.draw ‹Fit _ _ _› ?_ ?_ <;> (simp only [lnE, put_length] <;> omega)) | (refine Fit.hid1 ‹Fit _ _ _› ?_ ?_ <;> (simp only [lnE, put_length] <;> omega)) | (refine Fit.draw1 ‹Fit _ _ _› ?_ ?_ ?_ <;> (simp only [lnE, put_length] <;> omega)) | (refine Fit.range0 ?_ ?_ <;> (simp only [lnE, put_length] <;> omega)) | (refine ArOk.mono ‹ArOk _ _ _ _ _› ?_ <;> (simp only [lnE, put_length] <;> omega)) | (refine ArOk.hid ‹ArOk _ _ _ _ _› ?_ ?_ <;> (simp only [lnE, put_length] <;> omega)) | (refine ArOk.hid0 ‹ArOk _ _ _ _ _› ?_ ?_ <;> (simp only [lnE, put_length] <;> omega)) | ((intro xr hxr; simp [AM.refs, refsF, refsC] at hxr) <;> (simp only [lnE, put_length] <;> omega)) | fail)) only [syA, syB, argFr, D, E, T, C, undefv, eqF, aeq, sheqs, sheq, rdCells, cellsOf, fill, putAt, if_true, if_false, reduceIte, ↓reduceIte, reduceCtorEq, eq_self, Nat.reduceEqDiff, Nat.reduceAdd, Nat.reduceSub, Nat.reduceMul, Nat.reduceLT, Nat.reduceLeDiff, Nat.reducePow, Nat.reduceDiv, Nat.reduceMod, Int.reduceLT, Int.reduceLE, Int.reduceGT, Int.reduceGE, Int.reduceToNat, Int.reducePow, Int.reduceNeg, Int.reduceBEq, Int.reduceBNe, Int.reduceEq, Int.reduceAdd, Int.reduceSub, Int.reduceMul, cellv, sc, flatv, refs, refsF, refsC, syR, Int.le_refl, hF.not0, hF.not1, hF.up0, hF.up1, k0.hr, k0.hq, c1, bn, hgc, f1]
      exact ⟨e, fr, rfl, f2⟩
theorem tbvalid_walk (hF : Fit hq.length L H) (k : TbOk hq.length r q f L H A s t z ix x) (hs : steps + x.length ≤ 1099511627776) :
    Lrun env (.func 26) [fP f] ⟨put (hq.set f (fB r s t z ix x.length row told steps)) r q A, L, H, d⟩ = some (.bool (decide ((vw (fun _ => 0) x ix x.length 0 0).1 = some ix)), ⟨put (hq.set f (fB r s t z ix x.length row told (vw (fun _ => 0) x ix x.length 0 steps).2)) r q A, L, H, d⟩) := by
  have hlen : ∀ B, (hq.set f B).length = hq.length := fun B => List.length_set
  have hfr := k.fr
  have hfq := k.fq
  have hid := k.hid
  have k0 := k.ok
  have hb : ∀ B, (hq.set f B)[f]? = some B := fun B => List.getElem?_set_self k.fn
  obtain ⟨e, fr, f1, f2⟩ := tbvalid_loop (told := told) hF k (r0 := row) x.length 0 (by omega) 0 steps (Nat.zero_le _) hs
  have hv : (vw (fun _ => 0) x ix x.length 0 0).1 = (vw (fun _ => 0) x ix x.length 0 steps).1 := by rw [vw_add _ _ _ _ _ steps]
  rw [hv]
  generalize vw (fun _ => 0) x ix x.length 0 steps = V at *
  obtain ⟨V1, V2⟩ := V
  simp only [Int.natCast_zero] at f1
  unfold fB at f1 ⊢
  rw [Lrun_sym 26 _ _ fn26]
  cases V1 with
  | none =>
    obtain ⟨rfl, f2⟩ := f2
    simp (disch := (first | omega | (simp only [lnE, put_length] <;> omega) | (refine Fit.mono ‹Fit _ _ _› ?_ <;> (simp only [lnE, put_length] <;> omega)) | (refine Fit.draw ‹Fit _ _ _› ?_ ?_ <;> (simp only [lnE, put_length] <;> omega)) | (refine Fit.hid1 ‹Fit _ _ _› ?_ ?_ <;> (simp only [lnE, put_length] <;> omega)) | (refine Fit.draw1 ‹Fit _ _ _› ?_ ?_ ?_ <;> (simp only [lnE, put_length] <;> omega)) | (refine Fit.range0 ?_ ?_ <;> (simp only [lnE, put_length] <;> omega)) | (refine ArOk.mono ‹ArOk _ _ _ _ _› ?_ <;> (simp only [lnE, put_length] <;> omega)) | (refine ArOk.hid ‹ArOk _ _ _ _ _› ?_ ?_ <;> (simp only [lnE, put_length] <;> omega)) | (refine ArOk.hid0 ‹ArOk _ _ _ _ _› ?_ ?_ <;> (simp only [lnE, put_length] <;> omega)) | ((intro xr hxr; simp [AM.refs, refsF, refsC] at hxr) <;> (simp only [lnE, put_length] <;> omega)) | fail)) only [syA, syB, argFr, D, E, T, C, undefv, eqF, aeq, sheqs, sheq, rdCells, cellsOf, fill, putAt, if_true, if_false, reduceIte, ↓reduceIte, reduceCtorEq, eq_self, Nat.reduceEqDiff, Nat.reduceAdd, Nat.reduceSub, Nat.reduceMul, Nat.reduceLT, Nat.reduceLeDiff, Nat.reducePow, Nat.reduceDiv, Nat.reduceMod, Int.reduceLT, Int.reduceLE, Int.reduceGT, Int.reduceGE, Int.reduceToNat, Int.reducePow, Int.reduceNeg, Int.reduceBEq, Int.reduceBNe, Int.reduceEq, Int.reduceAdd, Int.reduceSub, Int.reduceMul, cellv, sc, flatv, refs, refsF, refsC, syR, Int.le_refl, hF.not0, hF.not1, hF.up0, hF.up1, k0.hr, k0.hq, ac26, hb, hfr, hfq, hid, hlen, f1, f2]
  | some r' =>
    obtain ⟨rfl, f2, f3⟩ := f2
    have hbe : (((r' : Nat) : Int) == ((ix : Nat) : Int)) = decide (r' = ix) := by rw [Bool.eq_iff_iff]; simp; omega
    simp (disch := (first | omega | (simp only [lnE, put_length] <;> omega) | (refine Fit.mono ‹Fit _ _ _› ?_ <;> (simp only [lnE, put_length] <;> omega)) | (refine Fit.draw ‹Fit _ _ _› ?_ ?_ <;> (simp only [lnE, put_length] <;> omega)) | (refine Fit.hid1 ‹Fit _ _ _› ?_ ?_ <;> (simp only [lnE, put_length] <;> omega)) | (refine Fit.draw1 ‹Fit _ _ _› ?_ ?_ ?_ <;> (simp only [lnE, put_length] <;> omega)) | (refine Fit.range0 ?_ ?_ <;> (simp only [lnE, put_length] <;> omega)) | (refine ArOk.mono ‹ArOk _ _ _ _ _› ?_ <;> (simp only [lnE, put_length] <;> omega)) | (refine ArOk.hid ‹ArOk _ _ _ _ _› ?_ ?_ <;> (simp only [lnE, put_length] <;> omega)) | (refine ArOk.hid0 ‹ArOk _ _ _ _ _› ?_ ?_ <;> (simp only [lnE, put_length] <;> omega)) | ((intro xr hxr; simp [AM.refs, refsF, refsC] at hxr) <;> (simp only [lnE, put_length] <;> omega)) | fail)) only [syA, syB, argFr, D, E, T, C, undefv, eqF, aeq, sheqs, sheq, rdCells, cellsOf, fill, putAt, if_true, if_false, reduceIte, ↓reduceIte, reduceCtorEq, eq_self, Nat.reduceEqDiff, Nat.reduceAdd, Nat.reduceSub, Nat.reduceMul, Nat.reduceLT, Nat.reduceLeDiff, Nat.reducePow, Nat.reduceDiv, Nat.reduceMod, Int.reduceLT, Int.reduceLE, Int.reduceGT, Int.reduceGE, Int.reduceToNat, Int.reducePow, Int.reduceNeg, Int.reduceBEq, Int.reduceBNe, Int.reduceEq, Int.reduceAdd, Int.reduceSub, Int.reduceMul, cellv, sc, flatv, refs, refsF, refsC, syR, Int.le_refl, hF.not0, hF.not1, hF.up0, hF.up1, k0.hr, k0.hq, ac26, hb, hfr, hfq, hid, hlen, f1, f2, f3, hbe]
    simp only [Option.some.injEq, hbe]
end
end ArA
end Go.Proofs.Ytlbdgbfblgjjgaa
