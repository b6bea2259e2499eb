/-
  HEADERS: walk of ValidMark. Conditions: none.
-/
import Derived.Test.YtpjjkmfidghkjaaHdD
set_option linter.all false
namespace Go.Proofs.Ytpjjkmfidghkjaa
namespace VarA
open Go Go.RowKit AM ArEnv

/-- The state of a marker: the part, the number in progress, M, P, the checksum, how many of its bytes. -/
structure MS where
  a : Int
  v : Int
  k : Int
  m : Int
  p : Int
  s : Nat
  y : Int
/-- Is the state right, but for n? -/
def mRight (n : Int) (t : MS) : Bool :=
  if t.a = 0 then decide (t.v = 0 ∧ t.k = 0 ∧ t.m = 0 ∧ t.p = 0 ∧ t.s = 0 ∧ t.y = 0)
  else if t.a = 1 then comes t.v t.k n && decide (t.m = 0 ∧ t.p = 0 ∧ t.s = 0 ∧ t.y = 0)
  else if t.a = 2 then inR t.m 1 n && comes t.v t.k t.m && decide (t.p = 0 ∧ t.s = 0 ∧ t.y = 0)
  else if t.a = 3 then inR t.m 1 n && inR t.p 1 t.m && sums t.s t.y && decide (t.v = 0 ∧ t.k = 0)
  else if t.a = 4 then inR t.m 1 n && inR t.p 1 t.m && decide (t.v = 0 ∧ t.k = 0 ∧ t.y = 4)
  else if t.a = 5 then sums t.s t.y && decide (t.v = 0 ∧ t.k = 0 ∧ t.m = 0 ∧ t.p = 0)
  else if t.a = 6 then decide (t.v = 0 ∧ t.k = 0 ∧ t.m = 0 ∧ t.p = 0 ∧ t.y = 4)
  else false
def mValid (n : Int) (t : MS) : Bool := inR n 1 65536 && mRight n t
theorem rep5 (x : Value) : List.replicate 5 x = [x, x, x, x, x] := rfl
theorem rep7 (x : Sh) : List.replicate 7 x = [x, x, x, x, x, x, x] := rfl
section
variable (n v k m p y : Int) (s : Nat) {hp : List Blk} {L : Nat} {H d : List Nat} (hF : Fit hp.length L H)
theorem mvalid_out (a : Int) (hi : inR n 1 65536 = false) (hF : Fit hp.length L H) : Lrun env (.func 16) [.int .i64 n, .agg #[.int .i64 a, .int .i64 v, .int .i64 k, .int .i64 m, .int .i64 p, .int .u32 s, .int .i64 y]] ⟨hp, L, H, d⟩ = some (.bool (mValid n ⟨a, v, k, m, p, s, y⟩), ⟨hp, L, H, d⟩) := by
  rw [Lrun_sym 16 _ _ fn16]
  have e : mValid n ⟨a, v, k, m, p, s, y⟩ = false := by simp [mValid, hi]
  rw [e]
  cases hm : inR m 1 n
  all_goals simp (disch := (first | omega | (simp only [lnE] <;> omega) | (refine Fit.mono ‹Fit _ _ _› ?_ <;> (simp only [lnE] <;> omega)) | (refine Fit.draw ‹Fit _ _ _› ?_ ?_ <;> (simp only [lnE] <;> omega)) | (refine Fit.hid1 ‹Fit _ _ _› ?_ ?_ <;> (simp only [lnE] <;> omega)) | (refine Fit.hidc1 ‹Fit _ _ _› ?_ ?_ <;> (simp only [lnE] <;> omega)) | (refine Fit.hidc2 ‹Fit _ _ _› ?_ ?_ ?_ <;> (simp only [lnE] <;> omega)) | (refine Fit.draw1 ‹Fit _ _ _› ?_ ?_ ?_ <;> (simp only [lnE] <;> omega)) | (refine Fit.range0 ?_ ?_ <;> (simp only [lnE] <;> omega)) | fail)) only [syA, syB, argFr, D, E, T, C, undefv, eqF, aeq, sheqs, sheq, rdCells, cellsOf, fill, putAt, if_true, if_false, reduceIte, ↓reduceIte, reduceCtorEq, eq_self, Nat.reduceEqDiff, Nat.reduceAdd, Nat.reduceSub, Nat.reduceMul, Nat.reduceLT, Nat.reduceLeDiff, Nat.reducePow, Nat.reduceDiv, Nat.reduceMod, Int.reduceLT, Int.reduceLE, Int.reduceGT, Int.reduceGE, Int.reduceToNat, Int.reducePow, Int.reduceNeg, Int.reduceBEq, Int.reduceBNe, Int.reduceEq, Int.reduceAdd, Int.reduceSub, Int.reduceMul, cellv, sc, flatv, refs, refsF, refsC, hF.not0, hF.not1, hF.up0, hF.up1, ac16, within_walk, hm, hi]
theorem mvalid_0 (hi : inR n 1 65536 = true) (hF : Fit hp.length L H) : Lrun env (.func 16) [.int .i64 n, .agg #[.int .i64 0, .int .i64 v, .int .i64 k, .int .i64 m, .int .i64 p, .int .u32 s, .int .i64 y]] ⟨hp, L, H, d⟩ = some (.bool (mValid n ⟨0, v, k, m, p, s, y⟩), ⟨hp, L, H, d⟩) := by
  rw [Lrun_sym 16 _ _ fn16]
  cases hm : inR m 1 n
  all_goals
    simp (disch := (first | omega | (simp only [lnE] <;> omega) | (refine Fit.mono ‹Fit _ _ _› ?_ <;> (simp only [lnE] <;> omega)) | (refine Fit.draw ‹Fit _ _ _› ?_ ?_ <;> (simp only [lnE] <;> omega)) | (refine Fit.hid1 ‹Fit _ _ _› ?_ ?_ <;> (simp only [lnE] <;> omega)) | (refine Fit.hidc1 ‹Fit _ _ _› ?_ ?_ <;> (simp only [lnE] <;> omega)) | (refine Fit.hidc2 ‹Fit _ _ _› ?_ ?_ ?_ <;> (simp only [lnE] <;> omega)) | (refine Fit.draw1 ‹Fit _ _ _› ?_ ?_ ?_ <;> (simp only [lnE] <;> omega)) | (refine Fit.range0 ?_ ?_ <;> (simp only [lnE] <;> omega)) | fail)) only [syA, syB, argFr, D, E, T, C, undefv, eqF, aeq, sheqs, sheq, rdCells, cellsOf, fill, putAt, if_true, if_false, reduceIte, ↓reduceIte, reduceCtorEq, eq_self, Nat.reduceEqDiff, Nat.reduceAdd, Nat.reduceSub, Nat.reduceMul, Nat.reduceLT, Nat.reduceLeDiff, Nat.reducePow, Nat.reduceDiv, Nat.reduceMod, Int.reduceLT, Int.reduceLE, Int.reduceGT, Int.reduceGE, Int.reduceToNat, Int.reducePow, Int.reduceNeg, Int.reduceBEq, Int.reduceBNe, Int.reduceEq, Int.reduceAdd, Int.reduceSub, Int.reduceMul, cellv, sc, flatv, refs, refsF, refsC, hF.not0, hF.not1, hF.up0, hF.up1, ac16, within_walk, hm, hi, rep5, rep7]
    refine some_bool ?_
    rw [Bool.eq_iff_iff]
    simp [mValid, mRight, hi]
    try omega
theorem mvalid_1 (hi : inR n 1 65536 = true) (hF : Fit hp.length L H) : Lrun env (.func 16) [.int .i64 n, .agg #[.int .i64 1, .int .i64 v, .int .i64 k, .int .i64 m, .int .i64 p, .int .u32 s, .int .i64 y]] ⟨hp, L, H, d⟩ = some (.bool (mValid n ⟨1, v, k, m, p, s, y⟩), ⟨hp, L, H, d⟩) := by
  rw [Lrun_sym 16 _ _ fn16]
  cases hm : inR m 1 n <;> cases hc : comes v k n
  all_goals
    simp (disch := (first | omega | (simp only [lnE] <;> omega) | (refine Fit.mono ‹Fit _ _ _› ?_ <;> (simp only [lnE] <;> omega)) | (refine Fit.draw ‹Fit _ _ _› ?_ ?_ <;> (simp only [lnE] <;> omega)) | (refine Fit.hid1 ‹Fit _ _ _› ?_ ?_ <;> (simp only [lnE] <;> omega)) | (refine Fit.hidc1 ‹Fit _ _ _› ?_ ?_ <;> (simp only [lnE] <;> omega)) | (refine Fit.hidc2 ‹Fit _ _ _› ?_ ?_ ?_ <;> (simp only [lnE] <;> omega)) | (refine Fit.draw1 ‹Fit _ _ _› ?_ ?_ ?_ <;> (simp only [lnE] <;> omega)) | (refine Fit.range0 ?_ ?_ <;> (simp only [lnE] <;> omega)) | fail)) only [syA, syB, argFr, D, E, T, C, undefv, eqF, aeq, sheqs, sheq, rdCells, cellsOf, fill, putAt, if_true, if_false, reduceIte, ↓reduceIte, reduceCtorEq, eq_self, Nat.reduceEqDiff, Nat.reduceAdd, Nat.reduceSub, Nat.reduceMul, Nat.reduceLT, Nat.reduceLeDiff, Nat.reducePow, Nat.reduceDiv, Nat.reduceMod, Int.reduceLT, Int.reduceLE, Int.reduceGT, Int.reduceGE, Int.reduceToNat, Int.reducePow, Int.reduceNeg, Int.reduceBEq, Int.reduceBNe, Int.reduceEq, Int.reduceAdd, Int.reduceSub, Int.reduceMul, cellv, sc, flatv, refs, refsF, refsC, hF.not0, hF.not1, hF.up0, hF.up1, ac16, within_walk, comes_walk, hm, hi, hc, rep5, rep7]
    refine some_bool ?_
    rw [Bool.eq_iff_iff]
    simp [mValid, mRight, hi, hc]
    try omega
theorem mvalid_2 (hi : inR n 1 65536 = true) (hF : Fit hp.length L H) : Lrun env (.func 16) [.int .i64 n, .agg #[.int .i64 2, .int .i64 v, .int .i64 k, .int .i64 m, .int .i64 p, .int .u32 s, .int .i64 y]] ⟨hp, L, H, d⟩ = some (.bool (mValid n ⟨2, v, k, m, p, s, y⟩), ⟨hp, L, H, d⟩) := by
  rw [Lrun_sym 16 _ _ fn16]
  cases hm : inR m 1 n <;> cases hc : comes v k m
  all_goals
    simp (disch := (first | omega | (simp only [lnE] <;> omega) | (refine Fit.mono ‹Fit _ _ _› ?_ <;> (simp only [lnE] <;> omega)) | (refine Fit.draw ‹Fit _ _ _› ?_ ?_ <;> (simp only [lnE] <;> omega)) | (refine Fit.hid1 ‹Fit _ _ _› ?_ ?_ <;> (simp only [lnE] <;> omega)) | (refine Fit.hidc1 ‹Fit _ _ _› ?_ ?_ <;> (simp only [lnE] <;> omega)) | (refine Fit.hidc2 ‹Fit _ _ _› ?_ ?_ ?_ <;> (simp only [lnE] <;> omega)) | (refine Fit.draw1 ‹Fit _ _ _› ?_ ?_ ?_ <;> (simp only [lnE] <;> omega)) | (refine Fit.range0 ?_ ?_ <;> (simp only [lnE] <;> omega)) | fail)) only [syA, syB, argFr, D, E, T, C, undefv, eqF, aeq, sheqs, sheq, rdCells, cellsOf, fill, putAt, if_true, if_false, reduceIte, ↓reduceIte, reduceCtorEq, eq_self, Nat.reduceEqDiff, Nat.reduceAdd, Nat.reduceSub, Nat.reduceMul, Nat.reduceLT, Nat.reduceLeDiff, Nat.reducePow, Nat.reduceDiv, Nat.reduceMod, Int.reduceLT, Int.reduceLE, Int.reduceGT, Int.reduceGE, Int.reduceToNat, Int.reducePow, Int.reduceNeg, Int.reduceBEq, Int.reduceBNe, Int.reduceEq, Int.reduceAdd, Int.reduceSub, Int.reduceMul, cellv, sc, flatv, refs, refsF, refsC, hF.not0, hF.not1, hF.up0, hF.up1, ac16, within_walk, comes_walk, hm, hi, hc, rep5, rep7]
    refine some_bool ?_
    rw [Bool.eq_iff_iff]
    simp [mValid, mRight, hi, hc, hm]
    try omega
theorem mvalid_3 (hs : s < 4294967296) (hi : inR n 1 65536 = true) (hF : Fit hp.length L H) : Lrun env (.func 16) [.int .i64 n, .agg #[.int .i64 3, .int .i64 v, .int .i64 k, .int .i64 m, .int .i64 p, .int .u32 s, .int .i64 y]] ⟨hp, L, H, d⟩ = some (.bool (mValid n ⟨3, v, k, m, p, s, y⟩), ⟨hp, L, H, d⟩) := by
  rw [Lrun_sym 16 _ _ fn16]
  have hsw := fun (hp : List Blk) L H d => sums_walk s hs y (hp := hp) (L := L) (H := H) (d := d)
  cases hm : inR m 1 n <;> cases hq : inR p 1 m <;> cases hc : sums s y
  all_goals
    simp (disch := (first | omega | (simp only [lnE] <;> omega) | (refine Fit.mono ‹Fit _ _ _› ?_ <;> (simp only [lnE] <;> omega)) | (refine Fit.draw ‹Fit _ _ _› ?_ ?_ <;> (simp only [lnE] <;> omega)) | (refine Fit.hid1 ‹Fit _ _ _› ?_ ?_ <;> (simp only [lnE] <;> omega)) | (refine Fit.hidc1 ‹Fit _ _ _› ?_ ?_ <;> (simp only [lnE] <;> omega)) | (refine Fit.hidc2 ‹Fit _ _ _› ?_ ?_ ?_ <;> (simp only [lnE] <;> omega)) | (refine Fit.draw1 ‹Fit _ _ _› ?_ ?_ ?_ <;> (simp only [lnE] <;> omega)) | (refine Fit.range0 ?_ ?_ <;> (simp only [lnE] <;> omega)) | fail)) only [syA, syB, argFr, D, E, T, C, undefv, eqF, aeq, sheqs, sheq, rdCells, cellsOf, fill, putAt, if_true, if_false, reduceIte, ↓reduceIte, reduceCtorEq, eq_self, Nat.reduceEqDiff, Nat.reduceAdd, Nat.reduceSub, Nat.reduceMul, Nat.reduceLT, Nat.reduceLeDiff, Nat.reducePow, Nat.reduceDiv, Nat.reduceMod, Int.reduceLT, Int.reduceLE, Int.reduceGT, Int.reduceGE, Int.reduceToNat, Int.reducePow, Int.reduceNeg, Int.reduceBEq, Int.reduceBNe, Int.reduceEq, Int.reduceAdd, Int.reduceSub, Int.reduceMul, cellv, sc, flatv, refs, refsF, refsC, hF.not0, hF.not1, hF.up0, hF.up1, ac16, within_walk, hsw, hm, hi, hc, hq, rep5, rep7]
    refine some_bool ?_
    rw [Bool.eq_iff_iff]
    simp [mValid, mRight, hi, hc, hm, hq]
    try omega
theorem mvalid_4 (hi : inR n 1 65536 = true) (hF : Fit hp.length L H) : Lrun env (.func 16) [.int .i64 n, .agg #[.int .i64 4, .int .i64 v, .int .i64 k, .int .i64 m, .int .i64 p, .int .u32 s, .int .i64 y]] ⟨hp, L, H, d⟩ = some (.bool (mValid n ⟨4, v, k, m, p, s, y⟩), ⟨hp, L, H, d⟩) := by
  rw [Lrun_sym 16 _ _ fn16]
  cases hm : inR m 1 n <;> cases hq : inR p 1 m
  all_goals
    simp (disch := (first | omega | (simp only [lnE] <;> omega) | (refine Fit.mono ‹Fit _ _ _› ?_ <;> (simp only [lnE] <;> omega)) | (refine Fit.draw ‹Fit _ _ _› ?_ ?_ <;> (simp only [lnE] <;> omega)) | (refine Fit.hid1 ‹Fit _ _ _› ?_ ?_ <;> (simp only [lnE] <;> omega)) | (refine Fit.hidc1 ‹Fit _ _ _› ?_ ?_ <;> (simp only [lnE] <;> omega)) | (refine Fit.hidc2 ‹Fit _ _ _› ?_ ?_ ?_ <;> (simp only [lnE] <;> omega)) | (refine Fit.draw1 ‹Fit _ _ _› ?_ ?_ ?_ <;> (simp only [lnE] <;> omega)) | (refine Fit.range0 ?_ ?_ <;> (simp only [lnE] <;> omega)) | fail)) only [syA, syB, argFr, D, E, T, C, undefv, eqF, aeq, sheqs, sheq, rdCells, cellsOf, fill, putAt, if_true, if_false, reduceIte, ↓reduceIte, reduceCtorEq, eq_self, Nat.reduceEqDiff, Nat.reduceAdd, Nat.reduceSub, Nat.reduceMul, Nat.reduceLT, Nat.reduceLeDiff, Nat.reducePow, Nat.reduceDiv, Nat.reduceMod, Int.reduceLT, Int.reduceLE, Int.reduceGT, Int.reduceGE, Int.reduceToNat, Int.reducePow, Int.reduceNeg, Int.reduceBEq, Int.reduceBNe, Int.reduceEq, Int.reduceAdd, Int.reduceSub, Int.reduceMul, cellv, sc, flatv, refs, refsF, refsC, hF.not0, hF.not1, hF.up0, hF.up1, ac16, within_walk, hm, hi, hq, rep5, rep7]
    refine some_bool ?_
    rw [Bool.eq_iff_iff]
    simp [mValid, mRight, hi, hm, hq]
    try omega
theorem mvalid_5 (hs : s < 4294967296) (hi : inR n 1 65536 = true) (hF : Fit hp.length L H) : Lrun env (.func 16) [.int .i64 n, .agg #[.int .i64 5, .int .i64 v, .int .i64 k, .int .i64 m, .int .i64 p, .int .u32 s, .int .i64 y]] ⟨hp, L, H, d⟩ = some (.bool (mValid n ⟨5, v, k, m, p, s, y⟩), ⟨hp, L, H, d⟩) := by
  rw [Lrun_sym 16 _ _ fn16]
  have hsw := fun (hp : List Blk) L H d => sums_walk s hs y (hp := hp) (L := L) (H := H) (d := d)
  cases hm : inR m 1 n <;> cases hc : sums s y
  all_goals
    simp (disch := (first | omega | (simp only [lnE] <;> omega) | (refine Fit.mono ‹Fit _ _ _› ?_ <;> (simp only [lnE] <;> omega)) | (refine Fit.draw ‹Fit _ _ _› ?_ ?_ <;> (simp only [lnE] <;> omega)) | (refine Fit.hid1 ‹Fit _ _ _› ?_ ?_ <;> (simp only [lnE] <;> omega)) | (refine Fit.hidc1 ‹Fit _ _ _› ?_ ?_ <;> (simp only [lnE] <;> omega)) | (refine Fit.hidc2 ‹Fit _ _ _› ?_ ?_ ?_ <;> (simp only [lnE] <;> omega)) | (refine Fit.draw1 ‹Fit _ _ _› ?_ ?_ ?_ <;> (simp only [lnE] <;> omega)) | (refine Fit.range0 ?_ ?_ <;> (simp only [lnE] <;> omega)) | fail)) only [syA, syB, argFr, D, E, T, C, undefv, eqF, aeq, sheqs, sheq, rdCells, cellsOf, fill, putAt, if_true, if_false, reduceIte, ↓reduceIte, reduceCtorEq, eq_self, Nat.reduceEqDiff, Nat.reduceAdd, Nat.reduceSub, Nat.reduceMul, Nat.reduceLT, Nat.reduceLeDiff, Nat.reducePow, Nat.reduceDiv, Nat.reduceMod, Int.reduceLT, Int.reduceLE, Int.reduceGT, Int.reduceGE, Int.reduceToNat, Int.reducePow, Int.reduceNeg, Int.reduceBEq, Int.reduceBNe, Int.reduceEq, Int.reduceAdd, Int.reduceSub, Int.reduceMul, cellv, sc, flatv, refs, refsF, refsC, hF.not0, hF.not1, hF.up0, hF.up1, ac16, within_walk, hsw, hm, hi, hc, rep5, rep7]
    refine some_bool ?_
    rw [Bool.eq_iff_iff]
    simp [mValid, mRight, hi, hc]
    try omega
theorem mvalid_6 (hi : inR n 1 65536 = true) (hF : Fit hp.length L H) : Lrun env (.func 16) [.int .i64 n, .agg #[.int .i64 6, .int .i64 v, .int .i64 k, .int .i64 m, .int .i64 p, .int .u32 s, .int .i64 y]] ⟨hp, L, H, d⟩ = some (.bool (mValid n ⟨6, v, k, m, p, s, y⟩), ⟨hp, L, H, d⟩) := by
  rw [Lrun_sym 16 _ _ fn16]
  cases hm : inR m 1 n
  all_goals
    simp (disch := (first | omega | (simp only [lnE] <;> omega) | (refine Fit.mono ‹Fit _ _ _› ?_ <;> (simp only [lnE] <;> omega)) | (refine Fit.draw ‹Fit _ _ _› ?_ ?_ <;> (simp only [lnE] <;> omega)) | (refine Fit.hid1 ‹Fit _ _ _› ?_ ?_ <;> (simp only [lnE] <;> omega)) | (refine Fit.hidc1 ‹Fit _ _ _› ?_ ?_ <;> (simp only [lnE] <;> omega)) | (refine Fit.hidc2 ‹Fit _ _ _› ?_ ?_ ?_ <;> (simp only [lnE] <;> omega)) | (refine Fit.draw1 ‹Fit _ _ _› ?_ ?_ ?_ <;> (simp only [lnE] <;> omega)) | (refine Fit.range0 ?_ ?_ <;> (simp only [lnE] <;> omega)) | fail)) only [syA, syB, argFr, D, E, T, C, undefv, eqF, aeq, sheqs, sheq, rdCells, cellsOf, fill, putAt, if_true, if_false, reduceIte, ↓reduceIte, reduceCtorEq, eq_self, Nat.reduceEqDiff, Nat.reduceAdd, Nat.reduceSub, Nat.reduceMul, Nat.reduceLT, Nat.reduceLeDiff, Nat.reducePow, Nat.reduceDiv, Nat.reduceMod, Int.reduceLT, Int.reduceLE, Int.reduceGT, Int.reduceGE, Int.reduceToNat, Int.reducePow, Int.reduceNeg, Int.reduceBEq, Int.reduceBNe, Int.reduceEq, Int.reduceAdd, Int.reduceSub, Int.reduceMul, cellv, sc, flatv, refs, refsF, refsC, hF.not0, hF.not1, hF.up0, hF.up1, ac16, within_walk, hm, hi, rep5, rep7]
    refine some_bool ?_
    rw [Bool.eq_iff_iff]
    simp [mValid, mRight, hi]
    try omega
theorem mvalid_7 (a : Int) (h0 : ¬ a = 0) (h1 : ¬ a = 1) (h2 : ¬ a = 2) (h3 : ¬ a = 3) (h4 : ¬ a = 4) (h5 : ¬ a = 5) (h6 : ¬ a = 6) (hi : inR n 1 65536 = true) (hF : Fit hp.length L H) :
    Lrun env (.func 16) [.int .i64 n, .agg #[.int .i64 a, .int .i64 v, .int .i64 k, .int .i64 m, .int .i64 p, .int .u32 s, .int .i64 y]] ⟨hp, L, H, d⟩ = some (.bool (mValid n ⟨a, v, k, m, p, s, y⟩), ⟨hp, L, H, d⟩) := by
  rw [Lrun_sym 16 _ _ fn16]
  have e : mValid n ⟨a, v, k, m, p, s, y⟩ = false := by simp [mValid, mRight, h0, h1, h2, h3, h4, h5, h6]
  rw [e]
  cases hm : inR m 1 n
  all_goals simp (disch := (first | omega | (simp only [lnE] <;> omega) | (refine Fit.mono ‹Fit _ _ _› ?_ <;> (simp only [lnE] <;> omega)) | (refine Fit.draw ‹Fit _ _ _› ?_ ?_ <;> (simp only [lnE] <;> omega)) | (refine Fit.hid1 ‹Fit _ _ _› ?_ ?_ <;> (simp only [lnE] <;> omega)) | (refine Fit.hidc1 ‹Fit _ _ _› ?_ ?_ <;> (simp only [lnE] <;> omega)) | (refine Fit.hidc2 ‹Fit _ _ _› ?_ ?_ ?_ <;> (simp only [lnE] <;> omega)) | (refine Fit.draw1 ‹Fit _ _ _› ?_ ?_ ?_ <;> (simp only [lnE] <;> omega)) | (refine Fit.range0 ?_ ?_ <;> (simp only [lnE] <;> omega)) | fail)) only [syA, syB, argFr, D, E, T, C, undefv, eqF, aeq, sheqs, sheq, rdCells, cellsOf, fill, putAt, if_true, if_false, reduceIte, ↓reduceIte, reduceCtorEq, eq_self, Nat.reduceEqDiff, Nat.reduceAdd, Nat.reduceSub, Nat.reduceMul, Nat.reduceLT, Nat.reduceLeDiff, Nat.reducePow, Nat.reduceDiv, Nat.reduceMod, Int.reduceLT, Int.reduceLE, Int.reduceGT, Int.reduceGE, Int.reduceToNat, Int.reducePow, Int.reduceNeg, Int.reduceBEq, Int.reduceBNe, Int.reduceEq, Int.reduceAdd, Int.reduceSub, Int.reduceMul, cellv, sc, flatv, refs, refsF, refsC, hF.not0, hF.not1, hF.up0, hF.up1, ac16, within_walk, hm, hi, h0, h1, h2, h3, h4, h5, h6]
theorem mvalid_walk (a : Int) (hs : s < 4294967296) (hF : Fit hp.length L H) : Lrun env (.func 16) [.int .i64 n, .agg #[.int .i64 a, .int .i64 v, .int .i64 k, .int .i64 m, .int .i64 p, .int .u32 s, .int .i64 y]] ⟨hp, L, H, d⟩ = some (.bool (mValid n ⟨a, v, k, m, p, s, y⟩), ⟨hp, L, H, d⟩) := by
  cases hi : inR n 1 65536 with
  | false => exact mvalid_out n v k m p y s a hi hF
  | true =>
    by_cases h0 : a = 0
    · subst h0; exact mvalid_0 n v k m p y s hi hF
    by_cases h1 : a = 1
    · subst h1; exact mvalid_1 n v k m p y s hi hF
    by_cases h2 : a = 2
    · subst h2; exact mvalid_2 n v k m p y s hi hF
    by_cases h3 : a = 3
    · subst h3; exact mvalid_3 n v k m p y s hs hi hF
    by_cases h4 : a = 4
    · subst h4; exact mvalid_4 n v k m p y s hi hF
    by_cases h5 : a = 5
    · subst h5; exact mvalid_5 n v k m p y s hs hi hF
    by_cases h6 : a = 6
    · subst h6; exact mvalid_6 n v k m p y s hi hF
    exact mvalid_7 n v k m p y s a h0 h1 h2 h3 h4 h5 h6 hi hF
end
end VarA
end Go.Proofs.Ytpjjkmfidghkjaa
