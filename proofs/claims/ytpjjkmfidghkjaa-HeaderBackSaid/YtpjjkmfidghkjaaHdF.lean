/-
  HEADERS: walks of the parts' transitions and of StepMark. Conditions: none.
-/
import Derived.Test.YtpjjkmfidghkjaaHdE
set_option linter.all false
namespace Go.Proofs.Ytpjjkmfidghkjaa
namespace VarA
open Go Go.RowKit AM ArEnv

def mVal (t : MS) : Value := .agg #[.int .i64 t.a, .int .i64 t.v, .int .i64 t.k, .int .i64 t.m, .int .i64 t.p, .int .u32 t.s, .int .i64 t.y]
def pV (r : MS × Bool) : Value := .tuple #[.agg #[.int .i64 r.1.a, .int .i64 r.1.v, .int .i64 r.1.k, .int .i64 r.1.m, .int .i64 r.1.p, .int .u32 r.1.s, .int .i64 r.1.y], .bool r.2]
/-- One byte, in a valid state that is not complete. -/
def mGo (n : Int) (t : MS) (c : Nat) : MS × Bool :=
  if t.a = 0 then (⟨if c = 0 then 5 else 1, t.v, t.k, t.m, t.p, t.s, t.y⟩, decide (c ≤ 1))
  else if t.a = 1 then (if (gStep t.v t.k c n).2.2.1 = true then ⟨2, 0, 0, (gStep t.v t.k c n).1, 0, 0, 0⟩ else ⟨1, (gStep t.v t.k c n).1, (gStep t.v t.k c n).2.1, t.m, t.p, t.s, t.y⟩, (gStep t.v t.k c n).2.2.2)
  else if t.a = 2 then (if (gStep t.v t.k c t.m).2.2.1 = true then ⟨3, 0, 0, t.m, (gStep t.v t.k c t.m).1, 0, 0⟩ else ⟨2, (gStep t.v t.k c t.m).1, (gStep t.v t.k c t.m).2.1, t.m, t.p, t.s, t.y⟩, (gStep t.v t.k c t.m).2.2.2)
  else (⟨if t.y + 1 = 4 then t.a + 1 else t.a, t.v, t.k, t.m, t.p, t.s * 256 + c, t.y + 1⟩, true)
section
variable (n v k m p y : Int) (s c : Nat) (hc : c < 256) {hp : List Blk} {L : Nat} {H d : List Nat}
theorem mark_walk (a : Int) (hc : c < 256) (hF : Fit hp.length L H) : Lrun env (.func 39) [.int .i64 n, .agg #[.int .i64 a, .int .i64 v, .int .i64 k, .int .i64 m, .int .i64 p, .int .u32 s, .int .i64 y], .int .u8 c] ⟨hp, L, H, d⟩ =
    some (pV (⟨if c = 0 then 5 else 1, v, k, m, p, s, y⟩, decide (c ≤ 1)), ⟨hp, L, H, d⟩) := by
  rw [Lrun_sym 39 _ _ fn39]
  by_cases h0 : c = 0
  · subst h0
    simp (disch := (first | omega | (simp only [lnE] <;> omega) | (refine Fit.mono ‹Fit _ _ _› ?_ <;> (simp only [lnE] <;> omega)) | (refine Fit.draw ‹Fit _ _ _› ?_ ?_ <;> (simp only [lnE] <;> omega)) | (refine Fit.hid1 ‹Fit _ _ _› ?_ ?_ <;> (simp only [lnE] <;> omega)) | (refine Fit.hidc1 ‹Fit _ _ _› ?_ ?_ <;> (simp only [lnE] <;> omega)) | (refine Fit.hidc2 ‹Fit _ _ _› ?_ ?_ ?_ <;> (simp only [lnE] <;> omega)) | (refine Fit.draw1 ‹Fit _ _ _› ?_ ?_ ?_ <;> (simp only [lnE] <;> omega)) | (refine Fit.range0 ?_ ?_ <;> (simp only [lnE] <;> omega)) | fail)) only [syA, syB, argFr, D, E, T, C, undefv, eqF, aeq, sheqs, sheq, rdCells, cellsOf, fill, putAt, if_true, if_false, reduceIte, ↓reduceIte, reduceCtorEq, eq_self, Nat.reduceEqDiff, Nat.reduceAdd, Nat.reduceSub, Nat.reduceMul, Nat.reduceLT, Nat.reduceLeDiff, Nat.reducePow, Nat.reduceDiv, Nat.reduceMod, Int.reduceLT, Int.reduceLE, Int.reduceGT, Int.reduceGE, Int.reduceToNat, Int.reducePow, Int.reduceNeg, Int.reduceBEq, Int.reduceBNe, Int.reduceEq, Int.reduceAdd, Int.reduceSub, Int.reduceMul, cellv, sc, flatv, refs, refsF, refsC, hF.not0, hF.not1, hF.up0, hF.up1, ac39, rep5, pV, Int.natCast_zero]
  · have h1 : ¬ (c : Int) = 0 := by omega
    have h2 : ((c : Int) ≤ 1) = (c ≤ 1) := by rw [eq_iff_iff]; omega
    simp (disch := (first | omega | (simp only [lnE] <;> omega) | (refine Fit.mono ‹Fit _ _ _› ?_ <;> (simp only [lnE] <;> omega)) | (refine Fit.draw ‹Fit _ _ _› ?_ ?_ <;> (simp only [lnE] <;> omega)) | (refine Fit.hid1 ‹Fit _ _ _› ?_ ?_ <;> (simp only [lnE] <;> omega)) | (refine Fit.hidc1 ‹Fit _ _ _› ?_ ?_ <;> (simp only [lnE] <;> omega)) | (refine Fit.hidc2 ‹Fit _ _ _› ?_ ?_ ?_ <;> (simp only [lnE] <;> omega)) | (refine Fit.draw1 ‹Fit _ _ _› ?_ ?_ ?_ <;> (simp only [lnE] <;> omega)) | (refine Fit.range0 ?_ ?_ <;> (simp only [lnE] <;> omega)) | fail)) only [syA, syB, argFr, D, E, T, C, undefv, eqF, aeq, sheqs, sheq, rdCells, cellsOf, fill, putAt, if_true, if_false, reduceIte, ↓reduceIte, reduceCtorEq, eq_self, Nat.reduceEqDiff, Nat.reduceAdd, Nat.reduceSub, Nat.reduceMul, Nat.reduceLT, Nat.reduceLeDiff, Nat.reducePow, Nat.reduceDiv, Nat.reduceMod, Int.reduceLT, Int.reduceLE, Int.reduceGT, Int.reduceGE, Int.reduceToNat, Int.reducePow, Int.reduceNeg, Int.reduceBEq, Int.reduceBNe, Int.reduceEq, Int.reduceAdd, Int.reduceSub, Int.reduceMul, cellv, sc, flatv, refs, refsF, refsC, hF.not0, hF.not1, hF.up0, hF.up1, ac39, rep5, pV, h0, h1, h2]
theorem many_walk (a : Int) (hc : c < 256) (hF : Fit hp.length L H) : Lrun env (.func 40) [.int .i64 n, .agg #[.int .i64 a, .int .i64 v, .int .i64 k, .int .i64 m, .int .i64 p, .int .u32 s, .int .i64 y], .int .u8 c] ⟨hp, L, H, d⟩ =
    some (pV (if (gStep v k c n).2.2.1 = true then ⟨2, 0, 0, (gStep v k c n).1, 0, 0, 0⟩ else ⟨a, (gStep v k c n).1, (gStep v k c n).2.1, m, p, s, y⟩, (gStep v k c n).2.2.2), ⟨hp, L, H, d⟩) := by
  rw [Lrun_sym 40 _ _ fn40]
  have hg := fun nw L' H' (hF : Fit (hp ++ nw).length L' H') => grow_walk v k c n (by omega) (by omega) (hp := hp ++ nw) (L := L') (H := H') (d := []) hF
  generalize gStep v k c n = g at hg ⊢
  obtain ⟨x, z, dn, ok⟩ := g
  simp only [gV] at hg
  cases dn with
  | true => simp (disch := (first | omega | (simp only [lnE] <;> omega) | (refine Fit.mono ‹Fit _ _ _› ?_ <;> (simp only [lnE] <;> omega)) | (refine Fit.draw ‹Fit _ _ _› ?_ ?_ <;> (simp only [lnE] <;> omega)) | (refine Fit.hid1 ‹Fit _ _ _› ?_ ?_ <;> (simp only [lnE] <;> omega)) | (refine Fit.hidc1 ‹Fit _ _ _› ?_ ?_ <;> (simp only [lnE] <;> omega)) | (refine Fit.hidc2 ‹Fit _ _ _› ?_ ?_ ?_ <;> (simp only [lnE] <;> omega)) | (refine Fit.draw1 ‹Fit _ _ _› ?_ ?_ ?_ <;> (simp only [lnE] <;> omega)) | (refine Fit.range0 ?_ ?_ <;> (simp only [lnE] <;> omega)) | fail)) only [syA, syB, argFr, D, E, T, C, undefv, eqF, aeq, sheqs, sheq, rdCells, cellsOf, fill, putAt, if_true, if_false, reduceIte, ↓reduceIte, reduceCtorEq, eq_self, Nat.reduceEqDiff, Nat.reduceAdd, Nat.reduceSub, Nat.reduceMul, Nat.reduceLT, Nat.reduceLeDiff, Nat.reducePow, Nat.reduceDiv, Nat.reduceMod, Int.reduceLT, Int.reduceLE, Int.reduceGT, Int.reduceGE, Int.reduceToNat, Int.reducePow, Int.reduceNeg, Int.reduceBEq, Int.reduceBNe, Int.reduceEq, Int.reduceAdd, Int.reduceSub, Int.reduceMul, cellv, sc, flatv, refs, refsF, refsC, hF.not0, hF.not1, hF.up0, hF.up1, ac40, rep5, pV, hg]
  | false => simp (disch := (first | omega | (simp only [lnE] <;> omega) | (refine Fit.mono ‹Fit _ _ _› ?_ <;> (simp only [lnE] <;> omega)) | (refine Fit.draw ‹Fit _ _ _› ?_ ?_ <;> (simp only [lnE] <;> omega)) | (refine Fit.hid1 ‹Fit _ _ _› ?_ ?_ <;> (simp only [lnE] <;> omega)) | (refine Fit.hidc1 ‹Fit _ _ _› ?_ ?_ <;> (simp only [lnE] <;> omega)) | (refine Fit.hidc2 ‹Fit _ _ _› ?_ ?_ ?_ <;> (simp only [lnE] <;> omega)) | (refine Fit.draw1 ‹Fit _ _ _› ?_ ?_ ?_ <;> (simp only [lnE] <;> omega)) | (refine Fit.range0 ?_ ?_ <;> (simp only [lnE] <;> omega)) | fail)) only [syA, syB, argFr, D, E, T, C, undefv, eqF, aeq, sheqs, sheq, rdCells, cellsOf, fill, putAt, if_true, if_false, reduceIte, ↓reduceIte, reduceCtorEq, eq_self, Nat.reduceEqDiff, Nat.reduceAdd, Nat.reduceSub, Nat.reduceMul, Nat.reduceLT, Nat.reduceLeDiff, Nat.reducePow, Nat.reduceDiv, Nat.reduceMod, Int.reduceLT, Int.reduceLE, Int.reduceGT, Int.reduceGE, Int.reduceToNat, Int.reducePow, Int.reduceNeg, Int.reduceBEq, Int.reduceBNe, Int.reduceEq, Int.reduceAdd, Int.reduceSub, Int.reduceMul, cellv, sc, flatv, refs, refsF, refsC, hF.not0, hF.not1, hF.up0, hF.up1, ac40, rep5, pV, hg]
theorem index_walk (a : Int) (hc : c < 256) (hF : Fit hp.length L H) : Lrun env (.func 41) [.int .i64 n, .agg #[.int .i64 a, .int .i64 v, .int .i64 k, .int .i64 m, .int .i64 p, .int .u32 s, .int .i64 y], .int .u8 c] ⟨hp, L, H, d⟩ =
    some (pV (if (gStep v k c m).2.2.1 = true then ⟨3, 0, 0, m, (gStep v k c m).1, 0, 0⟩ else ⟨a, (gStep v k c m).1, (gStep v k c m).2.1, m, p, s, y⟩, (gStep v k c m).2.2.2), ⟨hp, L, H, d⟩) := by
  rw [Lrun_sym 41 _ _ fn41]
  have hg := fun nw L' H' (hF : Fit (hp ++ nw).length L' H') => grow_walk v k c m (by omega) (by omega) (hp := hp ++ nw) (L := L') (H := H') (d := []) hF
  generalize gStep v k c m = g at hg ⊢
  obtain ⟨x, z, dn, ok⟩ := g
  simp only [gV] at hg
  cases dn with
  | true => simp (disch := (first | omega | (simp only [lnE] <;> omega) | (refine Fit.mono ‹Fit _ _ _› ?_ <;> (simp only [lnE] <;> omega)) | (refine Fit.draw ‹Fit _ _ _› ?_ ?_ <;> (simp only [lnE] <;> omega)) | (refine Fit.hid1 ‹Fit _ _ _› ?_ ?_ <;> (simp only [lnE] <;> omega)) | (refine Fit.hidc1 ‹Fit _ _ _› ?_ ?_ <;> (simp only [lnE] <;> omega)) | (refine Fit.hidc2 ‹Fit _ _ _› ?_ ?_ ?_ <;> (simp only [lnE] <;> omega)) | (refine Fit.draw1 ‹Fit _ _ _› ?_ ?_ ?_ <;> (simp only [lnE] <;> omega)) | (refine Fit.range0 ?_ ?_ <;> (simp only [lnE] <;> omega)) | fail)) only [syA, syB, argFr, D, E, T, C, undefv, eqF, aeq, sheqs, sheq, rdCells, cellsOf, fill, putAt, if_true, if_false, reduceIte, ↓reduceIte, reduceCtorEq, eq_self, Nat.reduceEqDiff, Nat.reduceAdd, Nat.reduceSub, Nat.reduceMul, Nat.reduceLT, Nat.reduceLeDiff, Nat.reducePow, Nat.reduceDiv, Nat.reduceMod, Int.reduceLT, Int.reduceLE, Int.reduceGT, Int.reduceGE, Int.reduceToNat, Int.reducePow, Int.reduceNeg, Int.reduceBEq, Int.reduceBNe, Int.reduceEq, Int.reduceAdd, Int.reduceSub, Int.reduceMul, cellv, sc, flatv, refs, refsF, refsC, hF.not0, hF.not1, hF.up0, hF.up1, ac41, rep5, pV, hg]
  | false => simp (disch := (first | omega | (simp only [lnE] <;> omega) | (refine Fit.mono ‹Fit _ _ _› ?_ <;> (simp only [lnE] <;> omega)) | (refine Fit.draw ‹Fit _ _ _› ?_ ?_ <;> (simp only [lnE] <;> omega)) | (refine Fit.hid1 ‹Fit _ _ _› ?_ ?_ <;> (simp only [lnE] <;> omega)) | (refine Fit.hidc1 ‹Fit _ _ _› ?_ ?_ <;> (simp only [lnE] <;> omega)) | (refine Fit.hidc2 ‹Fit _ _ _› ?_ ?_ ?_ <;> (simp only [lnE] <;> omega)) | (refine Fit.draw1 ‹Fit _ _ _› ?_ ?_ ?_ <;> (simp only [lnE] <;> omega)) | (refine Fit.range0 ?_ ?_ <;> (simp only [lnE] <;> omega)) | fail)) only [syA, syB, argFr, D, E, T, C, undefv, eqF, aeq, sheqs, sheq, rdCells, cellsOf, fill, putAt, if_true, if_false, reduceIte, ↓reduceIte, reduceCtorEq, eq_self, Nat.reduceEqDiff, Nat.reduceAdd, Nat.reduceSub, Nat.reduceMul, Nat.reduceLT, Nat.reduceLeDiff, Nat.reducePow, Nat.reduceDiv, Nat.reduceMod, Int.reduceLT, Int.reduceLE, Int.reduceGT, Int.reduceGE, Int.reduceToNat, Int.reducePow, Int.reduceNeg, Int.reduceBEq, Int.reduceBNe, Int.reduceEq, Int.reduceAdd, Int.reduceSub, Int.reduceMul, cellv, sc, flatv, refs, refsF, refsC, hF.not0, hF.not1, hF.up0, hF.up1, ac41, rep5, pV, hg]
theorem or8_u32 (s c : Nat) (hs : s < 16777216) (hc : c < 256) : IntKind.u32.wrap (orI 32 ((s : Int) * 256) (c : Int)) = ((s * 256 + c : Nat) : Int) := by
  have e : (s : Int) * 256 = ((s * 256 : Nat) : Int) := by omega
  have h : s * 256 ||| c = s * 256 + c := by
    have := Nat.two_pow_add_eq_or_of_lt (i := 8) (b := c) (by omega) s
    rw [show (256 : Nat) = 2 ^ 8 from rfl, Nat.mul_comm, ← this]
  unfold orI
  rw [e, or_nat 32 (s * 256) c (by omega) (by omega), h, wu32 (by omega) (by omega)]
theorem sum_walk (a : Int) (ha : a = 3 ∨ a = 5) (hs : s < 16777216) (hy : 0 ≤ y ∧ y ≤ 3) (hc : c < 256) (hF : Fit hp.length L H) : Lrun env (.func 42) [.int .i64 n, .agg #[.int .i64 a, .int .i64 v, .int .i64 k, .int .i64 m, .int .i64 p, .int .u32 s, .int .i64 y], .int .u8 c] ⟨hp, L, H, d⟩ =
    some (pV (⟨if y + 1 = 4 then a + 1 else a, v, k, m, p, s * 256 + c, y + 1⟩, true), ⟨hp, L, H, d⟩) := by
  rw [Lrun_sym 42 _ _ fn42]
  by_cases h4 : y + 1 = 4
  · simp (disch := (first | omega | (simp only [lnE] <;> omega) | (refine Fit.mono ‹Fit _ _ _› ?_ <;> (simp only [lnE] <;> omega)) | (refine Fit.draw ‹Fit _ _ _› ?_ ?_ <;> (simp only [lnE] <;> omega)) | (refine Fit.hid1 ‹Fit _ _ _› ?_ ?_ <;> (simp only [lnE] <;> omega)) | (refine Fit.hidc1 ‹Fit _ _ _› ?_ ?_ <;> (simp only [lnE] <;> omega)) | (refine Fit.hidc2 ‹Fit _ _ _› ?_ ?_ ?_ <;> (simp only [lnE] <;> omega)) | (refine Fit.draw1 ‹Fit _ _ _› ?_ ?_ ?_ <;> (simp only [lnE] <;> omega)) | (refine Fit.range0 ?_ ?_ <;> (simp only [lnE] <;> omega)) | fail)) only [syA, syB, argFr, D, E, T, C, undefv, eqF, aeq, sheqs, sheq, rdCells, cellsOf, fill, putAt, if_true, if_false, reduceIte, ↓reduceIte, reduceCtorEq, eq_self, Nat.reduceEqDiff, Nat.reduceAdd, Nat.reduceSub, Nat.reduceMul, Nat.reduceLT, Nat.reduceLeDiff, Nat.reducePow, Nat.reduceDiv, Nat.reduceMod, Int.reduceLT, Int.reduceLE, Int.reduceGT, Int.reduceGE, Int.reduceToNat, Int.reducePow, Int.reduceNeg, Int.reduceBEq, Int.reduceBNe, Int.reduceEq, Int.reduceAdd, Int.reduceSub, Int.reduceMul, cellv, sc, flatv, refs, refsF, refsC, hF.not0, hF.not1, hF.up0, hF.up1, ac42, rep5, pV, or8_u32, h4]
  · simp (disch := (first | omega | (simp only [lnE] <;> omega) | (refine Fit.mono ‹Fit _ _ _› ?_ <;> (simp only [lnE] <;> omega)) | (refine Fit.draw ‹Fit _ _ _› ?_ ?_ <;> (simp only [lnE] <;> omega)) | (refine Fit.hid1 ‹Fit _ _ _› ?_ ?_ <;> (simp only [lnE] <;> omega)) | (refine Fit.hidc1 ‹Fit _ _ _› ?_ ?_ <;> (simp only [lnE] <;> omega)) | (refine Fit.hidc2 ‹Fit _ _ _› ?_ ?_ ?_ <;> (simp only [lnE] <;> omega)) | (refine Fit.draw1 ‹Fit _ _ _› ?_ ?_ ?_ <;> (simp only [lnE] <;> omega)) | (refine Fit.range0 ?_ ?_ <;> (simp only [lnE] <;> omega)) | fail)) only [syA, syB, argFr, D, E, T, C, undefv, eqF, aeq, sheqs, sheq, rdCells, cellsOf, fill, putAt, if_true, if_false, reduceIte, ↓reduceIte, reduceCtorEq, eq_self, Nat.reduceEqDiff, Nat.reduceAdd, Nat.reduceSub, Nat.reduceMul, Nat.reduceLT, Nat.reduceLeDiff, Nat.reducePow, Nat.reduceDiv, Nat.reduceMod, Int.reduceLT, Int.reduceLE, Int.reduceGT, Int.reduceGE, Int.reduceToNat, Int.reducePow, Int.reduceNeg, Int.reduceBEq, Int.reduceBNe, Int.reduceEq, Int.reduceAdd, Int.reduceSub, Int.reduceMul, cellv, sc, flatv, refs, refsF, refsC, hF.not0, hF.not1, hF.up0, hF.up1, ac42, rep5, pV, or8_u32, h4]
end
/-- The state ahead of the first byte. -/
def mNone : MS := ⟨0, 0, 0, 0, 0, 0, 0⟩
/-- A step: the state, whether the marker is complete, the error. -/
def mStep (n : Int) (t : MS) (c : Nat) : MS × Bool × Int :=
  if mValid n t = false ∨ t.a = 4 ∨ t.a = 6 then (mNone, false, 2)
  else if (mGo n t c).2 = false then (mNone, false, 242)
  else ((mGo n t c).1, decide ((mGo n t c).1.a = 4 ∨ (mGo n t c).1.a = 6), 0)
def mV (r : MS × Bool × Int) : Value := .tuple #[.agg #[.int .i64 r.1.a, .int .i64 r.1.v, .int .i64 r.1.k, .int .i64 r.1.m, .int .i64 r.1.p, .int .u32 r.1.s, .int .i64 r.1.y], .bool r.2.1, .int .i64 r.2.2]
theorem aop_native {callf : CallF} {fr : Fr} {σ : St} (g : Fr → St → Option Value) : aop callf (.native g) fr σ = (g fr σ).map fun v => (v, σ) := rfl
theorem get_nil (t : Nat) : Fr.get [] t = none := rfl
theorem smv_0 : smV 0 = .func (.func 39) #[] #[] := rfl
theorem smv_1 : smV 1 = .func (.func 40) #[] #[] := rfl
theorem smv_2 : smV 2 = .func (.func 41) #[] #[] := rfl
theorem smv_3 : smV 3 = .func (.func 42) #[] #[] := rfl
theorem smv_5 : smV 5 = .func (.func 42) #[] #[] := rfl
theorem smv_no {a : Int} (h0 : ¬ a = 0) (h1 : ¬ a = 1) (h2 : ¬ a = 2) (h3 : ¬ a = 3) (h5 : ¬ a = 5) : smV a = .nilFunc := by simp [smV, h0, h1, h2, h3, h5]
section
variable (n v k m p y : Int) (s c : Nat) {hp : List Blk} {L : Nat} {H d : List Nat}
theorem stepmark_go (a : Int) (f : Nat) (r : MS × Bool) (hs : s < 4294967296) (hsm : smV a = .func (.func f) #[] #[]) (hq : mValid n ⟨a, v, k, m, p, s, y⟩ = true)
    (hgo : ∀ (nw : List Blk) (L' : Nat) (H' : List Nat), Fit (hp ++ nw).length L' H' → Lrun env (.func f) [.int .i64 n, .agg #[.int .i64 a, .int .i64 v, .int .i64 k, .int .i64 m, .int .i64 p, .int .u32 s, .int .i64 y], .int .u8 c] ⟨hp ++ nw, L', H', []⟩ = some (pV r, ⟨hp ++ nw, L', H', []⟩))
    (hF : Fit hp.length L H) : Lrun env (.func 20) [.int .i64 n, .agg #[.int .i64 a, .int .i64 v, .int .i64 k, .int .i64 m, .int .i64 p, .int .u32 s, .int .i64 y], .int .u8 c] ⟨hp, L, H, d⟩ =
      some (mV (if r.2 = false then (mNone, false, 242) else (r.1, decide (r.1.a = 4 ∨ r.1.a = 6), 0)), ⟨hp, L, H, d⟩) := by
  rw [Lrun_sym 20 _ _ fn20]
  have hv := fun nw L' H' (hF : Fit (hp ++ nw).length L' H') => mvalid_walk n v k m p y s a hs (hp := hp ++ nw) (L := L') (H := H') (d := []) hF
  obtain ⟨⟨a', v', k', m', p', s', y'⟩, ok⟩ := r
  simp only [pV] at hgo
  cases ok with
  | false => simp (disch := (first | omega | (simp only [lnE] <;> omega) | (refine Fit.mono ‹Fit _ _ _› ?_ <;> (simp only [lnE] <;> omega)) | (refine Fit.draw ‹Fit _ _ _› ?_ ?_ <;> (simp only [lnE] <;> omega)) | (refine Fit.hid1 ‹Fit _ _ _› ?_ ?_ <;> (simp only [lnE] <;> omega)) | (refine Fit.hidc1 ‹Fit _ _ _› ?_ ?_ <;> (simp only [lnE] <;> omega)) | (refine Fit.hidc2 ‹Fit _ _ _› ?_ ?_ ?_ <;> (simp only [lnE] <;> omega)) | (refine Fit.draw1 ‹Fit _ _ _› ?_ ?_ ?_ <;> (simp only [lnE] <;> omega)) | (refine Fit.range0 ?_ ?_ <;> (simp only [lnE] <;> omega)) | fail)) only [syA, syB, argFr, D, E, T, C, undefv, eqF, aeq, sheqs, sheq, rdCells, cellsOf, fill, putAt, if_true, if_false, reduceIte, ↓reduceIte, reduceCtorEq, eq_self, Nat.reduceEqDiff, Nat.reduceAdd, Nat.reduceSub, Nat.reduceMul, Nat.reduceLT, Nat.reduceLeDiff, Nat.reducePow, Nat.reduceDiv, Nat.reduceMod, Int.reduceLT, Int.reduceLE, Int.reduceGT, Int.reduceGE, Int.reduceToNat, Int.reducePow, Int.reduceNeg, Int.reduceBEq, Int.reduceBNe, Int.reduceEq, Int.reduceAdd, Int.reduceSub, Int.reduceMul, cellv, sc, flatv, refs, refsF, refsC, hF.not0, hF.not1, hF.up0, hF.up1, smFn, AM.ac0, AM.acr, aop_native, smK, get_nil, hsm, hv, hq, rep5, mV, mNone, hgo]
  | true =>
    by_cases h4 : a' = 4
    · simp (disch := (first | omega | (simp only [lnE] <;> omega) | (refine Fit.mono ‹Fit _ _ _› ?_ <;> (simp only [lnE] <;> omega)) | (refine Fit.draw ‹Fit _ _ _› ?_ ?_ <;> (simp only [lnE] <;> omega)) | (refine Fit.hid1 ‹Fit _ _ _› ?_ ?_ <;> (simp only [lnE] <;> omega)) | (refine Fit.hidc1 ‹Fit _ _ _› ?_ ?_ <;> (simp only [lnE] <;> omega)) | (refine Fit.hidc2 ‹Fit _ _ _› ?_ ?_ ?_ <;> (simp only [lnE] <;> omega)) | (refine Fit.draw1 ‹Fit _ _ _› ?_ ?_ ?_ <;> (simp only [lnE] <;> omega)) | (refine Fit.range0 ?_ ?_ <;> (simp only [lnE] <;> omega)) | fail)) only [syA, syB, argFr, D, E, T, C, undefv, eqF, aeq, sheqs, sheq, rdCells, cellsOf, fill, putAt, if_true, if_false, reduceIte, ↓reduceIte, reduceCtorEq, eq_self, Nat.reduceEqDiff, Nat.reduceAdd, Nat.reduceSub, Nat.reduceMul, Nat.reduceLT, Nat.reduceLeDiff, Nat.reducePow, Nat.reduceDiv, Nat.reduceMod, Int.reduceLT, Int.reduceLE, Int.reduceGT, Int.reduceGE, Int.reduceToNat, Int.reducePow, Int.reduceNeg, Int.reduceBEq, Int.reduceBNe, Int.reduceEq, Int.reduceAdd, Int.reduceSub, Int.reduceMul, cellv, sc, flatv, refs, refsF, refsC, hF.not0, hF.not1, hF.up0, hF.up1, smFn, AM.ac0, AM.acr, aop_native, smK, get_nil, hsm, hv, hq, rep5, mV, mNone, hgo, h4]
    · by_cases h6 : a' = 6
      · simp (disch := (first | omega | (simp only [lnE] <;> omega) | (refine Fit.mono ‹Fit _ _ _› ?_ <;> (simp only [lnE] <;> omega)) | (refine Fit.draw ‹Fit _ _ _› ?_ ?_ <;> (simp only [lnE] <;> omega)) | (refine Fit.hid1 ‹Fit _ _ _› ?_ ?_ <;> (simp only [lnE] <;> omega)) | (refine Fit.hidc1 ‹Fit _ _ _› ?_ ?_ <;> (simp only [lnE] <;> omega)) | (refine Fit.hidc2 ‹Fit _ _ _› ?_ ?_ ?_ <;> (simp only [lnE] <;> omega)) | (refine Fit.draw1 ‹Fit _ _ _› ?_ ?_ ?_ <;> (simp only [lnE] <;> omega)) | (refine Fit.range0 ?_ ?_ <;> (simp only [lnE] <;> omega)) | fail)) only [syA, syB, argFr, D, E, T, C, undefv, eqF, aeq, sheqs, sheq, rdCells, cellsOf, fill, putAt, if_true, if_false, reduceIte, ↓reduceIte, reduceCtorEq, eq_self, Nat.reduceEqDiff, Nat.reduceAdd, Nat.reduceSub, Nat.reduceMul, Nat.reduceLT, Nat.reduceLeDiff, Nat.reducePow, Nat.reduceDiv, Nat.reduceMod, Int.reduceLT, Int.reduceLE, Int.reduceGT, Int.reduceGE, Int.reduceToNat, Int.reducePow, Int.reduceNeg, Int.reduceBEq, Int.reduceBNe, Int.reduceEq, Int.reduceAdd, Int.reduceSub, Int.reduceMul, cellv, sc, flatv, refs, refsF, refsC, hF.not0, hF.not1, hF.up0, hF.up1, smFn, AM.ac0, AM.acr, aop_native, smK, get_nil, hsm, hv, hq, rep5, mV, mNone, hgo, h4, h6]
      · simp (disch := (first | omega | (simp only [lnE] <;> omega) | (refine Fit.mono ‹Fit _ _ _› ?_ <;> (simp only [lnE] <;> omega)) | (refine Fit.draw ‹Fit _ _ _› ?_ ?_ <;> (simp only [lnE] <;> omega)) | (refine Fit.hid1 ‹Fit _ _ _› ?_ ?_ <;> (simp only [lnE] <;> omega)) | (refine Fit.hidc1 ‹Fit _ _ _› ?_ ?_ <;> (simp only [lnE] <;> omega)) | (refine Fit.hidc2 ‹Fit _ _ _› ?_ ?_ ?_ <;> (simp only [lnE] <;> omega)) | (refine Fit.draw1 ‹Fit _ _ _› ?_ ?_ ?_ <;> (simp only [lnE] <;> omega)) | (refine Fit.range0 ?_ ?_ <;> (simp only [lnE] <;> omega)) | fail)) only [syA, syB, argFr, D, E, T, C, undefv, eqF, aeq, sheqs, sheq, rdCells, cellsOf, fill, putAt, if_true, if_false, reduceIte, ↓reduceIte, reduceCtorEq, eq_self, Nat.reduceEqDiff, Nat.reduceAdd, Nat.reduceSub, Nat.reduceMul, Nat.reduceLT, Nat.reduceLeDiff, Nat.reducePow, Nat.reduceDiv, Nat.reduceMod, Int.reduceLT, Int.reduceLE, Int.reduceGT, Int.reduceGE, Int.reduceToNat, Int.reducePow, Int.reduceNeg, Int.reduceBEq, Int.reduceBNe, Int.reduceEq, Int.reduceAdd, Int.reduceSub, Int.reduceMul, cellv, sc, flatv, refs, refsF, refsC, hF.not0, hF.not1, hF.up0, hF.up1, smFn, AM.ac0, AM.acr, aop_native, smK, get_nil, hsm, hv, hq, rep5, mV, mNone, hgo, h4, h6, show (a' == 6) = false from by simpa using h6]
theorem stepmark_bad (a : Int) (hs : s < 4294967296) (hq : smV a = .nilFunc ∨ ∃ f, smV a = .func (.func f) #[] #[] ∧ mValid n ⟨a, v, k, m, p, s, y⟩ = false)
    (hF : Fit hp.length L H) : Lrun env (.func 20) [.int .i64 n, .agg #[.int .i64 a, .int .i64 v, .int .i64 k, .int .i64 m, .int .i64 p, .int .u32 s, .int .i64 y], .int .u8 c] ⟨hp, L, H, d⟩ = some (mV (mNone, false, 2), ⟨hp, L, H, d⟩) := by
  rw [Lrun_sym 20 _ _ fn20]
  have hv := fun nw L' H' (hF : Fit (hp ++ nw).length L' H') => mvalid_walk n v k m p y s a hs (hp := hp ++ nw) (L := L') (H := H') (d := []) hF
  rcases hq with hsm | ⟨f, hsm, hq⟩
  · simp (disch := (first | omega | (simp only [lnE] <;> omega) | (refine Fit.mono ‹Fit _ _ _› ?_ <;> (simp only [lnE] <;> omega)) | (refine Fit.draw ‹Fit _ _ _› ?_ ?_ <;> (simp only [lnE] <;> omega)) | (refine Fit.hid1 ‹Fit _ _ _› ?_ ?_ <;> (simp only [lnE] <;> omega)) | (refine Fit.hidc1 ‹Fit _ _ _› ?_ ?_ <;> (simp only [lnE] <;> omega)) | (refine Fit.hidc2 ‹Fit _ _ _› ?_ ?_ ?_ <;> (simp only [lnE] <;> omega)) | (refine Fit.draw1 ‹Fit _ _ _› ?_ ?_ ?_ <;> (simp only [lnE] <;> omega)) | (refine Fit.range0 ?_ ?_ <;> (simp only [lnE] <;> omega)) | fail)) only [syA, syB, argFr, D, E, T, C, undefv, eqF, aeq, sheqs, sheq, rdCells, cellsOf, fill, putAt, if_true, if_false, reduceIte, ↓reduceIte, reduceCtorEq, eq_self, Nat.reduceEqDiff, Nat.reduceAdd, Nat.reduceSub, Nat.reduceMul, Nat.reduceLT, Nat.reduceLeDiff, Nat.reducePow, Nat.reduceDiv, Nat.reduceMod, Int.reduceLT, Int.reduceLE, Int.reduceGT, Int.reduceGE, Int.reduceToNat, Int.reducePow, Int.reduceNeg, Int.reduceBEq, Int.reduceBNe, Int.reduceEq, Int.reduceAdd, Int.reduceSub, Int.reduceMul, cellv, sc, flatv, refs, refsF, refsC, hF.not0, hF.not1, hF.up0, hF.up1, smFn, AM.ac0, AM.acr, aop_native, smK, get_nil, hsm, rep5, mV, mNone]
  · simp (disch := (first | omega | (simp only [lnE] <;> omega) | (refine Fit.mono ‹Fit _ _ _› ?_ <;> (simp only [lnE] <;> omega)) | (refine Fit.draw ‹Fit _ _ _› ?_ ?_ <;> (simp only [lnE] <;> omega)) | (refine Fit.hid1 ‹Fit _ _ _› ?_ ?_ <;> (simp only [lnE] <;> omega)) | (refine Fit.hidc1 ‹Fit _ _ _› ?_ ?_ <;> (simp only [lnE] <;> omega)) | (refine Fit.hidc2 ‹Fit _ _ _› ?_ ?_ ?_ <;> (simp only [lnE] <;> omega)) | (refine Fit.draw1 ‹Fit _ _ _› ?_ ?_ ?_ <;> (simp only [lnE] <;> omega)) | (refine Fit.range0 ?_ ?_ <;> (simp only [lnE] <;> omega)) | fail)) only [syA, syB, argFr, D, E, T, C, undefv, eqF, aeq, sheqs, sheq, rdCells, cellsOf, fill, putAt, if_true, if_false, reduceIte, ↓reduceIte, reduceCtorEq, eq_self, Nat.reduceEqDiff, Nat.reduceAdd, Nat.reduceSub, Nat.reduceMul, Nat.reduceLT, Nat.reduceLeDiff, Nat.reducePow, Nat.reduceDiv, Nat.reduceMod, Int.reduceLT, Int.reduceLE, Int.reduceGT, Int.reduceGE, Int.reduceToNat, Int.reducePow, Int.reduceNeg, Int.reduceBEq, Int.reduceBNe, Int.reduceEq, Int.reduceAdd, Int.reduceSub, Int.reduceMul, cellv, sc, flatv, refs, refsF, refsC, hF.not0, hF.not1, hF.up0, hF.up1, smFn, AM.ac0, AM.acr, aop_native, smK, get_nil, hsm, hv, hq, rep5, mV, mNone]
theorem sums_lt {s : Nat} {y : Int} (h : sums s y = true) : s < 16777216 ∧ 0 ≤ y ∧ y ≤ 3 := by
  simp only [sums, Bool.and_eq_true, inR_true, decide_eq_true_eq] at h
  obtain ⟨⟨h1, h2⟩, h3⟩ := h
  refine ⟨Nat.lt_of_lt_of_le h3 ?_, h1, h2⟩
  have : (256 : Nat) ^ y.toNat ≤ 256 ^ 3 := Nat.pow_le_pow_right (by omega) (by omega)
  omega
theorem stepmark_walk (a : Int) (hs : s < 4294967296) (hc : c < 256) (hF : Fit hp.length L H) : Lrun env (.func 20) [.int .i64 n, .agg #[.int .i64 a, .int .i64 v, .int .i64 k, .int .i64 m, .int .i64 p, .int .u32 s, .int .i64 y], .int .u8 c] ⟨hp, L, H, d⟩ = some (mV (mStep n ⟨a, v, k, m, p, s, y⟩ c), ⟨hp, L, H, d⟩) := by
  cases hq : mValid n ⟨a, v, k, m, p, s, y⟩ with
  | false =>
    have e : mStep n ⟨a, v, k, m, p, s, y⟩ c = (mNone, false, 2) := by unfold mStep; rw [if_pos (.inl hq)]
    rw [e]
    refine stepmark_bad n v k m p y s c a hs ?_ hF
    by_cases h0 : a = 0
    · subst h0; exact .inr ⟨_, smv_0, hq⟩
    by_cases h1 : a = 1
    · subst h1; exact .inr ⟨_, smv_1, hq⟩
    by_cases h2 : a = 2
    · subst h2; exact .inr ⟨_, smv_2, hq⟩
    by_cases h3 : a = 3
    · subst h3; exact .inr ⟨_, smv_3, hq⟩
    by_cases h5 : a = 5
    · subst h5; exact .inr ⟨_, smv_5, hq⟩
    exact .inl (smv_no h0 h1 h2 h3 h5)
  | true =>
    by_cases h46 : a = 4 ∨ a = 6
    · have e : mStep n ⟨a, v, k, m, p, s, y⟩ c = (mNone, false, 2) := by unfold mStep; rw [if_pos (.inr h46)]
      rw [e]
      exact stepmark_bad n v k m p y s c a hs (.inl (smv_no (by omega) (by omega) (by omega) (by omega) (by omega))) hF
    have e : mStep n ⟨a, v, k, m, p, s, y⟩ c = (if (mGo n ⟨a, v, k, m, p, s, y⟩ c).2 = false then (mNone, false, 242) else ((mGo n ⟨a, v, k, m, p, s, y⟩ c).1, decide ((mGo n ⟨a, v, k, m, p, s, y⟩ c).1.a = 4 ∨ (mGo n ⟨a, v, k, m, p, s, y⟩ c).1.a = 6), 0)) := by
      unfold mStep; rw [if_neg (by rw [hq]; simp; omega)]
    rw [e]
    by_cases h0 : a = 0
    · subst h0; exact stepmark_go n v k m p y s c 0 _ (mGo n ⟨0, v, k, m, p, s, y⟩ c) hs smv_0 hq (fun nw L' H' hF => mark_walk n v k m p y s c 0 hc hF) hF
    by_cases h1 : a = 1
    · subst h1; exact stepmark_go n v k m p y s c 1 _ (mGo n ⟨1, v, k, m, p, s, y⟩ c) hs smv_1 hq (fun nw L' H' hF => many_walk n v k m p y s c 1 hc hF) hF
    by_cases h2 : a = 2
    · subst h2; exact stepmark_go n v k m p y s c 2 _ (mGo n ⟨2, v, k, m, p, s, y⟩ c) hs smv_2 hq (fun nw L' H' hF => index_walk n v k m p y s c 2 hc hF) hF
    have hr : mRight n ⟨a, v, k, m, p, s, y⟩ = true := by
      have := hq
      simp only [mValid, Bool.and_eq_true] at this
      exact this.2
    by_cases h3 : a = 3
    · subst h3
      have hsu : sums s y = true := by simp [mRight] at hr; exact hr.1.2
      obtain ⟨g1, g2⟩ := sums_lt hsu
      exact stepmark_go n v k m p y s c 3 _ (mGo n ⟨3, v, k, m, p, s, y⟩ c) hs smv_3 hq (fun nw L' H' hF => sum_walk n v k m p y s c 3 (.inl rfl) g1 g2 hc hF) hF
    by_cases h5 : a = 5
    · subst h5
      have hsu : sums s y = true := by simp [mRight] at hr; exact hr.1
      obtain ⟨g1, g2⟩ := sums_lt hsu
      exact stepmark_go n v k m p y s c 5 _ (mGo n ⟨5, v, k, m, p, s, y⟩ c) hs smv_5 hq (fun nw L' H' hF => sum_walk n v k m p y s c 5 (.inr rfl) g1 g2 hc hF) hF
    · simp only [mRight] at hr
      rw [if_neg h0, if_neg h1, if_neg h2, if_neg h3, if_neg (by omega), if_neg h5, if_neg (by omega)] at hr
      cases hr
end
end VarA
end Go.Proofs.Ytpjjkmfidghkjaa
