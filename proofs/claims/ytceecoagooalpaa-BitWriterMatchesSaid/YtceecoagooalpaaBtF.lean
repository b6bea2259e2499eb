/-
  THE BIT WRITER's functions on the abstract machine: Bytes, Get, Of. Conditions: none.
-/
import Derived.Test.YtceecoagooalpaaBtE
set_option linter.all false
section
namespace Go.Proofs.Ytceecoagooalpaa
namespace Bt
open Go Go.RowKit AM ArEnv
variable {hp : List Blk} {L : Nat} {H : List Nat} {a k : Nat} {l m : List Nat}

/-- The writer's bytes, or nil. -/
def ob (l : List Nat) : Option (List Nat) := if l.length = 0 then none else some (byts l)
theorem ob_getD (l : List Nat) : (ob l).getD [] = byts l := by
  unfold ob
  split
  · next h =>
    have : l = [] := List.eq_nil_of_length_eq_zero h
    subst this; rfl
  · rfl
theorem nb_small (h : l.length ≤ 8387000) : nb l ≤ 1048576 := by unfold nb; omega
theorem nb_pos (h : l.length ≠ 0) : nb l ≠ 0 := by unfold nb; omega
theorem clone_nil (hF : Fit hp.length L H) (d : List Nat) :
    Lrun env (.func 38) [.slice none 0 0] ⟨hp, L, H, d⟩ = some (.slice none 0 0, ⟨hp, L, H, d⟩) := by
  rw [Lrun_sym 38 _ _ fn38]
  simp (disch := (first | omega | (simp only [lnE] <;> omega) | (refine Fit.mono ‹Fit _ _ _› ?_ <;> (simp only [lnE] <;> omega)) | (refine Fit.draw ‹Fit _ _ _› ?_ ?_ <;> (simp only [lnE] <;> omega)) | (refine Fit.hid1 ‹Fit _ _ _› ?_ ?_ <;> (simp only [lnE] <;> omega)) | (refine Fit.draw1 ‹Fit _ _ _› ?_ ?_ ?_ <;> (simp only [lnE] <;> omega)) | (refine Fit.range0 ?_ ?_ <;> (simp only [lnE] <;> omega)) | fail)) only [syA, syB, argFr, D, E, T, C, undefv, eqF, aeq, sheqs, sheq, rdCells, cellsOf, fill, putAt, if_true, if_false, reduceIte, ↓reduceIte, reduceCtorEq, eq_self, Nat.reduceEqDiff, Nat.reduceAdd, Nat.reduceSub, Nat.reduceMul, Nat.reduceLT, Nat.reduceLeDiff, Nat.reducePow, Nat.reduceDiv, Nat.reduceMod, Int.reduceLT, Int.reduceLE, Int.reduceGT, Int.reduceGE, Int.reduceToNat, Int.reducePow, Int.reduceNeg, Int.reduceBEq, Int.reduceBNe, Int.reduceEq, Int.reduceAdd, Int.reduceSub, Int.reduceMul, cellv, sc, flatv, refs, refsF, refsC, hF.not0, hF.not1, hF.up0, hF.up1, ac38]
theorem gcY_slice (g : Nat) (cs : List Value) (s : Option Nat) (n e : Nat) : gcY hp [.cells g true cs] (.slice (some ⟨hp.length, 0, s⟩) n e) L H false = some ([.slice (some ⟨hp.length, 0, s⟩) n e], ⟨hp ++ [.cells g true cs], L, H, []⟩) := by
  rw [gc_keep 0 (g := g) (cs := cs) rfl (by simp [refs, refsF, refsC]) (by simp [refs, refsF, refsC])]
  simp only [ren, renF, renC, Nat.add_zero, one_new0]
theorem clone_walk {bs : List Nat} {e g : Nat} (hk : hp[k]? = some (.cells g true (u8s bs))) (hH : H.contains k = false) (h0 : bs.length ≠ 0) (hs : bs.length ≤ 1048576) (hF : Fit hp.length L H) (d : List Nat) :
    Lrun env (.func 38) [.slice (some ⟨k, 0, some g⟩) bs.length e] ⟨hp, L, H, d⟩ = some (sl hp.length bs.length (some bs), ⟨hp ++ slB bs.length (some bs), L, H, d⟩) := by
  rw [Lrun_sym 38 _ _ fn38]
  have hkl := (List.getElem?_eq_some_iff.1 hk).1
  have sm0 : small 0 = true := rfl
  have happ := append_end (hp := hp ++ [.cells 0 true []]) (L := L) (b := hp.length) (g := 0) (H := H) (d := []) (l0 := []) (l := bs) (get_new0 _) hF.1 hF.not0 (by simpa using hs)
  have hbs : bs ≠ [] := fun h => h0 (by rw [h]; rfl)
  simp only [List.length_nil, List.nil_append, if_neg hbs, set_new0] at happ
  have hle : bs.length ≤ (u8s bs).length := by simp [u8s]
  simp (disch := (first | omega | (simp only [lnE] <;> omega) | (refine Fit.mono ‹Fit _ _ _› ?_ <;> (simp only [lnE] <;> omega)) | (refine Fit.draw ‹Fit _ _ _› ?_ ?_ <;> (simp only [lnE] <;> omega)) | (refine Fit.hid1 ‹Fit _ _ _› ?_ ?_ <;> (simp only [lnE] <;> omega)) | (refine Fit.draw1 ‹Fit _ _ _› ?_ ?_ ?_ <;> (simp only [lnE] <;> omega)) | (refine Fit.range0 ?_ ?_ <;> (simp only [lnE] <;> omega)) | fail)) only [syA, syB, argFr, D, E, T, C, undefv, eqF, aeq, sheqs, sheq, rdCells, cellsOf, fill, putAt, if_true, if_false, reduceIte, ↓reduceIte, reduceCtorEq, eq_self, Nat.reduceEqDiff, Nat.reduceAdd, Nat.reduceSub, Nat.reduceMul, Nat.reduceLT, Nat.reduceLeDiff, Nat.reducePow, Nat.reduceDiv, Nat.reduceMod, Int.reduceLT, Int.reduceLE, Int.reduceGT, Int.reduceGE, Int.reduceToNat, Int.reducePow, Int.reduceNeg, Int.reduceBEq, Int.reduceBNe, Int.reduceEq, Int.reduceAdd, Int.reduceSub, Int.reduceMul, cellv, sc, flatv, refs, refsF, refsC, hF.not0, hF.not1, hF.up0, hF.up1, ac38, hk, hH, sm0, happ, Int.natCast_zero, Nat.mul_one, hle]
  rw [gcY_slice]
  rfl
theorem bytes_walk (w : Wv hp H a k l) (hs : l.length ≤ 8387000) (hF : Fit hp.length L H) (d : List Nat) :
    Lrun env (.func 28) [.pointer (some ⟨a, 0, some 0⟩)] ⟨hp, L, H, d⟩ = some (sl hp.length (nb l) (ob l), ⟨hp ++ slB (nb l) (ob l), L, H, d⟩) := by
  rw [Lrun_sym 28 _ _ fn28]
  have hw := w.w
  have hH := w.aH
  unfold ob
  by_cases h0 : l.length = 0
  · have hn : l = [] := List.eq_nil_of_length_eq_zero h0
    subst hn
    rw [Wr_nil] at hw
    have hc := fun hp L H d hF => clone_nil (hp := hp) (L := L) (H := H) hF d
    rw [if_pos h0, sl_none, slB_none]
    simp (disch := (first | omega | (simp only [lnE] <;> omega) | (refine Fit.mono ‹Fit _ _ _› ?_ <;> (simp only [lnE] <;> omega)) | (refine Fit.draw ‹Fit _ _ _› ?_ ?_ <;> (simp only [lnE] <;> omega)) | (refine Fit.hid1 ‹Fit _ _ _› ?_ ?_ <;> (simp only [lnE] <;> omega)) | (refine Fit.draw1 ‹Fit _ _ _› ?_ ?_ ?_ <;> (simp only [lnE] <;> omega)) | (refine Fit.range0 ?_ ?_ <;> (simp only [lnE] <;> omega)) | fail)) only [syA, syB, argFr, D, E, T, C, undefv, eqF, aeq, sheqs, sheq, rdCells, cellsOf, fill, putAt, if_true, if_false, reduceIte, ↓reduceIte, reduceCtorEq, eq_self, Nat.reduceEqDiff, Nat.reduceAdd, Nat.reduceSub, Nat.reduceMul, Nat.reduceLT, Nat.reduceLeDiff, Nat.reducePow, Nat.reduceDiv, Nat.reduceMod, Int.reduceLT, Int.reduceLE, Int.reduceGT, Int.reduceGE, Int.reduceToNat, Int.reducePow, Int.reduceNeg, Int.reduceBEq, Int.reduceBNe, Int.reduceEq, Int.reduceAdd, Int.reduceSub, Int.reduceMul, cellv, sc, flatv, refs, refsF, refsC, hF.not0, hF.not1, hF.up0, hF.up1, ac28, hw, hH, hc]
  · rw [Wr_some h0] at hw
    have hb := w.b h0
    have hlen := byts_length l
    have hc := clone_walk (bs := byts l) (e := 1) (g := nb l) hb (w.kH h0) (by rw [hlen]; exact nb_pos h0) (by rw [hlen]; exact nb_small hs) hF []
    rw [hlen] at hc
    rw [if_neg h0]
    simp (disch := (first | omega | (simp only [lnE] <;> omega) | (refine Fit.mono ‹Fit _ _ _› ?_ <;> (simp only [lnE] <;> omega)) | (refine Fit.draw ‹Fit _ _ _› ?_ ?_ <;> (simp only [lnE] <;> omega)) | (refine Fit.hid1 ‹Fit _ _ _› ?_ ?_ <;> (simp only [lnE] <;> omega)) | (refine Fit.draw1 ‹Fit _ _ _› ?_ ?_ ?_ <;> (simp only [lnE] <;> omega)) | (refine Fit.range0 ?_ ?_ <;> (simp only [lnE] <;> omega)) | fail)) only [syA, syB, argFr, D, E, T, C, undefv, eqF, aeq, sheqs, sheq, rdCells, cellsOf, fill, putAt, if_true, if_false, reduceIte, ↓reduceIte, reduceCtorEq, eq_self, Nat.reduceEqDiff, Nat.reduceAdd, Nat.reduceSub, Nat.reduceMul, Nat.reduceLT, Nat.reduceLeDiff, Nat.reducePow, Nat.reduceDiv, Nat.reduceMod, Int.reduceLT, Int.reduceLE, Int.reduceGT, Int.reduceGE, Int.reduceToNat, Int.reducePow, Int.reduceNeg, Int.reduceBEq, Int.reduceBNe, Int.reduceEq, Int.reduceAdd, Int.reduceSub, Int.reduceMul, cellv, sc, flatv, refs, refsF, refsC, hF.not0, hF.not1, hF.up0, hF.up1, ac28, hw, hH, hc, sl_some, slB_some]
    rw [gcY_slice]
    rfl
/-- Get: what it takes. -/
def getOk (n : Nat) (p w : Int) : Bool := decide (0 ≤ p ∧ 0 ≤ w ∧ w ≤ 32 ∧ p + w ≤ 8 * n)
theorem get_bad {v : Value} {d : List Nat} (h : Rd ⟨hp, L, H, d⟩ v l) {p w : Int} (hp0 : -9223372036854775808 ≤ p) (hp1 : p ≤ 9223372036854775807) (hw0 : -9223372036854775808 ≤ w) (hw1 : w ≤ 9223372036854775807) (hs : l.length ≤ 1048576) (hF : Fit hp.length L H) (hb : getOk l.length p w = false) :
    Lrun env (.func 30) [v, .int .i64 p, .int .i64 w] ⟨hp, L, H, d⟩ = some (.tuple #[.int .u32 0, .bool false], ⟨hp, L, H, d⟩) := by
  rw [Lrun_sym 30 _ _ fn30]
  obtain ⟨q, e, rfl⟩ := h.len
  unfold getOk at hb
  rw [decide_eq_false_iff_not] at hb
  by_cases h1 : p < 0
  · simp (disch := (first | omega | (simp only [lnE] <;> omega) | (refine Fit.mono ‹Fit _ _ _› ?_ <;> (simp only [lnE] <;> omega)) | (refine Fit.draw ‹Fit _ _ _› ?_ ?_ <;> (simp only [lnE] <;> omega)) | (refine Fit.hid1 ‹Fit _ _ _› ?_ ?_ <;> (simp only [lnE] <;> omega)) | (refine Fit.draw1 ‹Fit _ _ _› ?_ ?_ ?_ <;> (simp only [lnE] <;> omega)) | (refine Fit.range0 ?_ ?_ <;> (simp only [lnE] <;> omega)) | fail)) only [syA, syB, argFr, D, E, T, C, undefv, eqF, aeq, sheqs, sheq, rdCells, cellsOf, fill, putAt, if_true, if_false, reduceIte, ↓reduceIte, reduceCtorEq, eq_self, Nat.reduceEqDiff, Nat.reduceAdd, Nat.reduceSub, Nat.reduceMul, Nat.reduceLT, Nat.reduceLeDiff, Nat.reducePow, Nat.reduceDiv, Nat.reduceMod, Int.reduceLT, Int.reduceLE, Int.reduceGT, Int.reduceGE, Int.reduceToNat, Int.reducePow, Int.reduceNeg, Int.reduceBEq, Int.reduceBNe, Int.reduceEq, Int.reduceAdd, Int.reduceSub, Int.reduceMul, cellv, sc, flatv, refs, refsF, refsC, hF.not0, hF.not1, hF.up0, hF.up1, ac30, h1]
  by_cases h2 : w < 0
  · simp (disch := (first | omega | (simp only [lnE] <;> omega) | (refine Fit.mono ‹Fit _ _ _› ?_ <;> (simp only [lnE] <;> omega)) | (refine Fit.draw ‹Fit _ _ _› ?_ ?_ <;> (simp only [lnE] <;> omega)) | (refine Fit.hid1 ‹Fit _ _ _› ?_ ?_ <;> (simp only [lnE] <;> omega)) | (refine Fit.draw1 ‹Fit _ _ _› ?_ ?_ ?_ <;> (simp only [lnE] <;> omega)) | (refine Fit.range0 ?_ ?_ <;> (simp only [lnE] <;> omega)) | fail)) only [syA, syB, argFr, D, E, T, C, undefv, eqF, aeq, sheqs, sheq, rdCells, cellsOf, fill, putAt, if_true, if_false, reduceIte, ↓reduceIte, reduceCtorEq, eq_self, Nat.reduceEqDiff, Nat.reduceAdd, Nat.reduceSub, Nat.reduceMul, Nat.reduceLT, Nat.reduceLeDiff, Nat.reducePow, Nat.reduceDiv, Nat.reduceMod, Int.reduceLT, Int.reduceLE, Int.reduceGT, Int.reduceGE, Int.reduceToNat, Int.reducePow, Int.reduceNeg, Int.reduceBEq, Int.reduceBNe, Int.reduceEq, Int.reduceAdd, Int.reduceSub, Int.reduceMul, cellv, sc, flatv, refs, refsF, refsC, hF.not0, hF.not1, hF.up0, hF.up1, ac30, h1, h2]
  by_cases h3 : w > 32
  · simp (disch := (first | omega | (simp only [lnE] <;> omega) | (refine Fit.mono ‹Fit _ _ _› ?_ <;> (simp only [lnE] <;> omega)) | (refine Fit.draw ‹Fit _ _ _› ?_ ?_ <;> (simp only [lnE] <;> omega)) | (refine Fit.hid1 ‹Fit _ _ _› ?_ ?_ <;> (simp only [lnE] <;> omega)) | (refine Fit.draw1 ‹Fit _ _ _› ?_ ?_ ?_ <;> (simp only [lnE] <;> omega)) | (refine Fit.range0 ?_ ?_ <;> (simp only [lnE] <;> omega)) | fail)) only [syA, syB, argFr, D, E, T, C, undefv, eqF, aeq, sheqs, sheq, rdCells, cellsOf, fill, putAt, if_true, if_false, reduceIte, ↓reduceIte, reduceCtorEq, eq_self, Nat.reduceEqDiff, Nat.reduceAdd, Nat.reduceSub, Nat.reduceMul, Nat.reduceLT, Nat.reduceLeDiff, Nat.reducePow, Nat.reduceDiv, Nat.reduceMod, Int.reduceLT, Int.reduceLE, Int.reduceGT, Int.reduceGE, Int.reduceToNat, Int.reducePow, Int.reduceNeg, Int.reduceBEq, Int.reduceBNe, Int.reduceEq, Int.reduceAdd, Int.reduceSub, Int.reduceMul, cellv, sc, flatv, refs, refsF, refsC, hF.not0, hF.not1, hF.up0, hF.up1, ac30, h1, h2, h3]
  by_cases h4 : w > 8 * (l.length : Int)
  · simp (disch := (first | omega | (simp only [lnE] <;> omega) | (refine Fit.mono ‹Fit _ _ _› ?_ <;> (simp only [lnE] <;> omega)) | (refine Fit.draw ‹Fit _ _ _› ?_ ?_ <;> (simp only [lnE] <;> omega)) | (refine Fit.hid1 ‹Fit _ _ _› ?_ ?_ <;> (simp only [lnE] <;> omega)) | (refine Fit.draw1 ‹Fit _ _ _› ?_ ?_ ?_ <;> (simp only [lnE] <;> omega)) | (refine Fit.range0 ?_ ?_ <;> (simp only [lnE] <;> omega)) | fail)) only [syA, syB, argFr, D, E, T, C, undefv, eqF, aeq, sheqs, sheq, rdCells, cellsOf, fill, putAt, if_true, if_false, reduceIte, ↓reduceIte, reduceCtorEq, eq_self, Nat.reduceEqDiff, Nat.reduceAdd, Nat.reduceSub, Nat.reduceMul, Nat.reduceLT, Nat.reduceLeDiff, Nat.reducePow, Nat.reduceDiv, Nat.reduceMod, Int.reduceLT, Int.reduceLE, Int.reduceGT, Int.reduceGE, Int.reduceToNat, Int.reducePow, Int.reduceNeg, Int.reduceBEq, Int.reduceBNe, Int.reduceEq, Int.reduceAdd, Int.reduceSub, Int.reduceMul, cellv, sc, flatv, refs, refsF, refsC, hF.not0, hF.not1, hF.up0, hF.up1, ac30, h1, h2, h3, h4]
  have h5 : p > 8 * (l.length : Int) - w := by omega
  simp (disch := (first | omega | (simp only [lnE] <;> omega) | (refine Fit.mono ‹Fit _ _ _› ?_ <;> (simp only [lnE] <;> omega)) | (refine Fit.draw ‹Fit _ _ _› ?_ ?_ <;> (simp only [lnE] <;> omega)) | (refine Fit.hid1 ‹Fit _ _ _› ?_ ?_ <;> (simp only [lnE] <;> omega)) | (refine Fit.draw1 ‹Fit _ _ _› ?_ ?_ ?_ <;> (simp only [lnE] <;> omega)) | (refine Fit.range0 ?_ ?_ <;> (simp only [lnE] <;> omega)) | fail)) only [syA, syB, argFr, D, E, T, C, undefv, eqF, aeq, sheqs, sheq, rdCells, cellsOf, fill, putAt, if_true, if_false, reduceIte, ↓reduceIte, reduceCtorEq, eq_self, Nat.reduceEqDiff, Nat.reduceAdd, Nat.reduceSub, Nat.reduceMul, Nat.reduceLT, Nat.reduceLeDiff, Nat.reducePow, Nat.reduceDiv, Nat.reduceMod, Int.reduceLT, Int.reduceLE, Int.reduceGT, Int.reduceGE, Int.reduceToNat, Int.reducePow, Int.reduceNeg, Int.reduceBEq, Int.reduceBNe, Int.reduceEq, Int.reduceAdd, Int.reduceSub, Int.reduceMul, cellv, sc, flatv, refs, refsF, refsC, hF.not0, hF.not1, hF.up0, hF.up1, ac30, h1, h2, h3, h4, h5]
theorem or32 {x b : Nat} (hx : x < 2147483648) (hb : b < 2) : orI 32 (x * 2 : Int) (b : Int) = (2 * x + b : Nat) := by
  have h := or_nat 32 (2 * x) b (by omega) (by omega)
  unfold orI
  rw [show ((x : Int) * 2) = ((2 * x : Nat) : Int) by omega, h, ← Nat.pow_one 2, ← Nat.two_pow_add_eq_or_of_lt (by simpa using hb)]
theorem get_loop {v : Value} (h : Rd ⟨hp, L, H, []⟩ v l) {p w : Nat} (hw : w ≤ 32) (hpw : p + w ≤ 8 * l.length) (hs : l.length ≤ 1048576) (hF : Fit hp.length L H) : ∀ (n i : Nat), i + n = w → num (bitsIn l p i) < 2 ^ i → ∃ fr, Liter env lb30_0 [6, 36, 35, 0, 1] hp.length [(6, .int .u32 (num (bitsIn l p i))), (36, .int .i64 i), (35, .int .i64 w), (0, v), (1, .int .i64 p)] ⟨hp, L, H, []⟩
      = some (.exit 0, fr, ⟨hp, L, H, []⟩) ∧ fr.get 6 = some (.int .u32 (num (bitsIn l p w)))
  | 0, i, e, _ => by
    obtain rfl : i = w := by omega
    rw [iter_by lb30_0.eq_1]
    simp (disch := (first | omega | (simp only [lnE] <;> omega) | (refine Fit.mono ‹Fit _ _ _› ?_ <;> (simp only [lnE] <;> omega)) | (refine Fit.draw ‹Fit _ _ _› ?_ ?_ <;> (simp only [lnE] <;> omega)) | (refine Fit.hid1 ‹Fit _ _ _› ?_ ?_ <;> (simp only [lnE] <;> omega)) | (refine Fit.draw1 ‹Fit _ _ _› ?_ ?_ ?_ <;> (simp only [lnE] <;> omega)) | (refine Fit.range0 ?_ ?_ <;> (simp only [lnE] <;> omega)) | fail)) only [syA, syB, argFr, D, E, T, C, undefv, eqF, aeq, sheqs, sheq, rdCells, cellsOf, fill, putAt, if_true, if_false, reduceIte, ↓reduceIte, reduceCtorEq, eq_self, Nat.reduceEqDiff, Nat.reduceAdd, Nat.reduceSub, Nat.reduceMul, Nat.reduceLT, Nat.reduceLeDiff, Nat.reducePow, Nat.reduceDiv, Nat.reduceMod, Int.reduceLT, Int.reduceLE, Int.reduceGT, Int.reduceGE, Int.reduceToNat, Int.reducePow, Int.reduceNeg, Int.reduceBEq, Int.reduceBNe, Int.reduceEq, Int.reduceAdd, Int.reduceSub, Int.reduceMul, cellv, sc, flatv, refs, refsF, refsC]
    exact ⟨_, rfl, rfl⟩
  | n + 1, i, e, hlt => by
    have hi : (i : Int) < w := by omega
    have hsn := bitsIn_snoc l i p
    have hbit := bitAt_lt l (p + i)
    have hnum : num (bitsIn l p (i + 1)) = 2 * num (bitsIn l p i) + bitAt l (p + i) := by rw [hsn, num_snoc]
    have hlt' : num (bitsIn l p (i + 1)) < 2 ^ (i + 1) := by rw [hnum, Nat.pow_succ]; omega
    have hpi : 2 ^ i ≤ 2 ^ 31 := Nat.pow_le_pow_right (by decide) (by omega)
    obtain ⟨fr, ih, h6⟩ := get_loop h hw hpw hs hF n (i + 1) (by omega) hlt'
    refine ⟨fr, ?_, h6⟩
    rw [hnum] at ih
    simp only [Int.natCast_add, Int.natCast_one, Int.natCast_mul, Int.cast_ofNat_Int] at ih
    have hb := bit_walk (p := p + i) h (by omega) hs hF
    simp only [Int.natCast_add] at hb
    rw [iter_by lb30_0.eq_1]
    generalize num (bitsIn l p i) = x at *
    generalize bitAt l (p + i) = b at *
    have hor := or32 (x := x) (b := b) (by omega) hbit
    simp only [Int.natCast_add, Int.natCast_mul, Int.cast_ofNat_Int] at hor
    have h21 : (2 : Int) ^ (1 : Nat) = 2 := rfl
    simp (disch := (first | omega | (simp only [lnE] <;> omega) | (refine Fit.mono ‹Fit _ _ _› ?_ <;> (simp only [lnE] <;> omega)) | (refine Fit.draw ‹Fit _ _ _› ?_ ?_ <;> (simp only [lnE] <;> omega)) | (refine Fit.hid1 ‹Fit _ _ _› ?_ ?_ <;> (simp only [lnE] <;> omega)) | (refine Fit.draw1 ‹Fit _ _ _› ?_ ?_ ?_ <;> (simp only [lnE] <;> omega)) | (refine Fit.range0 ?_ ?_ <;> (simp only [lnE] <;> omega)) | fail)) only [syA, syB, argFr, D, E, T, C, undefv, eqF, aeq, sheqs, sheq, rdCells, cellsOf, fill, putAt, if_true, if_false, reduceIte, ↓reduceIte, reduceCtorEq, eq_self, Nat.reduceEqDiff, Nat.reduceAdd, Nat.reduceSub, Nat.reduceMul, Nat.reduceLT, Nat.reduceLeDiff, Nat.reducePow, Nat.reduceDiv, Nat.reduceMod, Int.reduceLT, Int.reduceLE, Int.reduceGT, Int.reduceGE, Int.reduceToNat, Int.reducePow, Int.reduceNeg, Int.reduceBEq, Int.reduceBNe, Int.reduceEq, Int.reduceAdd, Int.reduceSub, Int.reduceMul, cellv, sc, flatv, refs, refsF, refsC, hi, hb, hor, h21]
    exact ih
theorem get_walk {v : Value} {d : List Nat} (h : Rd ⟨hp, L, H, d⟩ v l) {p w : Nat} (hw : w ≤ 32) (hpw : p + w ≤ 8 * l.length) (hs : l.length ≤ 1048576) (hF : Fit hp.length L H) :
    Lrun env (.func 30) [v, .int .i64 p, .int .i64 w] ⟨hp, L, H, d⟩ = some (.tuple #[.int .u32 (num (bitsIn l p w)), .bool true], ⟨hp, L, H, d⟩) := by
  rw [Lrun_sym 30 _ _ fn30]
  have h' : Rd ⟨hp, L, H, []⟩ v l := h.more fun _ _ hx hh => ⟨hx, hh⟩
  obtain ⟨fr, h1, h2⟩ := get_loop h' hw hpw hs hF w 0 (by omega) (by rw [show num (bitsIn l p 0) = 0 from rfl]; decide)
  obtain ⟨q, e, rfl⟩ := h.len
  have e0 : num (bitsIn l p 0) = 0 := rfl
  rw [e0] at h1
  simp only [Int.natCast_zero] at h1
  have n1 : ¬ (p : Int) < 0 := by omega
  have n2 : ¬ (w : Int) < 0 := by omega
  have n3 : ¬ (w : Int) > 32 := by omega
  have n4 : ¬ (w : Int) > 8 * (l.length : Int) := by omega
  have n5 : ¬ (p : Int) > 8 * (l.length : Int) - w := by omega
  simp (disch := (first | omega | (simp only [lnE] <;> omega) | (refine Fit.mono ‹Fit _ _ _› ?_ <;> (simp only [lnE] <;> omega)) | (refine Fit.draw ‹Fit _ _ _› ?_ ?_ <;> (simp only [lnE] <;> omega)) | (refine Fit.hid1 ‹Fit _ _ _› ?_ ?_ <;> (simp only [lnE] <;> omega)) | (refine Fit.draw1 ‹Fit _ _ _› ?_ ?_ ?_ <;> (simp only [lnE] <;> omega)) | (refine Fit.range0 ?_ ?_ <;> (simp only [lnE] <;> omega)) | fail)) only [syA, syB, argFr, D, E, T, C, undefv, eqF, aeq, sheqs, sheq, rdCells, cellsOf, fill, putAt, if_true, if_false, reduceIte, ↓reduceIte, reduceCtorEq, eq_self, Nat.reduceEqDiff, Nat.reduceAdd, Nat.reduceSub, Nat.reduceMul, Nat.reduceLT, Nat.reduceLeDiff, Nat.reducePow, Nat.reduceDiv, Nat.reduceMod, Int.reduceLT, Int.reduceLE, Int.reduceGT, Int.reduceGE, Int.reduceToNat, Int.reducePow, Int.reduceNeg, Int.reduceBEq, Int.reduceBNe, Int.reduceEq, Int.reduceAdd, Int.reduceSub, Int.reduceMul, cellv, sc, flatv, refs, refsF, refsC, hF.not0, hF.not1, hF.up0, hF.up1, ac30, n1, n2, n3, n4, n5, h1, h2]
/-! ### Slices of numbers -/
def is (l : List Nat) : List Value := l.map fun n : Nat => .int .i64 (n : Int)
theorem is_length (l : List Nat) : (is l).length = l.length := by simp [is]
theorem is_sc (l : List Nat) : (is l).all sc = true := by simp [is, AM.sc]
theorem is_cellv (l : List Nat) : (is l).all cellv = true := by simp [is, cellv, AM.sc]
def slI (k : Nat) (l : List Nat) : Value := if l.length = 0 then .slice none 0 0 else .slice (some ⟨k, 0, some l.length⟩) l.length 1
def slIB (l : List Nat) : List Blk := if l.length = 0 then [] else [.cells l.length true (is l)]
theorem append_is0 {L : Nat} {H d : List Nat} {m : List Nat} (h0 : m.length ≠ 0) (hs : m.length ≤ 1048576) : St.append ⟨hp, L, H, d⟩ true 1 (.slice none 0 0) m.length (is m) = some (.slice (some ⟨hp.length, 0, some m.length⟩) m.length 1, ⟨hp ++ [.cells m.length true (is m)], L, H, d⟩) := by
  have hsm : small m.length = true := by simp [small, hs]
  simp [St.append, h0, hsm, is_sc, is_cellv]
theorem append_is {L : Nat} {H d : List Nat} {b : Nat} {l m : List Nat} (hb : hp[b]? = some (.cells l.length true (is l))) (hL : L ≤ b) (hh : H.contains b = false) (h0 : m.length ≠ 0) (hs : l.length + m.length ≤ 1048576) :
    St.append ⟨hp, L, H, d⟩ true 1 (.slice (some ⟨b, 0, some l.length⟩) l.length 1) m.length (is m) = some (.slice (some ⟨b, 0, some (l.length + m.length)⟩) (l.length + m.length) 1, ⟨hp.set b (.cells (l.length + m.length) true (is (l ++ m))), L, H, d⟩) := by
  have hsm : small (l.length + m.length) = true := by simp [small, hs]
  have hbl : St.blk ⟨hp, L, H, d⟩ ⟨b, 0, some l.length⟩ = some (true, is l) := by unfold St.blk; rw [hh, hb]; simp
  have hnl : ¬ b < L := by omega
  simp [St.append, h0, hsm, is_sc, is_cellv, hbl, hnl, is_length, addDirty]
  simp [is]
theorem of_loop {v : Value} (h : Rd ⟨hp, L, H, []⟩ v l) (hs : l.length ≤ 100000) (hF : Fit hp.length L H) : ∀ (n i : Nat), i + n = 8 * l.length → ∃ fr, Liter env lb33_0 [2, 7, 6, 0] hp.length [(2, slI hp.length (bitsIn l 0 i)), (7, .int .i64 i), (6, .int .i64 (8 * l.length : Nat)), (0, v)] ⟨hp ++ slIB (bitsIn l 0 i), L, H, []⟩
      = some (.exit 0, fr, ⟨hp ++ slIB (allBits l), L, H, []⟩) ∧ fr.get 2 = some (slI hp.length (allBits l))
  | 0, i, e => by
    obtain rfl : i = 8 * l.length := by omega
    rw [iter_by lb33_0.eq_1]
    simp (disch := (first | omega | (simp only [lnE] <;> omega) | (refine Fit.mono ‹Fit _ _ _› ?_ <;> (simp only [lnE] <;> omega)) | (refine Fit.draw ‹Fit _ _ _› ?_ ?_ <;> (simp only [lnE] <;> omega)) | (refine Fit.hid1 ‹Fit _ _ _› ?_ ?_ <;> (simp only [lnE] <;> omega)) | (refine Fit.draw1 ‹Fit _ _ _› ?_ ?_ ?_ <;> (simp only [lnE] <;> omega)) | (refine Fit.range0 ?_ ?_ <;> (simp only [lnE] <;> omega)) | fail)) only [syA, syB, argFr, D, E, T, C, undefv, eqF, aeq, sheqs, sheq, rdCells, cellsOf, fill, putAt, if_true, if_false, reduceIte, ↓reduceIte, reduceCtorEq, eq_self, Nat.reduceEqDiff, Nat.reduceAdd, Nat.reduceSub, Nat.reduceMul, Nat.reduceLT, Nat.reduceLeDiff, Nat.reducePow, Nat.reduceDiv, Nat.reduceMod, Int.reduceLT, Int.reduceLE, Int.reduceGT, Int.reduceGE, Int.reduceToNat, Int.reducePow, Int.reduceNeg, Int.reduceBEq, Int.reduceBNe, Int.reduceEq, Int.reduceAdd, Int.reduceSub, Int.reduceMul, cellv, sc, flatv, refs, refsF, refsC]
    exact ⟨_, rfl, rfl⟩
  | n + 1, i, e => by
    have hi : (i : Int) < (8 * l.length : Nat) := by omega
    obtain ⟨fr, ih, h2⟩ := of_loop h hs hF n (i + 1) (by omega)
    refine ⟨fr, ?_, h2⟩
    have hb := fun nw d => bit_walk (p := i) (h.app (nw := nw) (L' := L) (d' := d)) (by omega) (by omega) (hF.mono (by simp))
    have hsn := bitsIn_snoc l i 0
    rw [Nat.zero_add] at hsn
    have hbl : (bitsIn l 0 i).length = i := bitsIn_length ..
    simp only [Int.natCast_add, Int.natCast_one] at ih
    rw [iter_by lb33_0.eq_1]
    rw [hsn] at ih
    have hvr : ∀ r ∈ refs v, r < hp.length := h.refs
    have hb2 := bitAt_lt l i
    generalize bitAt l i = b at *
    generalize bitsIn l 0 i = bs at *
    by_cases h0 : i = 0
    · subst h0
      have hn : bs = [] := List.eq_nil_of_length_eq_zero hbl
      subst hn
      have e1 : slI hp.length [] = .slice none 0 0 := rfl
      have e2 : slIB [] = [] := rfl
      rw [e1, e2, List.append_nil]
      have hb0 := hb [] []
      rw [List.append_nil] at hb0
      simp only [Int.natCast_zero] at hb0 hi ⊢
      have happ := append_is0 (hp := hp ++ [.cells 0 true [.int .i64 b]]) (L := L) (H := H) (d := []) (m := [b]) (by simp) (by simp)
      simp only [is, List.map_cons, List.map_nil, List.length_cons, List.length_nil, List.length_append, Nat.zero_add, List.append_assoc, List.cons_append, List.nil_append] at happ
      simp (disch := (first | omega | (simp only [lnE] <;> omega) | (refine Fit.mono ‹Fit _ _ _› ?_ <;> (simp only [lnE] <;> omega)) | (refine Fit.draw ‹Fit _ _ _› ?_ ?_ <;> (simp only [lnE] <;> omega)) | (refine Fit.hid1 ‹Fit _ _ _› ?_ ?_ <;> (simp only [lnE] <;> omega)) | (refine Fit.draw1 ‹Fit _ _ _› ?_ ?_ ?_ <;> (simp only [lnE] <;> omega)) | (refine Fit.range0 ?_ ?_ <;> (simp only [lnE] <;> omega)) | fail)) only [syA, syB, argFr, D, E, T, C, undefv, eqF, aeq, sheqs, sheq, rdCells, cellsOf, fill, putAt, if_true, if_false, reduceIte, ↓reduceIte, reduceCtorEq, eq_self, Nat.reduceEqDiff, Nat.reduceAdd, Nat.reduceSub, Nat.reduceMul, Nat.reduceLT, Nat.reduceLeDiff, Nat.reducePow, Nat.reduceDiv, Nat.reduceMod, Int.reduceLT, Int.reduceLE, Int.reduceGT, Int.reduceGE, Int.reduceToNat, Int.reducePow, Int.reduceNeg, Int.reduceBEq, Int.reduceBNe, Int.reduceEq, Int.reduceAdd, Int.reduceSub, Int.reduceMul, cellv, sc, flatv, refs, refsF, refsC, hF.not0, hF.not1, hF.up0, hF.up1, hi, hb0, sm1, happ]
      have hv1 : ren (AM.one hp.length (hp.length + 1)) v = v := ren_id fun r hr => one_old (hvr r hr)
      rw [gcFr_one 1 (g := 1) (cs := [.int .i64 b]) rfl (by
        intro p hp' r hr
        simp only [List.mem_cons, List.not_mem_nil, or_false] at hp'
        rcases hp' with rfl | rfl | rfl | rfl
        · simp [refs, refsF, refsC] at hr; exact .inr hr
        · simp [refs, refsF, refsC] at hr
        · simp [refs, refsF, refsC] at hr
        · exact .inl (hvr r hr)) ⟨_, List.mem_cons_self, by simp [refs, refsF, refsC]⟩]
      simp only [List.map_cons, List.map_nil, hv1]
      simp only [ren, renF, renC, one_new, againX_some]
      exact ih
    · have e1 : slI hp.length bs = .slice (some ⟨hp.length, 0, some i⟩) i 1 := by unfold slI; rw [if_neg (by omega), hbl]
      have e2 : slIB bs = [.cells i true (is bs)] := by unfold slIB; rw [if_neg (by omega), hbl]
      rw [e1, e2]
      have happ := append_is (hp := hp ++ [.cells bs.length true (is bs), .cells 0 true [.int .i64 b]]) (L := L) (H := H) (d := []) (b := hp.length) (l := bs) (m := [b]) (get_new0 _) hF.1 hF.not0 (by simp) (by simp; omega)
      simp only [is, List.map_cons, List.map_nil, List.length_cons, List.length_nil, List.length_append, Nat.zero_add, List.append_assoc, List.cons_append, List.nil_append, hbl, set_new0] at happ
      simp only [is]
      simp (disch := (first | omega | (simp only [lnE] <;> omega) | (refine Fit.mono ‹Fit _ _ _› ?_ <;> (simp only [lnE] <;> omega)) | (refine Fit.draw ‹Fit _ _ _› ?_ ?_ <;> (simp only [lnE] <;> omega)) | (refine Fit.hid1 ‹Fit _ _ _› ?_ ?_ <;> (simp only [lnE] <;> omega)) | (refine Fit.draw1 ‹Fit _ _ _› ?_ ?_ ?_ <;> (simp only [lnE] <;> omega)) | (refine Fit.range0 ?_ ?_ <;> (simp only [lnE] <;> omega)) | fail)) only [syA, syB, argFr, D, E, T, C, undefv, eqF, aeq, sheqs, sheq, rdCells, cellsOf, fill, putAt, if_true, if_false, reduceIte, ↓reduceIte, reduceCtorEq, eq_self, Nat.reduceEqDiff, Nat.reduceAdd, Nat.reduceSub, Nat.reduceMul, Nat.reduceLT, Nat.reduceLeDiff, Nat.reducePow, Nat.reduceDiv, Nat.reduceMod, Int.reduceLT, Int.reduceLE, Int.reduceGT, Int.reduceGE, Int.reduceToNat, Int.reducePow, Int.reduceNeg, Int.reduceBEq, Int.reduceBNe, Int.reduceEq, Int.reduceAdd, Int.reduceSub, Int.reduceMul, cellv, sc, flatv, refs, refsF, refsC, hF.not0, hF.not1, hF.up0, hF.up1, hi, hb, sm1, happ]
      have hv1 : ren (AM.one hp.length (hp.length + 0)) v = v := ren_id fun r hr => one_old (hvr r hr)
      rw [gcFr_one 0 (g := i + 1) (cs := is (bs ++ [b])) rfl (by
        intro p hp' r hr
        simp only [List.mem_cons, List.not_mem_nil, or_false] at hp'
        rcases hp' with rfl | rfl | rfl | rfl
        · simp [refs, refsF, refsC] at hr; exact .inr hr
        · simp [refs, refsF, refsC] at hr
        · simp [refs, refsF, refsC] at hr
        · exact .inl (hvr r hr)) ⟨_, List.mem_cons_self, by simp [refs, refsF, refsC]⟩]
      simp only [List.map_cons, List.map_nil, hv1]
      simp only [ren, renF, renC, Nat.add_zero, one_new0, againX_some]
      have e3 : slI hp.length (bs ++ [b]) = .slice (some ⟨hp.length, 0, some (i + 1)⟩) (i + 1) 1 := by simp [slI, hbl]
      have e4 : slIB (bs ++ [b]) = [.cells (i + 1) true (is (bs ++ [b]))] := by simp [slIB, hbl]
      rw [e3, e4] at ih
      exact ih
theorem of_walk {v : Value} {d : List Nat} (h : Rd ⟨hp, L, H, d⟩ v l) (hs : l.length ≤ 100000) (hF : Fit hp.length L H) :
    Lrun env (.func 33) [v] ⟨hp, L, H, d⟩ = some (slI hp.length (allBits l), ⟨hp ++ slIB (allBits l), L, H, d⟩) := by
  rw [Lrun_sym 33 _ _ fn33]
  have h' : Rd ⟨hp, L, H, []⟩ v l := h.more fun _ _ hx hh => ⟨hx, hh⟩
  obtain ⟨fr, h1, h2⟩ := of_loop h' hs hF (8 * l.length) 0 (by omega)
  have e1 : slI hp.length (bitsIn l 0 0) = .slice none 0 0 := rfl
  have e2 : slIB (bitsIn l 0 0) = [] := rfl
  rw [e1, e2, List.append_nil] at h1
  simp only [Int.natCast_zero, Int.natCast_mul, Int.cast_ofNat_Int] at h1
  obtain ⟨q, e, rfl⟩ := h.len
  by_cases h0 : (allBits l).length = 0
  · have e3 : slI hp.length (allBits l) = .slice none 0 0 := if_pos h0
    have e4 : slIB (allBits l) = [] := if_pos h0
    rw [e3] at h2 ⊢
    rw [e4] at h1 ⊢
    rw [List.append_nil] at h1 ⊢
    simp (disch := (first | omega | (simp only [lnE] <;> omega) | (refine Fit.mono ‹Fit _ _ _› ?_ <;> (simp only [lnE] <;> omega)) | (refine Fit.draw ‹Fit _ _ _› ?_ ?_ <;> (simp only [lnE] <;> omega)) | (refine Fit.hid1 ‹Fit _ _ _› ?_ ?_ <;> (simp only [lnE] <;> omega)) | (refine Fit.draw1 ‹Fit _ _ _› ?_ ?_ ?_ <;> (simp only [lnE] <;> omega)) | (refine Fit.range0 ?_ ?_ <;> (simp only [lnE] <;> omega)) | fail)) only [syA, syB, argFr, D, E, T, C, undefv, eqF, aeq, sheqs, sheq, rdCells, cellsOf, fill, putAt, if_true, if_false, reduceIte, ↓reduceIte, reduceCtorEq, eq_self, Nat.reduceEqDiff, Nat.reduceAdd, Nat.reduceSub, Nat.reduceMul, Nat.reduceLT, Nat.reduceLeDiff, Nat.reducePow, Nat.reduceDiv, Nat.reduceMod, Int.reduceLT, Int.reduceLE, Int.reduceGT, Int.reduceGE, Int.reduceToNat, Int.reducePow, Int.reduceNeg, Int.reduceBEq, Int.reduceBNe, Int.reduceEq, Int.reduceAdd, Int.reduceSub, Int.reduceMul, cellv, sc, flatv, refs, refsF, refsC, hF.not0, hF.not1, hF.up0, hF.up1, ac33, h1, h2]
  · have e3 : slI hp.length (allBits l) = .slice (some ⟨hp.length, 0, some (allBits l).length⟩) (allBits l).length 1 := if_neg h0
    have e4 : slIB (allBits l) = [.cells (allBits l).length true (is (allBits l))] := if_neg h0
    rw [e3] at h2 ⊢
    rw [e4] at h1 ⊢
    simp (disch := (first | omega | (simp only [lnE] <;> omega) | (refine Fit.mono ‹Fit _ _ _› ?_ <;> (simp only [lnE] <;> omega)) | (refine Fit.draw ‹Fit _ _ _› ?_ ?_ <;> (simp only [lnE] <;> omega)) | (refine Fit.hid1 ‹Fit _ _ _› ?_ ?_ <;> (simp only [lnE] <;> omega)) | (refine Fit.draw1 ‹Fit _ _ _› ?_ ?_ ?_ <;> (simp only [lnE] <;> omega)) | (refine Fit.range0 ?_ ?_ <;> (simp only [lnE] <;> omega)) | fail)) only [syA, syB, argFr, D, E, T, C, undefv, eqF, aeq, sheqs, sheq, rdCells, cellsOf, fill, putAt, if_true, if_false, reduceIte, ↓reduceIte, reduceCtorEq, eq_self, Nat.reduceEqDiff, Nat.reduceAdd, Nat.reduceSub, Nat.reduceMul, Nat.reduceLT, Nat.reduceLeDiff, Nat.reducePow, Nat.reduceDiv, Nat.reduceMod, Int.reduceLT, Int.reduceLE, Int.reduceGT, Int.reduceGE, Int.reduceToNat, Int.reducePow, Int.reduceNeg, Int.reduceBEq, Int.reduceBNe, Int.reduceEq, Int.reduceAdd, Int.reduceSub, Int.reduceMul, cellv, sc, flatv, refs, refsF, refsC, hF.not0, hF.not1, hF.up0, hF.up1, ac33, h1, h2]
    rw [gcY_slice]
    rfl
end Bt
end Go.Proofs.Ytceecoagooalpaa
end
