/-
  VARINT: walks of its functions on the abstract machine: writing. Conditions: none.
-/
import Derived.Test.YtpjjkmfidghkjaaHvB
set_option linter.all false
namespace Go.Proofs.Ytpjjkmfidghkjaa
namespace VarA
open Go Go.RowKit AM ArEnv

/-- The cells of a list whose first i and last i elements have been swapped. -/
def swapped (l : List Nat) (i : Nat) : List Nat := (List.range l.length).map fun p => if p < i ∨ l.length - i ≤ p then l.getD (l.length - 1 - p) 0 else l.getD p 0
theorem swapped_length (l : List Nat) (i : Nat) : (swapped l i).length = l.length := by simp [swapped]
theorem swapped_get (l : List Nat) (i p : Nat) (hp : p < l.length) : (swapped l i)[p]? = some (if p < i ∨ l.length - i ≤ p then l.getD (l.length - 1 - p) 0 else l.getD p 0) := by
  simp [swapped, List.getElem?_map, List.getElem?_range hp]
theorem swapped_zero (l : List Nat) : swapped l 0 = l := by
  apply List.ext_getElem?
  intro p
  rcases Nat.lt_or_ge p l.length with h | h
  · rw [swapped_get l 0 p h, if_neg (by omega)]
    simp [List.getD_eq_getElem?_getD, List.getElem?_eq_getElem h]
  · rw [List.getElem?_eq_none (by rw [swapped_length]; exact h), List.getElem?_eq_none h]
theorem swapped_end (l : List Nat) (i : Nat) (hi : l.length ≤ 2 * i + 1) : swapped l i = l.reverse := by
  apply List.ext_getElem?
  intro p
  rcases Nat.lt_or_ge p l.length with h | h
  · rw [swapped_get l i p h, List.getElem?_reverse h]
    split
    · simp [List.getD_eq_getElem?_getD, List.getElem?_eq_getElem (show l.length - 1 - p < l.length by omega)]
    · have : l.length - 1 - p = p := by omega
      rw [this]; simp [List.getD_eq_getElem?_getD, List.getElem?_eq_getElem h]
  · rw [List.getElem?_eq_none (by rw [swapped_length]; exact h), List.getElem?_eq_none (by simpa using h)]
theorem swapped_step (l : List Nat) (i : Nat) (hi : 2 * i + 1 < l.length) : (((swapped l i).set i ((swapped l i).getD (l.length - 1 - i) 0)).set (l.length - 1 - i) ((swapped l i).getD i 0)) = swapped l (i + 1) := by
  apply List.ext_getElem?
  intro p
  rcases Nat.lt_or_ge p l.length with h | h
  · rw [swapped_get l (i + 1) p h, List.getElem?_set, List.getElem?_set]
    simp only [List.length_set, swapped_length, List.getD_eq_getElem?_getD, swapped_get l i i (by omega), swapped_get l i (l.length - 1 - i) (by omega), Option.getD_some]
    by_cases h1 : l.length - 1 - i = p
    · subst h1
      rw [if_pos rfl, if_pos (by omega), if_neg (by omega), if_pos (by omega)]
      have : l.length - 1 - (l.length - 1 - i) = i := by omega
      rw [this]
    · rw [if_neg h1]
      by_cases h2 : i = p
      · subst h2
        rw [if_pos rfl, if_pos (by omega), if_neg (by omega), if_pos (by omega)]
      · rw [if_neg h2, swapped_get l i p h]
        congr 1
        simp only [List.getD_eq_getElem?_getD]
        split <;> split <;> first
          | rfl
          | omega
  · rw [List.getElem?_eq_none (by simp [swapped_length]; exact h), List.getElem?_eq_none (by rw [swapped_length]; exact h)]
theorem u8s_set (l : List Nat) (i x : Nat) : (u8s l).set i (.int .u8 (x : Int)) = u8s (l.set i x) := by simp [u8s, List.map_set]

theorem reverse_loop {hp : List Blk} {L b g : Nat} {H : List Nat} {l : List Nat} (hL : L ≤ b) (hh : H.contains b = false) (hbl : b < hp.length) (hn : l.length ≤ 1048576) :
    ∀ (k i : Nat), l.length ≤ 2 * i + k → 2 * i ≤ l.length + 1 → ∃ fr, Liter env lb49_0 [2, 3, 0] hp.length [(2, .int .i64 i), (3, .int .i64 ((l.length : Int) - 1 - i)), (0, .slice (some ⟨b, 0, some g⟩) l.length 1)] ⟨hp.set b (.cells g true (u8s (swapped l i))), L, H, []⟩ =
      some (.exit 0, fr, ⟨hp.set b (.cells g true (u8s l.reverse)), L, H, []⟩)
  | k, i, h1, h2 => by
    rw [iter_by lb49_0.eq_1]
    by_cases hc : (i : Int) < (l.length : Int) - 1 - i
    · cases k with
      | zero => omega
      | succ k =>
        have hj : ((l.length : Int) - 1 - i).toNat = l.length - 1 - i := by omega
        have b1 : 0 ≤ (i : Int) ∧ (i : Int) < l.length := by omega
        have b2 : 0 ≤ (l.length : Int) - 1 - i ∧ (l.length : Int) - 1 - i < l.length := by omega
        have g1 : (u8s (swapped l i))[i]? = some (.int .u8 ((swapped l i).getD i 0 : Nat)) := by
          rw [u8s_get, List.getD_eq_getElem?_getD, List.getElem?_eq_getElem (by rw [swapped_length]; omega)]; rfl
        have g2 : (u8s (swapped l i))[l.length - 1 - i]? = some (.int .u8 ((swapped l i).getD (l.length - 1 - i) 0 : Nat)) := by
          rw [u8s_get, List.getD_eq_getElem?_getD, List.getElem?_eq_getElem (by rw [swapped_length]; omega)]; rfl
        have q1 : i + 1 ≤ l.length := by omega
        have q2 : l.length - 1 - i + 1 ≤ l.length := by omega
        have hbL : (b < L) = False := eq_false (by omega)
        simp (disch := (first | omega | (simp only [lnE] <;> omega) | (refine Fit.mono ‹Fit _ _ _› ?_ <;> (simp only [lnE] <;> omega)) | (refine Fit.draw ‹Fit _ _ _› ?_ ?_ <;> (simp only [lnE] <;> omega)) | (refine Fit.hid1 ‹Fit _ _ _› ?_ ?_ <;> (simp only [lnE] <;> omega)) | (refine Fit.hidc1 ‹Fit _ _ _› ?_ ?_ <;> (simp only [lnE] <;> omega)) | (refine Fit.hidc2 ‹Fit _ _ _› ?_ ?_ ?_ <;> (simp only [lnE] <;> omega)) | (refine Fit.draw1 ‹Fit _ _ _› ?_ ?_ ?_ <;> (simp only [lnE] <;> omega)) | (refine Fit.range0 ?_ ?_ <;> (simp only [lnE] <;> omega)) | fail)) only [syA, syB, argFr, D, E, T, C, undefv, eqF, aeq, sheqs, sheq, rdCells, cellsOf, fill, putAt, if_true, if_false, reduceIte, ↓reduceIte, reduceCtorEq, eq_self, Nat.reduceEqDiff, Nat.reduceAdd, Nat.reduceSub, Nat.reduceMul, Nat.reduceLT, Nat.reduceLeDiff, Nat.reducePow, Nat.reduceDiv, Nat.reduceMod, Int.reduceLT, Int.reduceLE, Int.reduceGT, Int.reduceGE, Int.reduceToNat, Int.reducePow, Int.reduceNeg, Int.reduceBEq, Int.reduceBNe, Int.reduceEq, Int.reduceAdd, Int.reduceSub, Int.reduceMul, cellv, sc, flatv, refs, refsF, refsC, hc, hj, b1, b2, hh, hbL, List.getElem?_set_self hbl, g1, g2, q1, q2, u8s_length, swapped_length, List.set_set, u8s_set, hbl]
        rw [swapped_step l i (by omega)]
        have := reverse_loop (g := g) hL hh hbl hn k (i + 1) (by omega) (by omega)
        rw [show ((i + 1 : Nat) : Int) = (i : Int) + 1 from rfl, show (l.length : Int) - 1 - ((i : Int) + 1) = (l.length : Int) - 1 - i - 1 by omega] at this
        exact this
    · simp (disch := (first | omega | (simp only [lnE] <;> omega) | (refine Fit.mono ‹Fit _ _ _› ?_ <;> (simp only [lnE] <;> omega)) | (refine Fit.draw ‹Fit _ _ _› ?_ ?_ <;> (simp only [lnE] <;> omega)) | (refine Fit.hid1 ‹Fit _ _ _› ?_ ?_ <;> (simp only [lnE] <;> omega)) | (refine Fit.hidc1 ‹Fit _ _ _› ?_ ?_ <;> (simp only [lnE] <;> omega)) | (refine Fit.hidc2 ‹Fit _ _ _› ?_ ?_ ?_ <;> (simp only [lnE] <;> omega)) | (refine Fit.draw1 ‹Fit _ _ _› ?_ ?_ ?_ <;> (simp only [lnE] <;> omega)) | (refine Fit.range0 ?_ ?_ <;> (simp only [lnE] <;> omega)) | fail)) only [syA, syB, argFr, D, E, T, C, undefv, eqF, aeq, sheqs, sheq, rdCells, cellsOf, fill, putAt, if_true, if_false, reduceIte, ↓reduceIte, reduceCtorEq, eq_self, Nat.reduceEqDiff, Nat.reduceAdd, Nat.reduceSub, Nat.reduceMul, Nat.reduceLT, Nat.reduceLeDiff, Nat.reducePow, Nat.reduceDiv, Nat.reduceMod, Int.reduceLT, Int.reduceLE, Int.reduceGT, Int.reduceGE, Int.reduceToNat, Int.reducePow, Int.reduceNeg, Int.reduceBEq, Int.reduceBNe, Int.reduceEq, Int.reduceAdd, Int.reduceSub, Int.reduceMul, cellv, sc, flatv, refs, refsF, refsC, hc]
      rw [swapped_end l i (by omega)]
      exact ⟨_, rfl⟩
theorem reverse_walk {hp : List Blk} {L b g : Nat} {H d : List Nat} {l : List Nat} (hL : L ≤ b) (hh : H.contains b = false) (hb : hp[b]? = some (.cells g true (u8s l))) (hn : l.length ≤ 1048576) :
    Lrun env (.func 49) [.slice (some ⟨b, 0, some g⟩) l.length 1] ⟨hp, L, H, d⟩ = some (.tuple #[], ⟨hp.set b (.cells g true (u8s l.reverse)), L, H, d⟩) := by
  have hbl : b < hp.length := (List.getElem?_eq_some_iff.1 hb).1
  rw [Lrun_sym 49 _ _ fn49]
  obtain ⟨fr, h1⟩ := reverse_loop (g := g) hL hh hbl hn l.length 0 (by omega) (by omega)
  rw [swapped_zero, set_same hb] at h1
  simp only [Int.natCast_zero, Int.sub_zero] at h1
  simp (disch := (first | omega | (simp only [lnE] <;> omega) | (refine Fit.mono ‹Fit _ _ _› ?_ <;> (simp only [lnE] <;> omega)) | (refine Fit.draw ‹Fit _ _ _› ?_ ?_ <;> (simp only [lnE] <;> omega)) | (refine Fit.hid1 ‹Fit _ _ _› ?_ ?_ <;> (simp only [lnE] <;> omega)) | (refine Fit.hidc1 ‹Fit _ _ _› ?_ ?_ <;> (simp only [lnE] <;> omega)) | (refine Fit.hidc2 ‹Fit _ _ _› ?_ ?_ ?_ <;> (simp only [lnE] <;> omega)) | (refine Fit.draw1 ‹Fit _ _ _› ?_ ?_ ?_ <;> (simp only [lnE] <;> omega)) | (refine Fit.range0 ?_ ?_ <;> (simp only [lnE] <;> omega)) | fail)) only [syA, syB, argFr, D, E, T, C, undefv, eqF, aeq, sheqs, sheq, rdCells, cellsOf, fill, putAt, if_true, if_false, reduceIte, ↓reduceIte, reduceCtorEq, eq_self, Nat.reduceEqDiff, Nat.reduceAdd, Nat.reduceSub, Nat.reduceMul, Nat.reduceLT, Nat.reduceLeDiff, Nat.reducePow, Nat.reduceDiv, Nat.reduceMod, Int.reduceLT, Int.reduceLE, Int.reduceGT, Int.reduceGE, Int.reduceToNat, Int.reducePow, Int.reduceNeg, Int.reduceBEq, Int.reduceBNe, Int.reduceEq, Int.reduceAdd, Int.reduceSub, Int.reduceMul, cellv, sc, flatv, refs, refsF, refsC, ac49, h1]

/-- The groups of a number behind the lowest, lowest first. -/
def leTail (n : Nat) : List Nat := if h : n = 0 then [] else (128 + n % 128) :: leTail (n / 128)
termination_by n
decreasing_by omega
theorem leTail_zero : leTail 0 = [] := by rw [leTail]; rfl
theorem leTail_pos {n : Nat} (h : n ≠ 0) : leTail n = (128 + n % 128) :: leTail (n / 128) := by rw [leTail, dif_neg h]
/-- The encoding. -/
def enc (n : Nat) : List Nat := ((n % 128) :: leTail (n / 128)).reverse
theorem leTail_len : ∀ (k n : Nat), n < 128 ^ k → (leTail n).length ≤ k
  | 0, n, h => by
    have : n = 0 := by simpa using h
    subst this; rw [leTail_zero]; simp
  | k + 1, n, h => by
    by_cases h0 : n = 0
    · subst h0; rw [leTail_zero]; simp
    · rw [leTail_pos h0, List.length_cons]
      have := leTail_len k (n / 128) (by rw [Nat.pow_succ] at h; omega)
      omega
theorem put_loop {hp : List Blk} {L : Nat} {H : List Nat} (hF : Fit hp.length L H) (x : Blk) : ∀ (k n : Nat), n < 128 ^ k → n ≤ 2147483647 → ∀ acc : List Nat, acc.length + k ≤ 100 → acc ≠ [] → ∃ fr,
    Liter env lb44_0 [2, 0] (hp.length + 2) [(2, .slice (some ⟨hp.length + 1, 0, some acc.length⟩) acc.length 1), (0, .int .i64 n)] ⟨hp ++ [x, .cells acc.length true (u8s acc)], L, H, []⟩ =
      some (.exit 0, fr, ⟨hp ++ [x, .cells (acc ++ leTail n).length true (u8s (acc ++ leTail n))], L, H, []⟩) ∧ fr.get 2 = some (.slice (some ⟨hp.length + 1, 0, some (acc ++ leTail n).length⟩) (acc ++ leTail n).length 1)
  | 0, n, h, hm, acc, ha, hne => by
    have : n = 0 := by simpa using h
    subst this
    rw [iter_by lb44_0.eq_1, leTail_zero, List.append_nil]
    simp (disch := (first | omega | (simp only [lnE] <;> omega) | (refine Fit.mono ‹Fit _ _ _› ?_ <;> (simp only [lnE] <;> omega)) | (refine Fit.draw ‹Fit _ _ _› ?_ ?_ <;> (simp only [lnE] <;> omega)) | (refine Fit.hid1 ‹Fit _ _ _› ?_ ?_ <;> (simp only [lnE] <;> omega)) | (refine Fit.hidc1 ‹Fit _ _ _› ?_ ?_ <;> (simp only [lnE] <;> omega)) | (refine Fit.hidc2 ‹Fit _ _ _› ?_ ?_ ?_ <;> (simp only [lnE] <;> omega)) | (refine Fit.draw1 ‹Fit _ _ _› ?_ ?_ ?_ <;> (simp only [lnE] <;> omega)) | (refine Fit.range0 ?_ ?_ <;> (simp only [lnE] <;> omega)) | fail)) only [syA, syB, argFr, D, E, T, C, undefv, eqF, aeq, sheqs, sheq, rdCells, cellsOf, fill, putAt, if_true, if_false, reduceIte, ↓reduceIte, reduceCtorEq, eq_self, Nat.reduceEqDiff, Nat.reduceAdd, Nat.reduceSub, Nat.reduceMul, Nat.reduceLT, Nat.reduceLeDiff, Nat.reducePow, Nat.reduceDiv, Nat.reduceMod, Int.reduceLT, Int.reduceLE, Int.reduceGT, Int.reduceGE, Int.reduceToNat, Int.reducePow, Int.reduceNeg, Int.reduceBEq, Int.reduceBNe, Int.reduceEq, Int.reduceAdd, Int.reduceSub, Int.reduceMul, cellv, sc, flatv, refs, refsF, refsC, hF.not0, hF.not1, hF.up0, hF.up1]
    refine ⟨_, rfl, ?_⟩
    rfl
  | k + 1, n, h, hm, acc, ha, hne => by
    rw [iter_by lb44_0.eq_1]
    by_cases h0 : n = 0
    · subst h0
      rw [leTail_zero, List.append_nil]
      simp (disch := (first | omega | (simp only [lnE] <;> omega) | (refine Fit.mono ‹Fit _ _ _› ?_ <;> (simp only [lnE] <;> omega)) | (refine Fit.draw ‹Fit _ _ _› ?_ ?_ <;> (simp only [lnE] <;> omega)) | (refine Fit.hid1 ‹Fit _ _ _› ?_ ?_ <;> (simp only [lnE] <;> omega)) | (refine Fit.hidc1 ‹Fit _ _ _› ?_ ?_ <;> (simp only [lnE] <;> omega)) | (refine Fit.hidc2 ‹Fit _ _ _› ?_ ?_ ?_ <;> (simp only [lnE] <;> omega)) | (refine Fit.draw1 ‹Fit _ _ _› ?_ ?_ ?_ <;> (simp only [lnE] <;> omega)) | (refine Fit.range0 ?_ ?_ <;> (simp only [lnE] <;> omega)) | fail)) only [syA, syB, argFr, D, E, T, C, undefv, eqF, aeq, sheqs, sheq, rdCells, cellsOf, fill, putAt, if_true, if_false, reduceIte, ↓reduceIte, reduceCtorEq, eq_self, Nat.reduceEqDiff, Nat.reduceAdd, Nat.reduceSub, Nat.reduceMul, Nat.reduceLT, Nat.reduceLeDiff, Nat.reducePow, Nat.reduceDiv, Nat.reduceMod, Int.reduceLT, Int.reduceLE, Int.reduceGT, Int.reduceGE, Int.reduceToNat, Int.reducePow, Int.reduceNeg, Int.reduceBEq, Int.reduceBNe, Int.reduceEq, Int.reduceAdd, Int.reduceSub, Int.reduceMul, cellv, sc, flatv, refs, refsF, refsC, hF.not0, hF.not1, hF.up0, hF.up1]
      refine ⟨_, rfl, ?_⟩
      rfl
    · have h1 : (n : Int) > 0 := by omega
      have hy : ((128 + n % 128 : Nat) : Int) = 128 + (n : Int) % 128 := by omega
      have hz : (n : Int).fdiv 128 = ((n / 128 : Nat) : Int) := by rw [fdiv_pos _ (by omega)]; rfl
      have happ := append_full (hp := hp ++ [x, .cells acc.length true (u8s acc), .cells 0 true [.int .u8 (128 + (n : Int) % 128)]]) (L := L) (H := H) (d := []) (b := hp.length + 1) (l0 := acc) (l := [128 + n % 128]) (by rw [get_new]; rfl) (by have := hF.1; omega) (hF.not1 1) (by simp; omega)
      simp only [u8s_cons, u8s_nil, List.length_cons, List.length_nil, Nat.zero_add, hy, set_new, List.set_cons_succ, List.set_cons_zero] at happ
      have hsm : (n / 128) < 128 ^ k := by rw [Nat.pow_succ] at h; omega
      obtain ⟨fr, e1, e2⟩ := put_loop hF x k (n / 128) hsm (by omega) (acc ++ [128 + n % 128]) (by simp; omega) (by simp)
      simp (disch := (first | omega | (simp only [lnE] <;> omega) | (refine Fit.mono ‹Fit _ _ _› ?_ <;> (simp only [lnE] <;> omega)) | (refine Fit.draw ‹Fit _ _ _› ?_ ?_ <;> (simp only [lnE] <;> omega)) | (refine Fit.hid1 ‹Fit _ _ _› ?_ ?_ <;> (simp only [lnE] <;> omega)) | (refine Fit.hidc1 ‹Fit _ _ _› ?_ ?_ <;> (simp only [lnE] <;> omega)) | (refine Fit.hidc2 ‹Fit _ _ _› ?_ ?_ ?_ <;> (simp only [lnE] <;> omega)) | (refine Fit.draw1 ‹Fit _ _ _› ?_ ?_ ?_ <;> (simp only [lnE] <;> omega)) | (refine Fit.range0 ?_ ?_ <;> (simp only [lnE] <;> omega)) | fail)) only [syA, syB, argFr, D, E, T, C, undefv, eqF, aeq, sheqs, sheq, rdCells, cellsOf, fill, putAt, if_true, if_false, reduceIte, ↓reduceIte, reduceCtorEq, eq_self, Nat.reduceEqDiff, Nat.reduceAdd, Nat.reduceSub, Nat.reduceMul, Nat.reduceLT, Nat.reduceLeDiff, Nat.reducePow, Nat.reduceDiv, Nat.reduceMod, Int.reduceLT, Int.reduceLE, Int.reduceGT, Int.reduceGE, Int.reduceToNat, Int.reducePow, Int.reduceNeg, Int.reduceBEq, Int.reduceBNe, Int.reduceEq, Int.reduceAdd, Int.reduceSub, Int.reduceMul, cellv, sc, flatv, refs, refsF, refsC, hF.not0, hF.not1, hF.up0, hF.up1, h1, hz, and127_i64, or128_u8, happ, small]
      rw [gcFr_cut 2 (by simp) (by simp [refs, refsF, refsC])]
      simp (disch := (first | omega | (simp only [lnE] <;> omega) | (refine Fit.mono ‹Fit _ _ _› ?_ <;> (simp only [lnE] <;> omega)) | (refine Fit.draw ‹Fit _ _ _› ?_ ?_ <;> (simp only [lnE] <;> omega)) | (refine Fit.hid1 ‹Fit _ _ _› ?_ ?_ <;> (simp only [lnE] <;> omega)) | (refine Fit.hidc1 ‹Fit _ _ _› ?_ ?_ <;> (simp only [lnE] <;> omega)) | (refine Fit.hidc2 ‹Fit _ _ _› ?_ ?_ ?_ <;> (simp only [lnE] <;> omega)) | (refine Fit.draw1 ‹Fit _ _ _› ?_ ?_ ?_ <;> (simp only [lnE] <;> omega)) | (refine Fit.range0 ?_ ?_ <;> (simp only [lnE] <;> omega)) | fail)) only [syA, syB, argFr, D, E, T, C, undefv, eqF, aeq, sheqs, sheq, rdCells, cellsOf, fill, putAt, if_true, if_false, reduceIte, ↓reduceIte, reduceCtorEq, eq_self, Nat.reduceEqDiff, Nat.reduceAdd, Nat.reduceSub, Nat.reduceMul, Nat.reduceLT, Nat.reduceLeDiff, Nat.reducePow, Nat.reduceDiv, Nat.reduceMod, Int.reduceLT, Int.reduceLE, Int.reduceGT, Int.reduceGE, Int.reduceToNat, Int.reducePow, Int.reduceNeg, Int.reduceBEq, Int.reduceBNe, Int.reduceEq, Int.reduceAdd, Int.reduceSub, Int.reduceMul, cellv, sc, flatv, refs, refsF, refsC, hF.not0, hF.not1, hF.up0, hF.up1]
      rw [leTail_pos h0]
      simp only [List.length_append, List.length_cons, List.length_nil, Nat.zero_add, List.append_assoc, List.cons_append, List.nil_append] at e1 e2 ⊢
      exact ⟨fr, e1, e2⟩
theorem u8_range (n : Nat) (h : n < 256) : ((n : Int) : Int) ≤ 255 := by omega
theorem put_walk {hp : List Blk} {L : Nat} {H d : List Nat} (hF : Fit hp.length L H) (n : Nat) (hn : n ≤ 2147483647) :
    Lrun env (.func 44) [.int .i64 n] ⟨hp, L, H, d⟩ = some (.tuple #[sl hp.length (enc n).length (some (enc n)), .int .i64 0], ⟨hp ++ slB (enc n).length (some (enc n)), L, H, d⟩) := by
  rw [Lrun_sym 44 _ _ fn44]
  have h1 : ¬ (n : Int) < 0 := by omega
  have h2 : ¬ (n : Int) > 2147483647 := by omega
  have hz : (n : Int).fdiv 128 = ((n / 128 : Nat) : Int) := by rw [fdiv_pos _ (by omega)]; rfl
  have hy : ((n % 128 : Nat) : Int) = (n : Int) % 128 := by omega
  have happ := append_nil1 (hp := hp ++ [.cells 0 true [.int .u8 ((n : Int) % 128)]]) (L := L) (H := H) (d := []) (l := [n % 128]) (by simp) (by simp)
  simp only [u8s_cons, u8s_nil, List.length_cons, List.length_nil, Nat.zero_add, hy, List.append_assoc, List.cons_append, List.nil_append, List.length_append] at happ
  have hn5 : n / 128 < 128 ^ 5 := Nat.lt_of_lt_of_le (show n / 128 < 34359738368 by omega) (by decide)
  obtain ⟨fr, e1, e2⟩ := put_loop hF (.cells 0 true [.int .u8 ((n : Int) % 128)]) 5 (n / 128) hn5 (by omega) [n % 128] (by simp) (by simp)
  simp only [u8s_cons, u8s_nil, List.length_cons, List.length_nil, Nat.zero_add, hy, List.cons_append, List.nil_append] at e1 e2
  have hlen := leTail_len 5 (n / 128) hn5
  have hrev := reverse_walk (hp := hp ++ [.cells 0 true [.int .u8 ((n : Int) % 128)], .cells ((leTail (n / 128)).length + 1) true (u8s ((n % 128) :: leTail (n / 128)))]) (L := L) (H := H) (d := []) (b := hp.length + 1) (g := (leTail (n / 128)).length + 1) (l := (n % 128) :: leTail (n / 128)) (by have := hF.1; omega) (hF.not1 1) (by rw [get_new]; rfl) (by simp; omega)
  simp only [List.length_cons, set_new, List.set_cons_succ, List.set_cons_zero] at hrev
  simp only [u8s_cons, hy] at hrev
  simp (disch := (first | omega | (simp only [lnE] <;> omega) | (refine Fit.mono ‹Fit _ _ _› ?_ <;> (simp only [lnE] <;> omega)) | (refine Fit.draw ‹Fit _ _ _› ?_ ?_ <;> (simp only [lnE] <;> omega)) | (refine Fit.hid1 ‹Fit _ _ _› ?_ ?_ <;> (simp only [lnE] <;> omega)) | (refine Fit.hidc1 ‹Fit _ _ _› ?_ ?_ <;> (simp only [lnE] <;> omega)) | (refine Fit.hidc2 ‹Fit _ _ _› ?_ ?_ ?_ <;> (simp only [lnE] <;> omega)) | (refine Fit.draw1 ‹Fit _ _ _› ?_ ?_ ?_ <;> (simp only [lnE] <;> omega)) | (refine Fit.range0 ?_ ?_ <;> (simp only [lnE] <;> omega)) | fail)) only [syA, syB, argFr, D, E, T, C, undefv, eqF, aeq, sheqs, sheq, rdCells, cellsOf, fill, putAt, if_true, if_false, reduceIte, ↓reduceIte, reduceCtorEq, eq_self, Nat.reduceEqDiff, Nat.reduceAdd, Nat.reduceSub, Nat.reduceMul, Nat.reduceLT, Nat.reduceLeDiff, Nat.reducePow, Nat.reduceDiv, Nat.reduceMod, Int.reduceLT, Int.reduceLE, Int.reduceGT, Int.reduceGE, Int.reduceToNat, Int.reducePow, Int.reduceNeg, Int.reduceBEq, Int.reduceBNe, Int.reduceEq, Int.reduceAdd, Int.reduceSub, Int.reduceMul, cellv, sc, flatv, refs, refsF, refsC, hF.not0, hF.not1, hF.up0, hF.up1, ac44, h1, h2, hz, and127_i64, small, happ, u8s_cons, hy, e1, e2, hrev]
  rw [gc_keep 1 rfl (by simp [refs, refsF, refsC]) (by simp [refs, refsF, refsC])]
  simp (disch := (first | omega | (simp only [lnE] <;> omega) | (refine Fit.mono ‹Fit _ _ _› ?_ <;> (simp only [lnE] <;> omega)) | (refine Fit.draw ‹Fit _ _ _› ?_ ?_ <;> (simp only [lnE] <;> omega)) | (refine Fit.hid1 ‹Fit _ _ _› ?_ ?_ <;> (simp only [lnE] <;> omega)) | (refine Fit.hidc1 ‹Fit _ _ _› ?_ ?_ <;> (simp only [lnE] <;> omega)) | (refine Fit.hidc2 ‹Fit _ _ _› ?_ ?_ ?_ <;> (simp only [lnE] <;> omega)) | (refine Fit.draw1 ‹Fit _ _ _› ?_ ?_ ?_ <;> (simp only [lnE] <;> omega)) | (refine Fit.range0 ?_ ?_ <;> (simp only [lnE] <;> omega)) | fail)) only [syA, syB, argFr, D, E, T, C, undefv, eqF, aeq, sheqs, sheq, rdCells, cellsOf, fill, putAt, if_true, if_false, reduceIte, ↓reduceIte, reduceCtorEq, eq_self, Nat.reduceEqDiff, Nat.reduceAdd, Nat.reduceSub, Nat.reduceMul, Nat.reduceLT, Nat.reduceLeDiff, Nat.reducePow, Nat.reduceDiv, Nat.reduceMod, Int.reduceLT, Int.reduceLE, Int.reduceGT, Int.reduceGE, Int.reduceToNat, Int.reducePow, Int.reduceNeg, Int.reduceBEq, Int.reduceBNe, Int.reduceEq, Int.reduceAdd, Int.reduceSub, Int.reduceMul, cellv, sc, flatv, refs, refsF, refsC, hF.not0, hF.not1, hF.up0, hF.up1, ren, renF, renC, one_new, List.map_cons, List.map_nil, sl_some, slB_some]
  simp only [enc, List.length_reverse, List.length_cons]
theorem put_bad {hp : List Blk} {L : Nat} {H d : List Nat} (n : Int) (hn : n < 0 ∨ n > 2147483647) :
    Lrun env (.func 44) [.int .i64 n] ⟨hp, L, H, d⟩ = some (.tuple #[.slice none 0 0, .int .i64 2], ⟨hp, L, H, d⟩) := by
  rw [Lrun_sym 44 _ _ fn44]
  by_cases h1 : n < 0
  · simp (disch := (first | omega | (simp only [lnE] <;> omega) | (refine Fit.mono ‹Fit _ _ _› ?_ <;> (simp only [lnE] <;> omega)) | (refine Fit.draw ‹Fit _ _ _› ?_ ?_ <;> (simp only [lnE] <;> omega)) | (refine Fit.hid1 ‹Fit _ _ _› ?_ ?_ <;> (simp only [lnE] <;> omega)) | (refine Fit.hidc1 ‹Fit _ _ _› ?_ ?_ <;> (simp only [lnE] <;> omega)) | (refine Fit.hidc2 ‹Fit _ _ _› ?_ ?_ ?_ <;> (simp only [lnE] <;> omega)) | (refine Fit.draw1 ‹Fit _ _ _› ?_ ?_ ?_ <;> (simp only [lnE] <;> omega)) | (refine Fit.range0 ?_ ?_ <;> (simp only [lnE] <;> omega)) | fail)) only [syA, syB, argFr, D, E, T, C, undefv, eqF, aeq, sheqs, sheq, rdCells, cellsOf, fill, putAt, if_true, if_false, reduceIte, ↓reduceIte, reduceCtorEq, eq_self, Nat.reduceEqDiff, Nat.reduceAdd, Nat.reduceSub, Nat.reduceMul, Nat.reduceLT, Nat.reduceLeDiff, Nat.reducePow, Nat.reduceDiv, Nat.reduceMod, Int.reduceLT, Int.reduceLE, Int.reduceGT, Int.reduceGE, Int.reduceToNat, Int.reducePow, Int.reduceNeg, Int.reduceBEq, Int.reduceBNe, Int.reduceEq, Int.reduceAdd, Int.reduceSub, Int.reduceMul, cellv, sc, flatv, refs, refsF, refsC, ac44, h1]
  · have h2 : n > 2147483647 := by omega
    simp (disch := (first | omega | (simp only [lnE] <;> omega) | (refine Fit.mono ‹Fit _ _ _› ?_ <;> (simp only [lnE] <;> omega)) | (refine Fit.draw ‹Fit _ _ _› ?_ ?_ <;> (simp only [lnE] <;> omega)) | (refine Fit.hid1 ‹Fit _ _ _› ?_ ?_ <;> (simp only [lnE] <;> omega)) | (refine Fit.hidc1 ‹Fit _ _ _› ?_ ?_ <;> (simp only [lnE] <;> omega)) | (refine Fit.hidc2 ‹Fit _ _ _› ?_ ?_ ?_ <;> (simp only [lnE] <;> omega)) | (refine Fit.draw1 ‹Fit _ _ _› ?_ ?_ ?_ <;> (simp only [lnE] <;> omega)) | (refine Fit.range0 ?_ ?_ <;> (simp only [lnE] <;> omega)) | fail)) only [syA, syB, argFr, D, E, T, C, undefv, eqF, aeq, sheqs, sheq, rdCells, cellsOf, fill, putAt, if_true, if_false, reduceIte, ↓reduceIte, reduceCtorEq, eq_self, Nat.reduceEqDiff, Nat.reduceAdd, Nat.reduceSub, Nat.reduceMul, Nat.reduceLT, Nat.reduceLeDiff, Nat.reducePow, Nat.reduceDiv, Nat.reduceMod, Int.reduceLT, Int.reduceLE, Int.reduceGT, Int.reduceGE, Int.reduceToNat, Int.reducePow, Int.reduceNeg, Int.reduceBEq, Int.reduceBNe, Int.reduceEq, Int.reduceAdd, Int.reduceSub, Int.reduceMul, cellv, sc, flatv, refs, refsF, refsC, ac44, h1, h2]
end VarA
end Go.Proofs.Ytpjjkmfidghkjaa
