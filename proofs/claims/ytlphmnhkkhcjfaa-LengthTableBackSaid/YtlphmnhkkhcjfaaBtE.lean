/-
  THE BIT WRITER's functions on the abstract machine: New, Pad, Len, Bytes, Get. Conditions: none.
-/
import Derived.Test.YtlphmnhkkhcjfaaBtD
set_option linter.all false
section
namespace Go.Proofs.Ytlphmnhkkhcjfaa
namespace Bt
open Go Go.RowKit AM ArEnv
variable {hp : List Blk} {L : Nat} {H : List Nat} {a k : Nat} {l m : List Nat}

theorem new_walk (hF : Fit hp.length L H) (d : List Nat) :
    Lrun env (.func 20) [] ⟨hp, L, H, d⟩ = some (.pointer (some ⟨hp.length, 0, some 0⟩), ⟨hp ++ [Wr 0 []], L, H, d⟩) := by
  rw [Lrun_sym 20 _ _ fn20]
  simp (disch := (first | omega | (simp only [lnE] <;> omega) | (refine Fit.mono ‹Fit _ _ _› ?_ <;> (simp only [lnE] <;> omega)) | (refine Fit.draw ‹Fit _ _ _› ?_ ?_ <;> (simp only [lnE] <;> omega)) | (refine Fit.hid1 ‹Fit _ _ _› ?_ ?_ <;> (simp only [lnE] <;> omega)) | (refine Fit.hidc1 ‹Fit _ _ _› ?_ ?_ <;> (simp only [lnE] <;> omega)) | (refine Fit.hidc2 ‹Fit _ _ _› ?_ ?_ ?_ <;> (simp only [lnE] <;> omega)) | (refine Fit.draw1 ‹Fit _ _ _› ?_ ?_ ?_ <;> (simp only [lnE] <;> omega)) | (refine Fit.range0 ?_ ?_ <;> (simp only [lnE] <;> omega)) | fail)) only [syA, syB, argFr, D, E, T, C, undefv, eqF, aeq, sheqs, sheq, rdCells, cellsOf, fill, putAt, if_true, if_false, reduceIte, ↓reduceIte, reduceCtorEq, eq_self, Nat.reduceEqDiff, Nat.reduceAdd, Nat.reduceSub, Nat.reduceMul, Nat.reduceLT, Nat.reduceLeDiff, Nat.reducePow, Nat.reduceDiv, Nat.reduceMod, Int.reduceLT, Int.reduceLE, Int.reduceGT, Int.reduceGE, Int.reduceToNat, Int.reducePow, Int.reduceNeg, Int.reduceBEq, Int.reduceBNe, Int.reduceEq, Int.reduceAdd, Int.reduceSub, Int.reduceMul, cellv, sc, flatv, refs, refsF, refsC, hF.not0, hF.not1, hF.up0, hF.up1, ac20]
  exact (congrArg (gcX ⟨hp, L, H, d⟩) (gc_ret (h := hp) (L := L) (H := H) (b := Blk.cells 0 false [Value.slice none 0 0, Value.int IntKind.i64 0]) ⟨rfl, fun _ => rfl⟩)).trans rfl
/-- A writer that can be read. -/
structure Wv (hp : List Blk) (H : List Nat) (a k : Nat) (l : List Nat) : Prop where
  w : hp[a]? = some (Wr k l)
  b : l.length ≠ 0 → hp[k]? = some (Wb l)
  aH : H.contains a = false
  kH : l.length ≠ 0 → H.contains k = false
  bits : Bits l
theorem Ws.v (w : Ws hp L H a k l) : Wv hp H a k l := ⟨w.w, w.b, w.aH, fun _ => w.kH, w.bits⟩
theorem Wv.app (w : Wv hp H a k l) (nw : List Blk) : Wv (hp ++ nw) H a k l :=
  ⟨by rw [List.getElem?_append_left (List.getElem?_eq_some_iff.1 w.w).1, w.w], fun h => by rw [List.getElem?_append_left (List.getElem?_eq_some_iff.1 (w.b h)).1, w.b h], w.aH, w.kH, w.bits⟩
theorem Wv.hide (w : Wv hp H a k l) {lo n : Nat} (h : hp.length ≤ lo) : Wv hp (List.range' lo n ++ H) a k l :=
  ⟨w.w, w.b, by rw [contains_range (.inl (Nat.lt_of_lt_of_le (List.getElem?_eq_some_iff.1 w.w).1 h))]; exact w.aH, fun h0 => by rw [contains_range (.inl (Nat.lt_of_lt_of_le (List.getElem?_eq_some_iff.1 (w.b h0)).1 h))]; exact w.kH h0, w.bits⟩
theorem len_walk (w : Wv hp H a k l) (hF : Fit hp.length L H) (d : List Nat) :
    Lrun env (.func 23) [.pointer (some ⟨a, 0, some 0⟩)] ⟨hp, L, H, d⟩ = some (.int .i64 l.length, ⟨hp, L, H, d⟩) := by
  rw [Lrun_sym 23 _ _ fn23]
  have hw := w.w
  have hH := w.aH
  unfold Wr at hw
  simp (disch := (first | omega | (simp only [lnE] <;> omega) | (refine Fit.mono ‹Fit _ _ _› ?_ <;> (simp only [lnE] <;> omega)) | (refine Fit.draw ‹Fit _ _ _› ?_ ?_ <;> (simp only [lnE] <;> omega)) | (refine Fit.hid1 ‹Fit _ _ _› ?_ ?_ <;> (simp only [lnE] <;> omega)) | (refine Fit.hidc1 ‹Fit _ _ _› ?_ ?_ <;> (simp only [lnE] <;> omega)) | (refine Fit.hidc2 ‹Fit _ _ _› ?_ ?_ ?_ <;> (simp only [lnE] <;> omega)) | (refine Fit.draw1 ‹Fit _ _ _› ?_ ?_ ?_ <;> (simp only [lnE] <;> omega)) | (refine Fit.range0 ?_ ?_ <;> (simp only [lnE] <;> omega)) | fail)) only [syA, syB, argFr, D, E, T, C, undefv, eqF, aeq, sheqs, sheq, rdCells, cellsOf, fill, putAt, if_true, if_false, reduceIte, ↓reduceIte, reduceCtorEq, eq_self, Nat.reduceEqDiff, Nat.reduceAdd, Nat.reduceSub, Nat.reduceMul, Nat.reduceLT, Nat.reduceLeDiff, Nat.reducePow, Nat.reduceDiv, Nat.reduceMod, Int.reduceLT, Int.reduceLE, Int.reduceGT, Int.reduceGE, Int.reduceToNat, Int.reducePow, Int.reduceNeg, Int.reduceBEq, Int.reduceBNe, Int.reduceEq, Int.reduceAdd, Int.reduceSub, Int.reduceMul, cellv, sc, flatv, refs, refsF, refsC, hF.not0, hF.not1, hF.up0, hF.up1, ac23, hw, hH]
theorem aun_neg {n : Int} : aun .neg (.int .i64 n) = some (.int .i64 (IntKind.i64.wrap (-n))) := by simp [aun, Op.unary, Op.intArith, pureOf, pure]
theorem and7_neg (n : Nat) (h : n ≤ 8388607) : andI 64 (-(n : Int)) 7 = ((8 - n % 8) % 8 : Nat) := by
  by_cases h0 : n = 0
  · subst h0; decide
  · have e : BitVec.ofInt 64 (-(n : Int)) = BitVec.ofInt 64 (18446744073709551616 - (n : Int)) := by
      apply BitVec.eq_of_toNat_eq
      simp only [BitVec.toNat_ofInt]
      omega
    have := mask 64 (18446744073709551616 - (n : Int)) 3 (by omega) (by omega) (by omega)
    unfold andI
    rw [e, show (7 : Int) = ((2 ^ 3 - 1 : Nat) : Int) by decide, this]
    omega
/-- As many zeros as fill the last byte. -/
def padN (l : List Nat) : Nat := (8 - l.length % 8) % 8
def padB (l : List Nat) : List Nat := l ++ List.replicate (padN l) 0
theorem padB_length (l : List Nat) : (padB l).length = l.length + padN l := by simp [padB]
theorem padB_bits (h : Bits l) : Bits (padB l) := h.append (Bits.zeros _)
theorem padB_nb (l : List Nat) : nb (padB l) = nb l := by
  unfold nb; rw [padB_length]; unfold padN; omega
theorem g_padB (l : List Nat) (p : Nat) : g (padB l) p = g l p := by
  unfold padB
  rcases Nat.lt_or_ge p l.length with h | h
  · exact g_left h
  · rw [g_out h, show p = l.length + (p - l.length) by omega, g_right]
    rcases Nat.lt_or_ge (p - l.length) (padN l) with h2 | h2
    · rw [g_in (by simpa using h2)]; simp
    · exact g_out (by simpa using h2)
theorem padB_byts (l : List Nat) : byts (padB l) = byts l := by
  unfold byts
  rw [padB_nb]
  unfold bytsN
  refine List.map_congr_left fun i _ => ?_
  unfold byt
  simp only [g_padB]
theorem padB_zero (h : l.length = 0) : padB l = l := by
  have : padN l = 0 := by unfold padN; omega
  unfold padB; rw [this]; simp
theorem wset_padB (w : Ws hp L H a k l) : wset hp a k (padB l) = hp.set a (Wr k (padB l)) := by
  by_cases h0 : l.length = 0
  · rw [padB_zero h0, wset_nil h0, set_same w.w]
  · have h1 : (padB l).length ≠ 0 := by rw [padB_length]; omega
    rw [wset_old h1 (w.klt h0)]
    refine set_same ?_
    rw [List.getElem?_set_ne w.ne, w.b h0]
    unfold Wb
    rw [padB_nb, padB_byts]
theorem shr_bit {x j : Nat} (hj : j < 8) : (x : Int).fdiv (2 ^ ((7 : Int) - (j : Int)).toNat) = (x / 2 ^ (7 - j) : Nat) := by
  rw [show ((7 : Int) - (j : Int)).toNat = 7 - j by omega, fdiv_pos _ (Int.pow_nonneg (by decide))]; push_cast; rfl
theorem andb8 {x : Nat} (h : x < 256) : andI 8 (x : Int) 1 = (x % 2 : Nat) := by
  have := and1_8 x
  rwa [wu8 (by omega) (by omega)] at this
end Bt
end Go.Proofs.Ytlphmnhkkhcjfaa
end
