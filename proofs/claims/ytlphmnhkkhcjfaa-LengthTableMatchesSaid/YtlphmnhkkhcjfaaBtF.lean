/-
  THE BIT WRITER's functions on the abstract machine: Bytes, Get, Of. Conditions: none.
-/
import Derived.Test.YtlphmnhkkhcjfaaBtE
set_option linter.all false
section
namespace Go.Proofs.Ytlphmnhkkhcjfaa
namespace Bt
open Go Go.RowKit AM ArEnv
variable {hp : List Blk} {L : Nat} {H : List Nat} {a k : Nat} {l m : List Nat}

/-- The writer's bytes, or nil. -/
def ob (l : List Nat) : Option (List Nat) := if l.length = 0 then none else some (byts l)
theorem nb_small (h : l.length ≤ 8387000) : nb l ≤ 1048576 := by unfold nb; omega
theorem nb_pos (h : l.length ≠ 0) : nb l ≠ 0 := by unfold nb; omega
theorem clone_nil (hF : Fit hp.length L H) (d : List Nat) :
    Lrun env (.func 59) [.slice none 0 0] ⟨hp, L, H, d⟩ = some (.slice none 0 0, ⟨hp, L, H, d⟩) := by
  rw [Lrun_sym 59 _ _ fn59]
  simp (disch := (first | omega | (simp only [lnE] <;> omega) | (refine Fit.mono ‹Fit _ _ _› ?_ <;> (simp only [lnE] <;> omega)) | (refine Fit.draw ‹Fit _ _ _› ?_ ?_ <;> (simp only [lnE] <;> omega)) | (refine Fit.hid1 ‹Fit _ _ _› ?_ ?_ <;> (simp only [lnE] <;> omega)) | (refine Fit.hidc1 ‹Fit _ _ _› ?_ ?_ <;> (simp only [lnE] <;> omega)) | (refine Fit.hidc2 ‹Fit _ _ _› ?_ ?_ ?_ <;> (simp only [lnE] <;> omega)) | (refine Fit.draw1 ‹Fit _ _ _› ?_ ?_ ?_ <;> (simp only [lnE] <;> omega)) | (refine Fit.range0 ?_ ?_ <;> (simp only [lnE] <;> omega)) | fail)) only [syA, syB, argFr, D, E, T, C, undefv, eqF, aeq, sheqs, sheq, rdCells, cellsOf, fill, putAt, if_true, if_false, reduceIte, ↓reduceIte, reduceCtorEq, eq_self, Nat.reduceEqDiff, Nat.reduceAdd, Nat.reduceSub, Nat.reduceMul, Nat.reduceLT, Nat.reduceLeDiff, Nat.reducePow, Nat.reduceDiv, Nat.reduceMod, Int.reduceLT, Int.reduceLE, Int.reduceGT, Int.reduceGE, Int.reduceToNat, Int.reducePow, Int.reduceNeg, Int.reduceBEq, Int.reduceBNe, Int.reduceEq, Int.reduceAdd, Int.reduceSub, Int.reduceMul, cellv, sc, flatv, refs, refsF, refsC, hF.not0, hF.not1, hF.up0, hF.up1, ac59]
theorem gcY_slice (g : Nat) (cs : List Value) (s : Option Nat) (n e : Nat) : gcY hp [.cells g true cs] (.slice (some ⟨hp.length, 0, s⟩) n e) L H false = some ([.slice (some ⟨hp.length, 0, s⟩) n e], ⟨hp ++ [.cells g true cs], L, H, []⟩) := by
  rw [gc_keep 0 (g := g) (cs := cs) rfl (by simp [refs, refsF, refsC]) (by simp [refs, refsF, refsC])]
  simp only [ren, renF, renC, Nat.add_zero, one_new0]
theorem clone_walk {bs : List Nat} {e g : Nat} (hk : hp[k]? = some (.cells g true (u8s bs))) (hH : H.contains k = false) (h0 : bs.length ≠ 0) (hs : bs.length ≤ 1048576) (hF : Fit hp.length L H) (d : List Nat) :
    Lrun env (.func 59) [.slice (some ⟨k, 0, some g⟩) bs.length e] ⟨hp, L, H, d⟩ = some (sl hp.length bs.length (some bs), ⟨hp ++ slB bs.length (some bs), L, H, d⟩) := by
  rw [Lrun_sym 59 _ _ fn59]
  have hkl := (List.getElem?_eq_some_iff.1 hk).1
  have sm0 : small 0 = true := rfl
  have happ := append_end (hp := hp ++ [.cells 0 true []]) (L := L) (b := hp.length) (g := 0) (H := H) (d := []) (l0 := []) (l := bs) (get_new0 _) hF.1 hF.not0 (by simpa using hs)
  have hbs : bs ≠ [] := fun h => h0 (by rw [h]; rfl)
  simp only [List.length_nil, List.nil_append, if_neg hbs, set_new0] at happ
  have hle : bs.length ≤ (u8s bs).length := by simp [u8s]
  simp (disch := (first | omega | (simp only [lnE] <;> omega) | (refine Fit.mono ‹Fit _ _ _› ?_ <;> (simp only [lnE] <;> omega)) | (refine Fit.draw ‹Fit _ _ _› ?_ ?_ <;> (simp only [lnE] <;> omega)) | (refine Fit.hid1 ‹Fit _ _ _› ?_ ?_ <;> (simp only [lnE] <;> omega)) | (refine Fit.hidc1 ‹Fit _ _ _› ?_ ?_ <;> (simp only [lnE] <;> omega)) | (refine Fit.hidc2 ‹Fit _ _ _› ?_ ?_ ?_ <;> (simp only [lnE] <;> omega)) | (refine Fit.draw1 ‹Fit _ _ _› ?_ ?_ ?_ <;> (simp only [lnE] <;> omega)) | (refine Fit.range0 ?_ ?_ <;> (simp only [lnE] <;> omega)) | fail)) only [syA, syB, argFr, D, E, T, C, undefv, eqF, aeq, sheqs, sheq, rdCells, cellsOf, fill, putAt, if_true, if_false, reduceIte, ↓reduceIte, reduceCtorEq, eq_self, Nat.reduceEqDiff, Nat.reduceAdd, Nat.reduceSub, Nat.reduceMul, Nat.reduceLT, Nat.reduceLeDiff, Nat.reducePow, Nat.reduceDiv, Nat.reduceMod, Int.reduceLT, Int.reduceLE, Int.reduceGT, Int.reduceGE, Int.reduceToNat, Int.reducePow, Int.reduceNeg, Int.reduceBEq, Int.reduceBNe, Int.reduceEq, Int.reduceAdd, Int.reduceSub, Int.reduceMul, cellv, sc, flatv, refs, refsF, refsC, hF.not0, hF.not1, hF.up0, hF.up1, ac59, hk, hH, sm0, happ, Int.natCast_zero, Nat.mul_one, hle]
  rw [gcY_slice]
  rfl
theorem bytes_walk (w : Wv hp H a k l) (hs : l.length ≤ 8387000) (hF : Fit hp.length L H) (d : List Nat) :
    Lrun env (.func 24) [.pointer (some ⟨a, 0, some 0⟩)] ⟨hp, L, H, d⟩ = some (sl hp.length (nb l) (ob l), ⟨hp ++ slB (nb l) (ob l), L, H, d⟩) := by
  rw [Lrun_sym 24 _ _ fn24]
  have hw := w.w
  have hH := w.aH
  unfold ob
  by_cases h0 : l.length = 0
  · have hn : l = [] := List.eq_nil_of_length_eq_zero h0
    subst hn
    rw [Wr_nil] at hw
    have hc := fun hp L H d hF => clone_nil (hp := hp) (L := L) (H := H) hF d
    rw [if_pos h0, sl_none, slB_none]
    simp (disch := (first | omega | (simp only [lnE] <;> omega) | (refine Fit.mono ‹Fit _ _ _› ?_ <;> (simp only [lnE] <;> omega)) | (refine Fit.draw ‹Fit _ _ _› ?_ ?_ <;> (simp only [lnE] <;> omega)) | (refine Fit.hid1 ‹Fit _ _ _› ?_ ?_ <;> (simp only [lnE] <;> omega)) | (refine Fit.hidc1 ‹Fit _ _ _› ?_ ?_ <;> (simp only [lnE] <;> omega)) | (refine Fit.hidc2 ‹Fit _ _ _› ?_ ?_ ?_ <;> (simp only [lnE] <;> omega)) | (refine Fit.draw1 ‹Fit _ _ _› ?_ ?_ ?_ <;> (simp only [lnE] <;> omega)) | (refine Fit.range0 ?_ ?_ <;> (simp only [lnE] <;> omega)) | fail)) only [syA, syB, argFr, D, E, T, C, undefv, eqF, aeq, sheqs, sheq, rdCells, cellsOf, fill, putAt, if_true, if_false, reduceIte, ↓reduceIte, reduceCtorEq, eq_self, Nat.reduceEqDiff, Nat.reduceAdd, Nat.reduceSub, Nat.reduceMul, Nat.reduceLT, Nat.reduceLeDiff, Nat.reducePow, Nat.reduceDiv, Nat.reduceMod, Int.reduceLT, Int.reduceLE, Int.reduceGT, Int.reduceGE, Int.reduceToNat, Int.reducePow, Int.reduceNeg, Int.reduceBEq, Int.reduceBNe, Int.reduceEq, Int.reduceAdd, Int.reduceSub, Int.reduceMul, cellv, sc, flatv, refs, refsF, refsC, hF.not0, hF.not1, hF.up0, hF.up1, ac24, hw, hH, hc]
  · rw [Wr_some h0] at hw
    have hb := w.b h0
    have hlen := byts_length l
    have hc := clone_walk (bs := byts l) (e := 1) (g := nb l) hb (w.kH h0) (by rw [hlen]; exact nb_pos h0) (by rw [hlen]; exact nb_small hs) hF []
    rw [hlen] at hc
    rw [if_neg h0]
    simp (disch := (first | omega | (simp only [lnE] <;> omega) | (refine Fit.mono ‹Fit _ _ _› ?_ <;> (simp only [lnE] <;> omega)) | (refine Fit.draw ‹Fit _ _ _› ?_ ?_ <;> (simp only [lnE] <;> omega)) | (refine Fit.hid1 ‹Fit _ _ _› ?_ ?_ <;> (simp only [lnE] <;> omega)) | (refine Fit.hidc1 ‹Fit _ _ _› ?_ ?_ <;> (simp only [lnE] <;> omega)) | (refine Fit.hidc2 ‹Fit _ _ _› ?_ ?_ ?_ <;> (simp only [lnE] <;> omega)) | (refine Fit.draw1 ‹Fit _ _ _› ?_ ?_ ?_ <;> (simp only [lnE] <;> omega)) | (refine Fit.range0 ?_ ?_ <;> (simp only [lnE] <;> omega)) | fail)) only [syA, syB, argFr, D, E, T, C, undefv, eqF, aeq, sheqs, sheq, rdCells, cellsOf, fill, putAt, if_true, if_false, reduceIte, ↓reduceIte, reduceCtorEq, eq_self, Nat.reduceEqDiff, Nat.reduceAdd, Nat.reduceSub, Nat.reduceMul, Nat.reduceLT, Nat.reduceLeDiff, Nat.reducePow, Nat.reduceDiv, Nat.reduceMod, Int.reduceLT, Int.reduceLE, Int.reduceGT, Int.reduceGE, Int.reduceToNat, Int.reducePow, Int.reduceNeg, Int.reduceBEq, Int.reduceBNe, Int.reduceEq, Int.reduceAdd, Int.reduceSub, Int.reduceMul, cellv, sc, flatv, refs, refsF, refsC, hF.not0, hF.not1, hF.up0, hF.up1, ac24, hw, hH, hc, sl_some, slB_some]
    rw [gcY_slice]
    rfl
/-- Get: what it takes. -/
def getOk (n : Nat) (p w : Int) : Bool := decide (0 ≤ p ∧ 0 ≤ w ∧ w ≤ 32 ∧ p + w ≤ 8 * n)
/-! ### Slices of numbers -/
def is (l : List Nat) : List Value := l.map fun n : Nat => .int .i64 (n : Int)
theorem is_length (l : List Nat) : (is l).length = l.length := by simp [is]
theorem is_sc (l : List Nat) : (is l).all sc = true := by simp [is, AM.sc]
theorem is_cellv (l : List Nat) : (is l).all cellv = true := by simp [is, cellv, AM.sc]
def slI (k : Nat) (l : List Nat) : Value := if l.length = 0 then .slice none 0 0 else .slice (some ⟨k, 0, some l.length⟩) l.length 1
def slIB (l : List Nat) : List Blk := if l.length = 0 then [] else [.cells l.length true (is l)]
theorem append_is0 {L : Nat} {H d : List Nat} {m : List Nat} (h0 : m.length ≠ 0) (hs : m.length ≤ 1048576) : St.append ⟨hp, L, H, d⟩ true 1 (.slice none 0 0) m.length (is m) = some (.slice (some ⟨hp.length, 0, some m.length⟩) m.length 1, ⟨hp ++ [.cells m.length true (is m)], L, H, d⟩) := by
  have hsm : small m.length = true := by simp [small, hs]
  simp [St.append, h0, hsm, is_sc, is_cellv]
end Bt
end Go.Proofs.Ytlphmnhkkhcjfaa
end
