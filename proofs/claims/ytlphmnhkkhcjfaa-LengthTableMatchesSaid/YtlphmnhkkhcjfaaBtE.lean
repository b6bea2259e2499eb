/-
  THE BIT WRITER's functions on the abstract machine: New, Pad, Len, Bytes, Get. Conditions: none.
-/
import Derived.Test.YtlphmnhkkhcjfaaBtD
set_option linter.all false
section
namespace Go.Proofs.Ytlphmnhkkhcjfaa
namespace Bt
open Go Go.RowKit AM ArEnv
variable {hp : List Blk} {L : Nat} {H : List Nat} {a k : Nat} {l m : List Nat}

theorem new_walk (hF : Fit hp.length L H) (d : List Nat) :
    Lrun env (.func 20) [] ⟨hp, L, H, d⟩ = some (.pointer (some ⟨hp.length, 0, some 0⟩), ⟨hp ++ [Wr 0 []], L, H, d⟩) := by
  rw [Lrun_sym 20 _ _ fn20]
  simp (disch := (first | omega | (simp only [lnE] <;> omega) | (refine Fit.mono ‹Fit _ _ _› ?_ <;> (simp only [lnE] <;> omega)) | (refine Fit.draw ‹Fit _ _ _› ?_ ?_ <;> (simp only [lnE] <;> omega)) | (refine Fit.hid1 ‹Fit _ _ _› ?_ ?_ <;> (simp only [lnE] <;> omega)) | (refine Fit.hidc1 ‹Fit _ _ _› ?_ ?_ <;> (simp only [lnE] <;> omega)) | (refine Fit.hidc2 ‹Fit _ _ _› ?_ ?_ ?_ <;> (simp only [lnE] <;> omega)) | (refine Fit.draw1 ‹Fit _ _ _› ?_ ?_ ?_ <;> (simp only [lnE] <;> omega)) | (refine Fit.range0 ?_ ?_ <;> (simp only [lnE] <;> omega)) | fail)) only [syA, syB, argFr, D, E, T, C, undefv, eqF, aeq, sheqs, sheq, rdCells, cellsOf, fill, putAt, if_true, if_false, reduceIte, ↓reduceIte, reduceCtorEq, eq_self, Nat.reduceEqDiff, Nat.reduceAdd, Nat.reduceSub, Nat.reduceMul, Nat.reduceLT, Nat.reduceLeDiff, Nat.reducePow, Nat.reduceDiv, Nat.reduceMod, Int.reduceLT, Int.reduceLE, Int.reduceGT, Int.reduceGE, Int.reduceToNat, Int.reducePow, Int.reduceNeg, Int.reduceBEq, Int.reduceBNe, Int.reduceEq, Int.reduceAdd, Int.reduceSub, Int.reduceMul, cellv, sc, flatv, refs, refsF, refsC, hF.not0, hF.not1, hF.up0, hF.up1, ac20]
  exact (congrArg (gcX ⟨hp, L, H, d⟩) (gc_ret (h := hp) (L := L) (H := H) (b := Blk.cells 0 false [Value.slice none 0 0, Value.int IntKind.i64 0]) ⟨rfl, fun _ => rfl⟩)).trans rfl
/-- A writer that can be read. -/
structure Wv (hp : List Blk) (H : List Nat) (a k : Nat) (l : List Nat) : Prop where
  w : hp[a]? = some (Wr k l)
  b : l.length ≠ 0 → hp[k]? = some (Wb l)
  aH : H.contains a = false
  kH : l.length ≠ 0 → H.contains k = false
  bits : Bits l
theorem Ws.v (w : Ws hp L H a k l) : Wv hp H a k l := ⟨w.w, w.b, w.aH, fun _ => w.kH, w.bits⟩
theorem Wv.app (w : Wv hp H a k l) (nw : List Blk) : Wv (hp ++ nw) H a k l :=
  ⟨by rw [List.getElem?_append_left (List.getElem?_eq_some_iff.1 w.w).1, w.w], fun h => by rw [List.getElem?_append_left (List.getElem?_eq_some_iff.1 (w.b h)).1, w.b h], w.aH, w.kH, w.bits⟩
theorem len_walk (w : Wv hp H a k l) (hF : Fit hp.length L H) (d : List Nat) :
    Lrun env (.func 23) [.pointer (some ⟨a, 0, some 0⟩)] ⟨hp, L, H, d⟩ = some (.int .i64 l.length, ⟨hp, L, H, d⟩) := by
  rw [Lrun_sym 23 _ _ fn23]
  have hw := w.w
  have hH := w.aH
  unfold Wr at hw
  simp (disch := (first | omega | (simp only [lnE] <;> omega) | (refine Fit.mono ‹Fit _ _ _› ?_ <;> (simp only [lnE] <;> omega)) | (refine Fit.draw ‹Fit _ _ _› ?_ ?_ <;> (simp only [lnE] <;> omega)) | (refine Fit.hid1 ‹Fit _ _ _› ?_ ?_ <;> (simp only [lnE] <;> omega)) | (refine Fit.hidc1 ‹Fit _ _ _› ?_ ?_ <;> (simp only [lnE] <;> omega)) | (refine Fit.hidc2 ‹Fit _ _ _› ?_ ?_ ?_ <;> (simp only [lnE] <;> omega)) | (refine Fit.draw1 ‹Fit _ _ _› ?_ ?_ ?_ <;> (simp only [lnE] <;> omega)) | (refine Fit.range0 ?_ ?_ <;> (simp only [lnE] <;> omega)) | fail)) only [syA, syB, argFr, D, E, T, C, undefv, eqF, aeq, sheqs, sheq, rdCells, cellsOf, fill, putAt, if_true, if_false, reduceIte, ↓reduceIte, reduceCtorEq, eq_self, Nat.reduceEqDiff, Nat.reduceAdd, Nat.reduceSub, Nat.reduceMul, Nat.reduceLT, Nat.reduceLeDiff, Nat.reducePow, Nat.reduceDiv, Nat.reduceMod, Int.reduceLT, Int.reduceLE, Int.reduceGT, Int.reduceGE, Int.reduceToNat, Int.reducePow, Int.reduceNeg, Int.reduceBEq, Int.reduceBNe, Int.reduceEq, Int.reduceAdd, Int.reduceSub, Int.reduceMul, cellv, sc, flatv, refs, refsF, refsC, hF.not0, hF.not1, hF.up0, hF.up1, ac23, hw, hH]
/-- As many zeros as fill the last byte. -/
def padN (l : List Nat) : Nat := (8 - l.length % 8) % 8
def padB (l : List Nat) : List Nat := l ++ List.replicate (padN l) 0
end Bt
end Go.Proofs.Ytlphmnhkkhcjfaa
end
