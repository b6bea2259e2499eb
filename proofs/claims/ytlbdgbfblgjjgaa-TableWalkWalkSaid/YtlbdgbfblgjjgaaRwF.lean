/-
  WALKS WITH RANKS: the examples. Conditions: none.
-/
import Derived.Test.YtlbdgbfblgjjgaaRwE
import Derived.Test.YtlbdgbfblgjjgaaSufTurn
import Derived.Test.YtlbdgbfblgjjgaaArAp
set_option linter.all false
namespace Go.Proofs.Ytlbdgbfblgjjgaa
namespace ArA
open Go Go.RowKit AM ArEnv
def stK (kk : Nat) (x : List Nat) (ix : Nat) : Nat → Nat
  | 0 => 0
  | i + 1 => stK kk x ix i + 1 + atR ix (rowK x ix i) % kk
def anb : List Nat := [97, 110, 97, 110, 97, 98]
theorem ann_facts : ∀ i, i < 6 → rowK ann 4 i ≤ 6 ∧ rowK ann 4 i ≠ 4 ∧ atR 4 (rowK ann 4 i) < 6 ∧ ann.getD (atR 4 (rowK ann 4 i)) 0 = anb.getD i 0 ∧ stK 2 ann 4 i ≤ 100 ∧ anb.take (i + 1) = anb.take i ++ [anb.getD i 0] ∧ (anb.take i).length = i ∧ anb.getD i 0 < 256 := by decide
theorem getD_at {l : List Nat} {i : Nat} (h : i < l.length) : l[i] = l.getD i 0 := by rw [List.getD_eq_getElem?_getD, List.getElem?_eq_getElem h, Option.getD_some]
section
variable {L : Nat} {H d : List Nat} {r q w w2 : Nat} {A : Arn}
end
theorem WkOk.mono {n m r q w : Nat} {L : Nat} {H : List Nat} {A : Arn} {s t z kk ix : Nat} {x : List Nat} (k : WkOk n r q w L H A s t z kk ix x) (h : n ≤ m) : WkOk m r q w L H A s t z kk ix x :=
  ⟨k.ok.mono h, k.holds, k.valid, k.kk1, k.ixm, k.rank, k.wr, k.wq, Nat.lt_of_lt_of_le k.wn h, k.wL, k.hid, k.small, k.by_⟩
section
variable {hp : List Blk} {L : Nat} {H d : List Nat}
theorem rnext_nil (hF : Fit hp.length L H) : Lrun env (.func 37) [.pointer none] ⟨hp, L, H, d⟩ = some (.tuple #[.int .u8 0, .bool false], ⟨hp, L, H, d⟩) := by
  rw [Lrun_sym 37 _ _ fn37]
  simp (disch := (first | omega | (simp only [lnE] <;> omega) | (refine Fit.mono ‹Fit _ _ _› ?_ <;> (simp only [lnE] <;> omega)) | (refine Fit.draw ‹Fit _ _ _› ?_ ?_ <;> (simp only [lnE] <;> omega)) | (refine Fit.hid1 ‹Fit _ _ _› ?_ ?_ <;> (simp only [lnE] <;> omega)) | (refine Fit.draw1 ‹Fit _ _ _› ?_ ?_ ?_ <;> (simp only [lnE] <;> omega)) | (refine Fit.range0 ?_ ?_ <;> (simp only [lnE] <;> omega)) | fail)) only [syA, syB, argFr, D, E, T, C, undefv, eqF, aeq, sheqs, sheq, rdCells, cellsOf, fill, putAt, if_true, if_false, reduceIte, ↓reduceIte, reduceCtorEq, eq_self, Nat.reduceEqDiff, Nat.reduceAdd, Nat.reduceSub, Nat.reduceMul, Nat.reduceLT, Nat.reduceLeDiff, Nat.reducePow, Nat.reduceDiv, Nat.reduceMod, Int.reduceLT, Int.reduceLE, Int.reduceGT, Int.reduceGE, Int.reduceToNat, Int.reducePow, Int.reduceNeg, Int.reduceBEq, Int.reduceBNe, Int.reduceEq, Int.reduceAdd, Int.reduceSub, Int.reduceMul, cellv, sc, flatv, refs, refsF, refsC, hF.not0, hF.not1, hF.up0, hF.up1, ac37]
theorem rwvalid_nil (hF : Fit hp.length L H) : Lrun env (.func 35) [.pointer none] ⟨hp, L, H, d⟩ = some (.bool false, ⟨hp, L, H, d⟩) := by
  rw [Lrun_sym 35 _ _ fn35]
  simp (disch := (first | omega | (simp only [lnE] <;> omega) | (refine Fit.mono ‹Fit _ _ _› ?_ <;> (simp only [lnE] <;> omega)) | (refine Fit.draw ‹Fit _ _ _› ?_ ?_ <;> (simp only [lnE] <;> omega)) | (refine Fit.hid1 ‹Fit _ _ _› ?_ ?_ <;> (simp only [lnE] <;> omega)) | (refine Fit.draw1 ‹Fit _ _ _› ?_ ?_ ?_ <;> (simp only [lnE] <;> omega)) | (refine Fit.range0 ?_ ?_ <;> (simp only [lnE] <;> omega)) | fail)) only [syA, syB, argFr, D, E, T, C, undefv, eqF, aeq, sheqs, sheq, rdCells, cellsOf, fill, putAt, if_true, if_false, reduceIte, ↓reduceIte, reduceCtorEq, eq_self, Nat.reduceEqDiff, Nat.reduceAdd, Nat.reduceSub, Nat.reduceMul, Nat.reduceLT, Nat.reduceLeDiff, Nat.reducePow, Nat.reduceDiv, Nat.reduceMod, Int.reduceLT, Int.reduceLE, Int.reduceGT, Int.reduceGE, Int.reduceToNat, Int.reducePow, Int.reduceNeg, Int.reduceBEq, Int.reduceBNe, Int.reduceEq, Int.reduceAdd, Int.reduceSub, Int.reduceMul, cellv, sc, flatv, refs, refsF, refsC, hF.not0, hF.not1, hF.up0, hF.up1, ac35]
theorem rsteps_nil (hF : Fit hp.length L H) : Lrun env (.func 36) [.pointer none] ⟨hp, L, H, d⟩ = some (.int .i64 0, ⟨hp, L, H, d⟩) := by
  rw [Lrun_sym 36 _ _ fn36]
  simp (disch := (first | omega | (simp only [lnE] <;> omega) | (refine Fit.mono ‹Fit _ _ _› ?_ <;> (simp only [lnE] <;> omega)) | (refine Fit.draw ‹Fit _ _ _› ?_ ?_ <;> (simp only [lnE] <;> omega)) | (refine Fit.hid1 ‹Fit _ _ _› ?_ ?_ <;> (simp only [lnE] <;> omega)) | (refine Fit.draw1 ‹Fit _ _ _› ?_ ?_ ?_ <;> (simp only [lnE] <;> omega)) | (refine Fit.range0 ?_ ?_ <;> (simp only [lnE] <;> omega)) | fail)) only [syA, syB, argFr, D, E, T, C, undefv, eqF, aeq, sheqs, sheq, rdCells, cellsOf, fill, putAt, if_true, if_false, reduceIte, ↓reduceIte, reduceCtorEq, eq_self, Nat.reduceEqDiff, Nat.reduceAdd, Nat.reduceSub, Nat.reduceMul, Nat.reduceLT, Nat.reduceLeDiff, Nat.reducePow, Nat.reduceDiv, Nat.reduceMod, Int.reduceLT, Int.reduceLE, Int.reduceGT, Int.reduceGE, Int.reduceToNat, Int.reducePow, Int.reduceNeg, Int.reduceBEq, Int.reduceBNe, Int.reduceEq, Int.reduceAdd, Int.reduceSub, Int.reduceMul, cellv, sc, flatv, refs, refsF, refsC, hF.not0, hF.not1, hF.up0, hF.up1, ac36]
end
end ArA
end Go.Proofs.Ytlbdgbfblgjjgaa
