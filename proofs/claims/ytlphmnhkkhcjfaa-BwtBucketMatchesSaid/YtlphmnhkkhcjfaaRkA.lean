/-
  RANKS: walks of the functions on the abstract machine, first part. Conditions: none.
-/
import Derived.Test.YtlphmnhkkhcjfaaArGc
set_option linter.all false
namespace Go.Proofs.Ytlphmnhkkhcjfaa
namespace ArA
open Go Go.RowKit AM ArEnv

def rSize (m k : Int) : Int := if 0 ≤ m ∧ m ≤ 65536 ∧ 1 ≤ k ∧ k ≤ 65536 then (m.tdiv k) * 1024 else 0
def rApart (s m t z : Int) : Bool := decide (m = 0 ∨ z = 0 ∨ s + m ≤ t ∨ t + z ≤ s)
def rValid (A : Arn) (s m t z k : Int) : Bool := A.has s m && A.has t z && decide (1 ≤ m ∧ m ≤ 65536) && decide (1 ≤ k ∧ k ≤ 65536) && rApart s m t z && decide (rSize m k ≤ z)
section
variable {hp : List Blk} {L : Nat} {H d : List Nat} {r q : Nat} {A : Arn}
theorem has_nil (hF : Fit hp.length L H) (s n : Int) : Lrun env (.func 67) [.pointer none, .agg #[.int .i64 s, .int .i64 n]] ⟨hp, L, H, d⟩ = some (.bool false, ⟨hp, L, H, d⟩) := by
  rw [Lrun_sym 67 _ _ fn67]
  simp (disch := (first | omega | (simp only [lnE] <;> omega) | (refine Fit.mono ‹Fit _ _ _› ?_ <;> (simp only [lnE] <;> omega)) | (refine Fit.draw ‹Fit _ _ _› ?_ ?_ <;> (simp only [lnE] <;> omega)) | (refine Fit.hid1 ‹Fit _ _ _› ?_ ?_ <;> (simp only [lnE] <;> omega)) | (refine Fit.draw1 ‹Fit _ _ _› ?_ ?_ ?_ <;> (simp only [lnE] <;> omega)) | (refine Fit.range0 ?_ ?_ <;> (simp only [lnE] <;> omega)) | fail)) only [syA, syB, argFr, D, E, T, C, undefv, eqF, aeq, sheqs, sheq, rdCells, cellsOf, fill, putAt, if_true, if_false, reduceIte, ↓reduceIte, reduceCtorEq, eq_self, Nat.reduceEqDiff, Nat.reduceAdd, Nat.reduceSub, Nat.reduceMul, Nat.reduceLT, Nat.reduceLeDiff, Nat.reducePow, Nat.reduceDiv, Nat.reduceMod, Int.reduceLT, Int.reduceLE, Int.reduceGT, Int.reduceGE, Int.reduceToNat, Int.reducePow, Int.reduceNeg, Int.reduceBEq, Int.reduceBNe, Int.reduceEq, Int.reduceAdd, Int.reduceSub, Int.reduceMul, cellv, sc, flatv, refs, refsF, refsC, hF.not0, hF.not1, hF.up0, hF.up1, ac67]
end
end ArA
end Go.Proofs.Ytlphmnhkkhcjfaa
