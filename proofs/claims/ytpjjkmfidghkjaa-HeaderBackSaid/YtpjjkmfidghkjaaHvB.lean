/-
  VARINT: walks of its functions on the abstract machine: reading. Conditions: none.
-/
import Derived.Test.YtpjjkmfidghkjaaHvA
set_option linter.all false
namespace Go.Proofs.Ytpjjkmfidghkjaa
namespace VarA
open Go Go.RowKit AM ArEnv

/-- A copy of a slice that is not nil. -/
theorem clone_walk {hp : List Blk} {L : Nat} {H d : List Nat} {a : Addr} {n e : Nat} {l : List Nat} (hF : Fit hp.length L H) (hr : Rd ⟨hp, L, H, []⟩ (.slice (some a) n e) l) (hn : l.length ≤ 1048576) :
    Lrun env (.func 43) [.slice (some a) n e] ⟨hp, L, H, d⟩ = some (sl hp.length l.length (some l), ⟨hp ++ slB l.length (some l), L, H, d⟩) := by
  rw [Lrun_sym 43 _ _ fn43]
  have h1 := (hr.app (nw := [.cells 0 true []]) (L' := L) (d' := [])).news
  simp (disch := (first | omega | (simp only [lnE] <;> omega) | (refine Fit.mono ‹Fit _ _ _› ?_ <;> (simp only [lnE] <;> omega)) | (refine Fit.draw ‹Fit _ _ _› ?_ ?_ <;> (simp only [lnE] <;> omega)) | (refine Fit.hid1 ‹Fit _ _ _› ?_ ?_ <;> (simp only [lnE] <;> omega)) | (refine Fit.hidc1 ‹Fit _ _ _› ?_ ?_ <;> (simp only [lnE] <;> omega)) | (refine Fit.hidc2 ‹Fit _ _ _› ?_ ?_ ?_ <;> (simp only [lnE] <;> omega)) | (refine Fit.draw1 ‹Fit _ _ _› ?_ ?_ ?_ <;> (simp only [lnE] <;> omega)) | (refine Fit.range0 ?_ ?_ <;> (simp only [lnE] <;> omega)) | fail)) only [syA, syB, argFr, D, E, T, C, undefv, eqF, aeq, sheqs, sheq, rdCells, cellsOf, fill, putAt, if_true, if_false, reduceIte, ↓reduceIte, reduceCtorEq, eq_self, Nat.reduceEqDiff, Nat.reduceAdd, Nat.reduceSub, Nat.reduceMul, Nat.reduceLT, Nat.reduceLeDiff, Nat.reducePow, Nat.reduceDiv, Nat.reduceMod, Int.reduceLT, Int.reduceLE, Int.reduceGT, Int.reduceGE, Int.reduceToNat, Int.reducePow, Int.reduceNeg, Int.reduceBEq, Int.reduceBNe, Int.reduceEq, Int.reduceAdd, Int.reduceSub, Int.reduceMul, cellv, sc, flatv, refs, refsF, refsC, hF.not0, hF.not1, hF.up0, hF.up1, ac43, h1, append_lit0 hF hn, small, sl_some, slB_some]
  rw [gc_keep 0 rfl (by simp [refs, refsF, refsC]) (by simp [refs, refsF, refsC])]
  simp only [Nat.add_zero, ren, renF, renC, one_new0]
  simp (disch := (first | omega | (simp only [lnE] <;> omega) | (refine Fit.mono ‹Fit _ _ _› ?_ <;> (simp only [lnE] <;> omega)) | (refine Fit.draw ‹Fit _ _ _› ?_ ?_ <;> (simp only [lnE] <;> omega)) | (refine Fit.hid1 ‹Fit _ _ _› ?_ ?_ <;> (simp only [lnE] <;> omega)) | (refine Fit.hidc1 ‹Fit _ _ _› ?_ ?_ <;> (simp only [lnE] <;> omega)) | (refine Fit.hidc2 ‹Fit _ _ _› ?_ ?_ ?_ <;> (simp only [lnE] <;> omega)) | (refine Fit.draw1 ‹Fit _ _ _› ?_ ?_ ?_ <;> (simp only [lnE] <;> omega)) | (refine Fit.range0 ?_ ?_ <;> (simp only [lnE] <;> omega)) | fail)) only [syA, syB, argFr, D, E, T, C, undefv, eqF, aeq, sheqs, sheq, rdCells, cellsOf, fill, putAt, if_true, if_false, reduceIte, ↓reduceIte, reduceCtorEq, eq_self, Nat.reduceEqDiff, Nat.reduceAdd, Nat.reduceSub, Nat.reduceMul, Nat.reduceLT, Nat.reduceLeDiff, Nat.reducePow, Nat.reduceDiv, Nat.reduceMod, Int.reduceLT, Int.reduceLE, Int.reduceGT, Int.reduceGE, Int.reduceToNat, Int.reducePow, Int.reduceNeg, Int.reduceBEq, Int.reduceBNe, Int.reduceEq, Int.reduceAdd, Int.reduceSub, Int.reduceMul, cellv, sc, flatv, refs, refsF, refsC, hF.not0, hF.not1, hF.up0, hF.up1]
/-- Reading: the number, the rest, the error. -/
def vTake (v m : Int) : List Nat → Int × Option (List Nat) × Int
  | [] => (0, none, 50)
  | c :: l => if (vStep v m c).2.2.2 = 0 then (if (vStep v m c).2.2.1 = true then ((vStep v m c).1, some l, 0) else vTake (vStep v m c).1 (vStep v m c).2.1 l) else (0, none, (vStep v m c).2.2.2)
/-- How a reading loop ends. -/
def TakeOut (hp : List Blk) (L : Nat) (H : List Nat) (R : Option (Ex × Fr × St)) (t : Int × Option (List Nat) × Int) : Prop :=
  (∃ fr nw, R = some (.exit 0, fr, ⟨hp ++ nw, L, H, []⟩) ∧ t = (0, none, 50)) ∨
  (∃ fr nw x, R = some (.ret, fr, ⟨hp ++ nw, L, H, []⟩) ∧ t = (0, none, x) ∧ fr.get 2 = some (.int .i64 0) ∧ fr.get 3 = some (.slice none 0 0) ∧ fr.get 4 = some (.int .i64 x)) ∨
  (∃ fr nw x r k, R = some (.ret, fr, ⟨hp ++ nw, L, H, []⟩) ∧ t = (x, some r, 0) ∧ fr.get 2 = some (.int .i64 x) ∧ fr.get 3 = some (sl (hp.length + k) r.length (some r)) ∧ fr.get 4 = some (.int .i64 0) ∧ nw[k]? = some (.cells r.length true (u8s r)))
end VarA
end Go.Proofs.Ytpjjkmfidghkjaa
