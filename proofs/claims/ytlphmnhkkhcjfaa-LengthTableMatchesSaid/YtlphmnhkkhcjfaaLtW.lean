/-
  LENGTH TABLES: the examples. Conditions: none.
-/
import Derived.Test.YtlphmnhkkhcjfaaLtS
set_option linter.all false
section
namespace Go.Proofs.Ytlphmnhkkhcjfaa
namespace LtA
open Go Go.RowKit AM ArEnv Bt
variable {hp : List Blk} {L : Nat} {H d : List Nat}

def th : List Nat := 1 :: 2 :: (List.replicate 255 0 ++ [2])
theorem th_length : th.length = 258 := by decide +kernel
theorem th_table : kTable th = true := by decide +kernel
theorem zs_table : kTable zs = false := by decide +kernel
theorem th_by : By th := fun x hx => by
  have := table_le th_table x hx
  omega
theorem zs_by : By zs := fun x hx => by rw [List.eq_of_mem_replicate hx]; decide
theorem th_set : (((u8s zs).set 0 (.int .u8 1)).set 1 (.int .u8 2)).set 257 (.int .u8 2) = u8s th := by
  rw [set_u8s (by decide), set_u8s (by decide), set_u8s (by decide)]
  have e : ((zs.set 0 (1 : Int).toNat).set 1 (2 : Int).toNat).set 257 (2 : Int).toNat = th := by decide +kernel
  rw [e]
theorem three_walk (hF : Fit hp.length L H) : Lrun env (.func 46) [] ⟨hp, L, H, d⟩ = some (.agg (u8s th).toArray, ⟨hp, L, H, d⟩) := by
  rw [Lrun_sym 46 _ _ fn46]
  have hz := zs_length
  have hth := th_length
  have hp0 : putAt (u8s zs) 0 (u8s th) = u8s th := putAt_full (by rw [u8s_length, u8s_length, hz, hth])
  have htk : (u8s th).take 258 = u8s th := take258 hth
  have e258 : (258 ≤ th.length) = True := le258 hth
  have l1 : ((u8s zs).set 0 (.int .u8 1)).length = 258 := by rw [List.length_set, u8s_length, hz]
  have l2 : (((u8s zs).set 0 (.int .u8 1)).set 1 (.int .u8 2)).length = 258 := by rw [List.length_set, l1]
  have hset := th_set
  simp (disch := (first | omega | (simp only [lnE] <;> omega) | (refine Fit.mono ‹Fit _ _ _› ?_ <;> (simp only [lnE] <;> omega)) | (refine Fit.draw ‹Fit _ _ _› ?_ ?_ <;> (simp only [lnE] <;> omega)) | (refine Fit.hid1 ‹Fit _ _ _› ?_ ?_ <;> (simp only [lnE] <;> omega)) | (refine Fit.hidc1 ‹Fit _ _ _› ?_ ?_ <;> (simp only [lnE] <;> omega)) | (refine Fit.hidc2 ‹Fit _ _ _› ?_ ?_ ?_ <;> (simp only [lnE] <;> omega)) | (refine Fit.draw1 ‹Fit _ _ _› ?_ ?_ ?_ <;> (simp only [lnE] <;> omega)) | (refine Fit.range0 ?_ ?_ <;> (simp only [lnE] <;> omega)) | fail)) only [syA, syB, argFr, D, E, T, C, undefv, eqF, aeq, sheqs, sheq, rdCells, cellsOf, fill, putAt, if_true, if_false, reduceIte, ↓reduceIte, reduceCtorEq, eq_self, Nat.reduceEqDiff, Nat.reduceAdd, Nat.reduceSub, Nat.reduceMul, Nat.reduceLT, Nat.reduceLeDiff, Nat.reducePow, Nat.reduceDiv, Nat.reduceMod, Int.reduceLT, Int.reduceLE, Int.reduceGT, Int.reduceGE, Int.reduceToNat, Int.reducePow, Int.reduceNeg, Int.reduceBEq, Int.reduceBNe, Int.reduceEq, Int.reduceAdd, Int.reduceSub, Int.reduceMul, cellv, sc, flatv, refs, refsF, refsC, hF.not0, hF.not1, hF.up0, hF.up1, ac46, zs_eq, hz, hth, u8s_cellv, u8s_scs, u8s_refs, l1, l2, hset, hp0, htk, e258]
theorem ints_step {a b : List Int} {v w : Value} (R : RdI hp H v a) (Q : RdI hp H w b) (hl : a.length = b.length) (ha : a.length ≤ 1000000) (hF : Fit hp.length L H) {i : Nat} (hi : i < a.length) (he : a[i] = b[i]) :
    Liter env lb18_0 [1, 0, 5] hp.length [(1, w), (0, v), (5, .int .i64 i)] ⟨hp, L, H, []⟩ = Liter env lb18_0 [1, 0, 5] hp.length [(1, w), (0, v), (5, .int .i64 (i + 1 : Nat))] ⟨hp, L, H, []⟩ := by
  obtain ⟨p, e, rfl⟩ := R.len
  obtain ⟨p2, e2, rfl⟩ := Q.len
  obtain ⟨b1, o1, g1, pl1, cs1, rfl, h1, h2, h3⟩ := R.at_ hi
  obtain ⟨b2, o2, g2, pl2, cs2, rfl, k1, k2, k3⟩ := Q.at_ (i := i) (by omega)
  have i0 : (0 : Int) ≤ (i : Int) := by omega
  have i1 : (i : Int) < (a.length : Nat) := by omega
  have i2 : (i : Int) < (b.length : Nat) := by omega
  rw [he] at h3
  have ir : ((i : Nat) : Int) + 1 = ((i + 1 : Nat) : Int) := by omega
  rw [iter_by lb18_0.eq_1]
  simp (disch := (first | omega | (simp only [lnE] <;> omega) | (refine Fit.mono ‹Fit _ _ _› ?_ <;> (simp only [lnE] <;> omega)) | (refine Fit.draw ‹Fit _ _ _› ?_ ?_ <;> (simp only [lnE] <;> omega)) | (refine Fit.hid1 ‹Fit _ _ _› ?_ ?_ <;> (simp only [lnE] <;> omega)) | (refine Fit.hidc1 ‹Fit _ _ _› ?_ ?_ <;> (simp only [lnE] <;> omega)) | (refine Fit.hidc2 ‹Fit _ _ _› ?_ ?_ ?_ <;> (simp only [lnE] <;> omega)) | (refine Fit.draw1 ‹Fit _ _ _› ?_ ?_ ?_ <;> (simp only [lnE] <;> omega)) | (refine Fit.range0 ?_ ?_ <;> (simp only [lnE] <;> omega)) | fail)) only [syA, syB, argFr, D, E, T, C, undefv, eqF, aeq, sheqs, sheq, rdCells, cellsOf, fill, putAt, if_true, if_false, reduceIte, ↓reduceIte, reduceCtorEq, eq_self, Nat.reduceEqDiff, Nat.reduceAdd, Nat.reduceSub, Nat.reduceMul, Nat.reduceLT, Nat.reduceLeDiff, Nat.reducePow, Nat.reduceDiv, Nat.reduceMod, Int.reduceLT, Int.reduceLE, Int.reduceGT, Int.reduceGE, Int.reduceToNat, Int.reducePow, Int.reduceNeg, Int.reduceBEq, Int.reduceBNe, Int.reduceEq, Int.reduceAdd, Int.reduceSub, Int.reduceMul, cellv, sc, flatv, refs, refsF, refsC, hF.not0, hF.not1, hF.up0, hF.up1, i0, i1, i2, h1, h2, h3, k1, k2, k3, ir]
theorem ints_loop' {a b : List Int} {v w : Value} (R : RdI hp H v a) (Q : RdI hp H w b) (hl : a.length = b.length) (ha : a.length ≤ 1000000) (hF : Fit hp.length L H) : ∀ (n i : Nat), i + n = a.length → (∀ j, j < i → a[j]? = b[j]?) →
    ∃ ex fr, Liter env lb18_0 [1, 0, 5] hp.length [(1, w), (0, v), (5, .int .i64 i)] ⟨hp, L, H, []⟩ = some (ex, fr, ⟨hp, L, H, []⟩) ∧ ((ex = .exit 0 ∧ a = b) ∨ (ex = .ret ∧ fr.get 4 = some (.bool false) ∧ a ≠ b))
  | 0, i, e, hp' => by
    obtain ⟨p, e1, rfl⟩ := R.len
    obtain rfl : i = a.length := by omega
    have hab : a = b := by
      apply List.ext_getElem?
      intro j
      by_cases hj : j < a.length
      · exact hp' j hj
      · rw [List.getElem?_eq_none (by omega), List.getElem?_eq_none (by omega)]
    rw [iter_by lb18_0.eq_1]
    simp (disch := (first | omega | (simp only [lnE] <;> omega) | (refine Fit.mono ‹Fit _ _ _› ?_ <;> (simp only [lnE] <;> omega)) | (refine Fit.draw ‹Fit _ _ _› ?_ ?_ <;> (simp only [lnE] <;> omega)) | (refine Fit.hid1 ‹Fit _ _ _› ?_ ?_ <;> (simp only [lnE] <;> omega)) | (refine Fit.hidc1 ‹Fit _ _ _› ?_ ?_ <;> (simp only [lnE] <;> omega)) | (refine Fit.hidc2 ‹Fit _ _ _› ?_ ?_ ?_ <;> (simp only [lnE] <;> omega)) | (refine Fit.draw1 ‹Fit _ _ _› ?_ ?_ ?_ <;> (simp only [lnE] <;> omega)) | (refine Fit.range0 ?_ ?_ <;> (simp only [lnE] <;> omega)) | fail)) only [syA, syB, argFr, D, E, T, C, undefv, eqF, aeq, sheqs, sheq, rdCells, cellsOf, fill, putAt, if_true, if_false, reduceIte, ↓reduceIte, reduceCtorEq, eq_self, Nat.reduceEqDiff, Nat.reduceAdd, Nat.reduceSub, Nat.reduceMul, Nat.reduceLT, Nat.reduceLeDiff, Nat.reducePow, Nat.reduceDiv, Nat.reduceMod, Int.reduceLT, Int.reduceLE, Int.reduceGT, Int.reduceGE, Int.reduceToNat, Int.reducePow, Int.reduceNeg, Int.reduceBEq, Int.reduceBNe, Int.reduceEq, Int.reduceAdd, Int.reduceSub, Int.reduceMul, cellv, sc, flatv, refs, refsF, refsC, hF.not0, hF.not1, hF.up0, hF.up1]
    exact ⟨_, _, rfl, .inl ⟨rfl, hab⟩⟩
  | n + 1, i, e, hp' => by
    have hi : i < a.length := by omega
    by_cases c : a[i] = b[i]
    · rw [ints_step R Q hl ha hF hi c]
      refine ints_loop' R Q hl ha hF n (i + 1) (by omega) fun j hj => ?_
      rcases Nat.lt_or_ge j i with h | h
      · exact hp' j h
      · obtain rfl : j = i := by omega
        rw [List.getElem?_eq_getElem hi, List.getElem?_eq_getElem (by omega), c]
    · obtain ⟨p, e1, rfl⟩ := R.len
      obtain ⟨p2, e2, rfl⟩ := Q.len
      obtain ⟨b1, o1, g1, pl1, cs1, rfl, h1, h2, h3⟩ := R.at_ hi
      obtain ⟨b2, o2, g2, pl2, cs2, rfl, k1, k2, k3⟩ := Q.at_ (i := i) (by omega)
      have i0 : (0 : Int) ≤ (i : Int) := by omega
      have i1 : (i : Int) < (a.length : Nat) := by omega
      have i2 : (i : Int) < (b.length : Nat) := by omega
      have hne : a ≠ b := fun h => by subst h; exact c rfl
      rw [iter_by lb18_0.eq_1]
      simp (disch := (first | omega | (simp only [lnE] <;> omega) | (refine Fit.mono ‹Fit _ _ _› ?_ <;> (simp only [lnE] <;> omega)) | (refine Fit.draw ‹Fit _ _ _› ?_ ?_ <;> (simp only [lnE] <;> omega)) | (refine Fit.hid1 ‹Fit _ _ _› ?_ ?_ <;> (simp only [lnE] <;> omega)) | (refine Fit.hidc1 ‹Fit _ _ _› ?_ ?_ <;> (simp only [lnE] <;> omega)) | (refine Fit.hidc2 ‹Fit _ _ _› ?_ ?_ ?_ <;> (simp only [lnE] <;> omega)) | (refine Fit.draw1 ‹Fit _ _ _› ?_ ?_ ?_ <;> (simp only [lnE] <;> omega)) | (refine Fit.range0 ?_ ?_ <;> (simp only [lnE] <;> omega)) | fail)) only [syA, syB, argFr, D, E, T, C, undefv, eqF, aeq, sheqs, sheq, rdCells, cellsOf, fill, putAt, if_true, if_false, reduceIte, ↓reduceIte, reduceCtorEq, eq_self, Nat.reduceEqDiff, Nat.reduceAdd, Nat.reduceSub, Nat.reduceMul, Nat.reduceLT, Nat.reduceLeDiff, Nat.reducePow, Nat.reduceDiv, Nat.reduceMod, Int.reduceLT, Int.reduceLE, Int.reduceGT, Int.reduceGE, Int.reduceToNat, Int.reducePow, Int.reduceNeg, Int.reduceBEq, Int.reduceBNe, Int.reduceEq, Int.reduceAdd, Int.reduceSub, Int.reduceMul, cellv, sc, flatv, refs, refsF, refsC, hF.not0, hF.not1, hF.up0, hF.up1, i0, i1, i2, h1, h2, h3, k1, k2, k3, c]
      exact ⟨_, _, rfl, .inr ⟨rfl, rfl, hne⟩⟩
theorem inteq_walk {a b : List Int} {v w : Value} (R : RdI hp H v a) (Q : RdI hp H w b) (ha : a.length ≤ 1000000) (hF : Fit hp.length L H) :
    Lrun env (.func 18) [v, w] ⟨hp, L, H, d⟩ = some (.bool (decide (a = b)), ⟨hp, L, H, d⟩) := by
  rw [Lrun_sym 18 _ _ fn18]
  by_cases hl : a.length = b.length
  · obtain ⟨ex, fr, e1, e2⟩ := ints_loop' R Q hl ha hF a.length 0 (by omega) (fun j hj => by omega)
    obtain ⟨p, x1, rfl⟩ := R.len
    obtain ⟨p2, x2, rfl⟩ := Q.len
    simp only [Int.natCast_zero] at e1
    rcases e2 with ⟨rfl, e2⟩ | ⟨rfl, e3, e2⟩
    · rw [decide_eq_true e2]
      simp (disch := (first | omega | (simp only [lnE] <;> omega) | (refine Fit.mono ‹Fit _ _ _› ?_ <;> (simp only [lnE] <;> omega)) | (refine Fit.draw ‹Fit _ _ _› ?_ ?_ <;> (simp only [lnE] <;> omega)) | (refine Fit.hid1 ‹Fit _ _ _› ?_ ?_ <;> (simp only [lnE] <;> omega)) | (refine Fit.hidc1 ‹Fit _ _ _› ?_ ?_ <;> (simp only [lnE] <;> omega)) | (refine Fit.hidc2 ‹Fit _ _ _› ?_ ?_ ?_ <;> (simp only [lnE] <;> omega)) | (refine Fit.draw1 ‹Fit _ _ _› ?_ ?_ ?_ <;> (simp only [lnE] <;> omega)) | (refine Fit.range0 ?_ ?_ <;> (simp only [lnE] <;> omega)) | fail)) only [syA, syB, argFr, D, E, T, C, undefv, eqF, aeq, sheqs, sheq, rdCells, cellsOf, fill, putAt, if_true, if_false, reduceIte, ↓reduceIte, reduceCtorEq, eq_self, Nat.reduceEqDiff, Nat.reduceAdd, Nat.reduceSub, Nat.reduceMul, Nat.reduceLT, Nat.reduceLeDiff, Nat.reducePow, Nat.reduceDiv, Nat.reduceMod, Int.reduceLT, Int.reduceLE, Int.reduceGT, Int.reduceGE, Int.reduceToNat, Int.reducePow, Int.reduceNeg, Int.reduceBEq, Int.reduceBNe, Int.reduceEq, Int.reduceAdd, Int.reduceSub, Int.reduceMul, cellv, sc, flatv, refs, refsF, refsC, hF.not0, hF.not1, hF.up0, hF.up1, ac18, hl, e1]
      rw [hl] at e1
      simp (disch := (first | omega | (simp only [lnE] <;> omega) | (refine Fit.mono ‹Fit _ _ _› ?_ <;> (simp only [lnE] <;> omega)) | (refine Fit.draw ‹Fit _ _ _› ?_ ?_ <;> (simp only [lnE] <;> omega)) | (refine Fit.hid1 ‹Fit _ _ _› ?_ ?_ <;> (simp only [lnE] <;> omega)) | (refine Fit.hidc1 ‹Fit _ _ _› ?_ ?_ <;> (simp only [lnE] <;> omega)) | (refine Fit.hidc2 ‹Fit _ _ _› ?_ ?_ ?_ <;> (simp only [lnE] <;> omega)) | (refine Fit.draw1 ‹Fit _ _ _› ?_ ?_ ?_ <;> (simp only [lnE] <;> omega)) | (refine Fit.range0 ?_ ?_ <;> (simp only [lnE] <;> omega)) | fail)) only [syA, syB, argFr, D, E, T, C, undefv, eqF, aeq, sheqs, sheq, rdCells, cellsOf, fill, putAt, if_true, if_false, reduceIte, ↓reduceIte, reduceCtorEq, eq_self, Nat.reduceEqDiff, Nat.reduceAdd, Nat.reduceSub, Nat.reduceMul, Nat.reduceLT, Nat.reduceLeDiff, Nat.reducePow, Nat.reduceDiv, Nat.reduceMod, Int.reduceLT, Int.reduceLE, Int.reduceGT, Int.reduceGE, Int.reduceToNat, Int.reducePow, Int.reduceNeg, Int.reduceBEq, Int.reduceBNe, Int.reduceEq, Int.reduceAdd, Int.reduceSub, Int.reduceMul, cellv, sc, flatv, refs, refsF, refsC, hF.not0, hF.not1, hF.up0, hF.up1, e1]
    · rw [decide_eq_false e2]
      simp (disch := (first | omega | (simp only [lnE] <;> omega) | (refine Fit.mono ‹Fit _ _ _› ?_ <;> (simp only [lnE] <;> omega)) | (refine Fit.draw ‹Fit _ _ _› ?_ ?_ <;> (simp only [lnE] <;> omega)) | (refine Fit.hid1 ‹Fit _ _ _› ?_ ?_ <;> (simp only [lnE] <;> omega)) | (refine Fit.hidc1 ‹Fit _ _ _› ?_ ?_ <;> (simp only [lnE] <;> omega)) | (refine Fit.hidc2 ‹Fit _ _ _› ?_ ?_ ?_ <;> (simp only [lnE] <;> omega)) | (refine Fit.draw1 ‹Fit _ _ _› ?_ ?_ ?_ <;> (simp only [lnE] <;> omega)) | (refine Fit.range0 ?_ ?_ <;> (simp only [lnE] <;> omega)) | fail)) only [syA, syB, argFr, D, E, T, C, undefv, eqF, aeq, sheqs, sheq, rdCells, cellsOf, fill, putAt, if_true, if_false, reduceIte, ↓reduceIte, reduceCtorEq, eq_self, Nat.reduceEqDiff, Nat.reduceAdd, Nat.reduceSub, Nat.reduceMul, Nat.reduceLT, Nat.reduceLeDiff, Nat.reducePow, Nat.reduceDiv, Nat.reduceMod, Int.reduceLT, Int.reduceLE, Int.reduceGT, Int.reduceGE, Int.reduceToNat, Int.reducePow, Int.reduceNeg, Int.reduceBEq, Int.reduceBNe, Int.reduceEq, Int.reduceAdd, Int.reduceSub, Int.reduceMul, cellv, sc, flatv, refs, refsF, refsC, hF.not0, hF.not1, hF.up0, hF.up1, ac18, hl, e1, e3]
      rw [hl] at e1
      simp (disch := (first | omega | (simp only [lnE] <;> omega) | (refine Fit.mono ‹Fit _ _ _› ?_ <;> (simp only [lnE] <;> omega)) | (refine Fit.draw ‹Fit _ _ _› ?_ ?_ <;> (simp only [lnE] <;> omega)) | (refine Fit.hid1 ‹Fit _ _ _› ?_ ?_ <;> (simp only [lnE] <;> omega)) | (refine Fit.hidc1 ‹Fit _ _ _› ?_ ?_ <;> (simp only [lnE] <;> omega)) | (refine Fit.hidc2 ‹Fit _ _ _› ?_ ?_ ?_ <;> (simp only [lnE] <;> omega)) | (refine Fit.draw1 ‹Fit _ _ _› ?_ ?_ ?_ <;> (simp only [lnE] <;> omega)) | (refine Fit.range0 ?_ ?_ <;> (simp only [lnE] <;> omega)) | fail)) only [syA, syB, argFr, D, E, T, C, undefv, eqF, aeq, sheqs, sheq, rdCells, cellsOf, fill, putAt, if_true, if_false, reduceIte, ↓reduceIte, reduceCtorEq, eq_self, Nat.reduceEqDiff, Nat.reduceAdd, Nat.reduceSub, Nat.reduceMul, Nat.reduceLT, Nat.reduceLeDiff, Nat.reducePow, Nat.reduceDiv, Nat.reduceMod, Int.reduceLT, Int.reduceLE, Int.reduceGT, Int.reduceGE, Int.reduceToNat, Int.reducePow, Int.reduceNeg, Int.reduceBEq, Int.reduceBNe, Int.reduceEq, Int.reduceAdd, Int.reduceSub, Int.reduceMul, cellv, sc, flatv, refs, refsF, refsC, hF.not0, hF.not1, hF.up0, hF.up1, e1, e3]
  · have hne : a ≠ b := fun h => hl (by rw [h])
    have hl' : ¬ ((a.length : Nat) : Int) = (b.length : Nat) := by omega
    obtain ⟨p, x1, rfl⟩ := R.len
    obtain ⟨p2, x2, rfl⟩ := Q.len
    rw [decide_eq_false hne]
    simp (disch := (first | omega | (simp only [lnE] <;> omega) | (refine Fit.mono ‹Fit _ _ _› ?_ <;> (simp only [lnE] <;> omega)) | (refine Fit.draw ‹Fit _ _ _› ?_ ?_ <;> (simp only [lnE] <;> omega)) | (refine Fit.hid1 ‹Fit _ _ _› ?_ ?_ <;> (simp only [lnE] <;> omega)) | (refine Fit.hidc1 ‹Fit _ _ _› ?_ ?_ <;> (simp only [lnE] <;> omega)) | (refine Fit.hidc2 ‹Fit _ _ _› ?_ ?_ ?_ <;> (simp only [lnE] <;> omega)) | (refine Fit.draw1 ‹Fit _ _ _› ?_ ?_ ?_ <;> (simp only [lnE] <;> omega)) | (refine Fit.range0 ?_ ?_ <;> (simp only [lnE] <;> omega)) | fail)) only [syA, syB, argFr, D, E, T, C, undefv, eqF, aeq, sheqs, sheq, rdCells, cellsOf, fill, putAt, if_true, if_false, reduceIte, ↓reduceIte, reduceCtorEq, eq_self, Nat.reduceEqDiff, Nat.reduceAdd, Nat.reduceSub, Nat.reduceMul, Nat.reduceLT, Nat.reduceLeDiff, Nat.reducePow, Nat.reduceDiv, Nat.reduceMod, Int.reduceLT, Int.reduceLE, Int.reduceGT, Int.reduceGE, Int.reduceToNat, Int.reducePow, Int.reduceNeg, Int.reduceBEq, Int.reduceBNe, Int.reduceEq, Int.reduceAdd, Int.reduceSub, Int.reduceMul, cellv, sc, flatv, refs, refsF, refsC, hF.not0, hF.not1, hF.up0, hF.up1, ac18, hl']
theorem putl_nil {x : List Nat} (hx : x.length = 258) (hx8 : By x) (ht : kTable x = true) (hF : Fit hp.length L H) :
    Lrun env (.func 21) [.pointer none, .agg (u8s x).toArray] ⟨hp, L, H, d⟩ = some (.int .i64 2, ⟨hp, L, H, d⟩) := by
  rw [Lrun_sym 21 _ _ fn21]
  have ho := fun hp L H d hF => of_good (hp := hp) (L := L) (H := H) (d := d) hx hx8 ht hF
  have htk := take258 hx
  have he : (encF x).length ≠ 0 := by have := encF_ge x; omega
  have eI : ∀ j, slI j (encF x) = .slice (some ⟨j, 0, some (encF x).length⟩) (encF x).length 1 := fun j => if_neg he
  have eB : slIB (encF x) = [.cells (encF x).length true (is (encF x))] := if_neg he
  simp only [eI, eB] at ho
  simp (disch := (first | omega | (simp only [lnE] <;> omega) | (refine Fit.mono ‹Fit _ _ _› ?_ <;> (simp only [lnE] <;> omega)) | (refine Fit.draw ‹Fit _ _ _› ?_ ?_ <;> (simp only [lnE] <;> omega)) | (refine Fit.hid1 ‹Fit _ _ _› ?_ ?_ <;> (simp only [lnE] <;> omega)) | (refine Fit.hidc1 ‹Fit _ _ _› ?_ ?_ <;> (simp only [lnE] <;> omega)) | (refine Fit.hidc2 ‹Fit _ _ _› ?_ ?_ ?_ <;> (simp only [lnE] <;> omega)) | (refine Fit.draw1 ‹Fit _ _ _› ?_ ?_ ?_ <;> (simp only [lnE] <;> omega)) | (refine Fit.range0 ?_ ?_ <;> (simp only [lnE] <;> omega)) | fail)) only [syA, syB, argFr, D, E, T, C, undefv, eqF, aeq, sheqs, sheq, rdCells, cellsOf, fill, putAt, if_true, if_false, reduceIte, ↓reduceIte, reduceCtorEq, eq_self, Nat.reduceEqDiff, Nat.reduceAdd, Nat.reduceSub, Nat.reduceMul, Nat.reduceLT, Nat.reduceLeDiff, Nat.reducePow, Nat.reduceDiv, Nat.reduceMod, Int.reduceLT, Int.reduceLE, Int.reduceGT, Int.reduceGE, Int.reduceToNat, Int.reducePow, Int.reduceNeg, Int.reduceBEq, Int.reduceBNe, Int.reduceEq, Int.reduceAdd, Int.reduceSub, Int.reduceMul, cellv, sc, flatv, refs, refsF, refsC, hF.not0, hF.not1, hF.up0, hF.up1, ac21, u8s_cellv, u8s_scs, ho, htk, hx, le258 hx]
/-! ### The examples -/
def E3 : List Nat := encF th
theorem E3_length : E3.length = 272 := by decide +kernel
theorem E3_bits : Bits E3 := encF_bits _
def c9 : Ts := { z0 with bits := 9 }
def c11 : Ts := { z0 with bits := 1, now := 1 }
theorem gs_z0 : Gs z0 := ⟨zs_length, zs_by, by decide, by decide, by decide, by decide, by decide, by decide, by decide, by decide⟩
theorem gs_c9 : Gs c9 := ⟨zs_length, zs_by, by decide, by decide, by decide, by decide, by decide, by decide, by decide, by decide⟩
theorem gs_c11 : Gs c11 := ⟨zs_length, zs_by, by decide, by decide, by decide, by decide, by decide, by decide, by decide, by decide⟩
theorem vld_z0 : Vld z0 := come0.vld
theorem vld_c9 : ¬ Vld c9 := fun h => h.elim (fun h => absurd h.2.1 (by decide)) (fun h => absurd h.1.bits1 (by decide))
theorem vld_c11 : Vld c11 := (come0.next (b := 1) (by decide) (by decide) rfl).vld
theorem step_c9 : stepF c9 1 = (z0, false, 2) := by unfold stepF; rw [if_neg fun h => vld_c9 h.1]
theorem step_z0 : stepF z0 1 = (c11, false, 0) := by
  unfold stepF
  rw [if_pos ⟨vld_z0, by decide, .inr rfl⟩]
  rfl
theorem c9_eq : (tsC z0).set 259 (.int .i64 9) = tsC c9 := set_bits (c := z0) zs_length 9
theorem c11_eq : ((tsC z0).set 259 (.int .i64 1)).set 260 (.int .i64 1) = tsC c11 := by rw [set_bits (c := z0) zs_length 1, set_now (c := { z0 with bits := 1 }) zs_length 1]; rfl
theorem read1 : readF z0 [0, 0, 0, 0, 1, 0, 1, 1] 0 = (zs, 0, 100) := rfl
theorem read2 : readF z0 [0, 0, 0] 0 = (zs, 0, 50) := rfl
theorem read3 : readF z0 [0, 2] 0 = (zs, 0, 2) := rfl
theorem read4 : readF z0 (il E3 ++ [1, 1]) 0 = (th, 272, 0) := by
  have := read_enc th_length th_table [1, 1]
  have e := E3_length
  unfold E3 at e ⊢
  rw [this, e]
  rfl
/-- Read on a list that lies in one of the new blocks. -/
theorem read_at {nw : List Blk} (j : Nat) {n g : Nat} {pl : Bool} (l : List Int) {x : List Nat × Int × Int} (h : nw[j]? = some (.cells g pl (l.map fun b => .int .i64 b))) (hn : l.length = n) (hs : n ≤ 100000) (hF : Fit hp.length L H) (hx : readF z0 l 0 = x) :
    Lrun env (.func 13) [.slice (some ⟨hp.length + j, 0, some g⟩) n 1] ⟨hp ++ nw, L, H, d⟩ = some (.tuple #[.agg (u8s x.1).toArray, .int .i64 x.2.1, .int .i64 x.2.2], ⟨hp ++ nw, L, H, d⟩) := by
  subst hn hx
  exact read_walk (.inr ⟨_, _, _, _, _, _, rfl, hF.not1 j, by rw [get_new]; exact h, fun i hi => by simp [hi]⟩) (by omega) (hF.mono (by simp))
theorem rdI_at {nw : List Blk} (j : Nat) {o n g : Nat} {pl : Bool} (l m : List Int) (h : nw[j]? = some (.cells g pl (m.map fun b => .int .i64 b))) (hl : (m.drop o).take n = l) (hn : l.length = n) (hF : Fit hp.length L H) : RdI (hp ++ nw) H (.slice (some ⟨hp.length + j, o, some g⟩) n 1) l := by
  subst hn
  refine .inr ⟨_, _, _, _, _, _, rfl, hF.not1 j, by rw [get_new]; exact h, fun i hi => ?_⟩
  have e : m[o + i]? = some l[i] := by
    have h1 : ((m.drop o).take l.length)[i]? = l[i]? := by rw [hl]
    rw [List.getElem?_take_of_lt hi, List.getElem?_drop, List.getElem?_eq_getElem hi] at h1
    exact h1
  rw [List.getElem?_map, e]
  rfl
theorem is_il (l : List Nat) : is l = (il l).map fun b => .int .i64 b := by simp [is, il]
set_option maxHeartbeats 2000000 in
theorem wakes10 (hF : Fit hp.length L H) : Lrun env (.func 10) [] ⟨hp, L, H, d⟩ = some (.bool true, ⟨hp, L, H, d⟩) := by
  rw [Lrun_sym 10 _ _ fn10]
  have hz := zs_length
  have hth := th_length
  have hE := E3_length
  have hT := fun hp L H d hF => three_walk (hp := hp) (L := L) (H := H) (d := d) hF
  have hO := fun hp L H d hF => of_good (hp := hp) (L := L) (H := H) (d := d) th_length th_by th_table hF
  have eI : ∀ j, slI j (encF th) = .slice (some ⟨j, 0, some 272⟩) 272 1 := fun j => by unfold slI; rw [show (encF th).length = 272 from hE]; rfl
  have eB : slIB (encF th) = [.cells 272 true (is E3)] := by unfold slIB; rw [show (encF th).length = 272 from hE]; rfl
  simp only [eI, eB] at hO
  have hO0 := fun hp L H d hF => of_bad (hp := hp) (L := L) (H := H) (d := d) zs_length zs_by zs_table hF
  have z0q : u8s zs ++ [.int .i64 0, .int .i64 0, .int .i64 0, .int .i64 0] = tsC z0 := rfl
  have s0 : small 0 = true := rfl
  have s2 : small 2 = true := rfl
  have s3 : small 3 = true := rfl
  have s5 : small 5 = true := rfl
  have s8 : small 8 = true := rfl
  have s13 : small 13 = true := rfl
  have r8 : List.replicate 8 (Value.int .i64 0) = [.int .i64 0, .int .i64 0, .int .i64 0, .int .i64 0, .int .i64 0, .int .i64 0, .int .i64 0, .int .i64 0] := rfl
  have r13 : List.replicate 13 (Value.int .i64 0) = [.int .i64 0, .int .i64 0, .int .i64 0, .int .i64 0, .int .i64 0, .int .i64 0, .int .i64 0, .int .i64 0, .int .i64 0, .int .i64 0, .int .i64 0, .int .i64 0, .int .i64 0] := rfl
  have lE : (is E3).length = 272 := by rw [is_length, hE]
  have tE : (is E3).take 272 = is E3 := List.take_of_length_le (by omega)
  have a1 := append_isg (hp := hp ++ [.cells 272 true (is E3), .cells 0 true []]) (L := L) (H := H) (d := []) (b := hp.length + 1) (g := 0) (l := []) (m := E3) (by rw [get_new]; rfl) (by have := hF.1; omega) (hF.not1 1) (by omega) (by simp [hE])
  have a2 := append_isg (hp := hp ++ [.cells 272 true (is E3), .cells 272 true (is E3), .cells 0 true (is [1, 1])]) (L := L) (H := H) (d := []) (b := hp.length + 1) (g := 272) (l := E3) (m := [1, 1]) (by rw [get_new]; rfl) (by have := hF.1; omega) (hF.not1 1) (by simp) (by simp [hE])
  rw [set_new] at a1 a2
  have isn : is ([] : List Nat) = [] := rfl
  have is11 : is [1, 1] = [.int .i64 1, .int .i64 1] := rfl
  simp only [hE, isn, is11, List.length_nil, List.length_cons, Nat.zero_add, List.nil_append, List.set_cons_succ, List.set_cons_zero, Int.cast_ofNat_Int, Nat.reduceAdd] at a1 a2
  have hE1 : is (E3 ++ [1, 1]) = (il E3 ++ [1, 1]).map fun b => .int .i64 b := by rw [is_il]; simp [il]
  have lE1 : (il E3 ++ [1, 1]).length = 274 := by simp [il, hE]
  have d1 := fun d => read_at (d := d) (hp := hp) (L := L) (H := H) (nw := [.cells 272 true (is E3), .cells 274 true (is (E3 ++ [1, 1])), .cells 0 true [.int .i64 1, .int .i64 1]]) 1 (il E3 ++ [1, 1]) (by rw [hE1]; rfl) lE1 (by decide) hF read4
  have htz : (u8s zs).take 258 = u8s zs := take258 hz
  have htt : (u8s th).take 258 = u8s th := take258 hth
  have pzt : putAt (u8s zs) 0 (u8s th) = u8s th := putAt_full (by rw [u8s_length, u8s_length, hz, hth])
  have pzz : putAt (u8s zs) 0 (u8s zs) = u8s zs := putAt_full rfl
  have n1 : List Blk := [.cells 272 true (is E3), .cells 274 true (is (E3 ++ [1, 1])), .cells 0 true [.int .i64 1, .int .i64 1], .cells 0 true (u8s th)]
  have d2 := fun d => read_at (n := 8) (d := d) (hp := hp) (L := L) (H := H) (nw := [.cells 272 true (is E3), .cells 274 true (is (E3 ++ [1, 1])), .cells 0 true [.int .i64 1, .int .i64 1], .cells 0 true (u8s th), .cells 0 true [.int .i64 0, .int .i64 0, .int .i64 0, .int .i64 0, .int .i64 1, .int .i64 0, .int .i64 1, .int .i64 1]]) 4 [0, 0, 0, 0, 1, 0, 1, 1] rfl rfl (by decide) hF read1
  have d3 := fun d => read_at (n := 3) (d := d) (hp := hp) (L := L) (H := H) (nw := [.cells 272 true (is E3), .cells 274 true (is (E3 ++ [1, 1])), .cells 0 true [.int .i64 1, .int .i64 1], .cells 0 true (u8s th), .cells 0 true [.int .i64 0, .int .i64 0, .int .i64 0, .int .i64 0, .int .i64 1, .int .i64 0, .int .i64 1, .int .i64 1], .cells 0 true (u8s zs), .cells 0 true [.int .i64 0, .int .i64 0, .int .i64 0]]) 6 [0, 0, 0] rfl rfl (by decide) hF read2
  have d4 := fun d => read_at (n := 2) (d := d) (hp := hp) (L := L) (H := H) (nw := [.cells 272 true (is E3), .cells 274 true (is (E3 ++ [1, 1])), .cells 0 true [.int .i64 1, .int .i64 1], .cells 0 true (u8s th), .cells 0 true [.int .i64 0, .int .i64 0, .int .i64 0, .int .i64 0, .int .i64 1, .int .i64 0, .int .i64 1, .int .i64 1], .cells 0 true (u8s zs), .cells 0 true [.int .i64 0, .int .i64 0, .int .i64 0], .cells 0 true (u8s zs), .cells 0 true [.int .i64 0, .int .i64 2]]) 8 [0, 2] rfl rfl (by decide) hF read3
  have hN := fun hp L H d hF => new_walk (hp := hp) (L := L) (H := H) hF d
  have W : Ws (hp ++ [.cells 272 true (is E3), .cells 274 true (is (E3 ++ [1, 1])), .cells 0 true [.int .i64 1, .int .i64 1], .cells 0 true (u8s th), .cells 0 true [.int .i64 0, .int .i64 0, .int .i64 0, .int .i64 0, .int .i64 1, .int .i64 0, .int .i64 1, .int .i64 1], .cells 0 true (u8s zs), .cells 0 true [.int .i64 0, .int .i64 0, .int .i64 0], .cells 0 true (u8s zs), .cells 0 true [.int .i64 0, .int .i64 2], .cells 0 true (u8s zs), Wr 0 []]) L H (hp.length + 10) (hp.length + 11) [] :=
    ⟨by rw [get_new]; rfl, fun h => absurd rfl h, fun _ => by simp, by have := hF.1; omega, by have := hF.1; omega, hF.not1 10, hF.not1 11, by omega, Bits.nil⟩
  have hP := putl_walk (d := []) W hth th_by th_table (by decide) (hF.mono (by simp))
  have hEn : (encF th).length ≠ 0 := by have := encF_ge th; omega
  have hws := wset_new (hp := hp ++ [.cells 272 true (is E3), .cells 274 true (is (E3 ++ [1, 1])), .cells 0 true [.int .i64 1, .int .i64 1], .cells 0 true (u8s th), .cells 0 true [.int .i64 0, .int .i64 0, .int .i64 0, .int .i64 0, .int .i64 1, .int .i64 0, .int .i64 1, .int .i64 1], .cells 0 true (u8s zs), .cells 0 true [.int .i64 0, .int .i64 0, .int .i64 0], .cells 0 true (u8s zs), .cells 0 true [.int .i64 0, .int .i64 2], .cells 0 true (u8s zs), Wr 0 []]) (a := hp.length + 10) (m := encF th) hEn
  simp only [List.length_append, List.length_cons, List.length_nil, Nat.zero_add, Nat.reduceAdd] at hws
  have hdt : joinDirty [] (dirt (hp.length + 10) [] (encF th)) = [hp.length + 10] := by
    unfold dirt nb
    rw [if_neg (by have := encF_ge th; rw [List.length_nil]; omega)]
    rfl
  rw [List.nil_append, hws, set_new, hdt] at hP
  simp only [List.set_cons_succ, List.set_cons_zero, List.append_assoc, List.cons_append, List.nil_append] at hP
  rw [show encF th = E3 from rfl] at hP
  have hS0 := fun hp L H d hF => step_walk (hp := hp) (L := L) (H := H) (d := d) gs_z0 (bit := 1) hF
  have hS9 := fun hp L H d hF => step_walk (hp := hp) (L := L) (H := H) (d := d) gs_c9 (bit := 1) hF
  simp only [step_z0, step_c9] at hS0 hS9
  have hV9 := fun hp L H d hF => valid_walk (hp := hp) (L := L) (H := H) (d := d) gs_c9 hF
  have hV11 := fun hp L H d hF => valid_walk (hp := hp) (L := L) (H := H) (d := d) gs_c11 hF
  rw [decide_eq_false vld_c9] at hV9
  rw [decide_eq_true vld_c11] at hV11
  have lz : (tsC z0).length = 262 := tsC_length (c := z0) hz
  have lz9 : ((tsC z0).set 259 (.int .i64 1)).length = 262 := by rw [List.length_set, lz]
  have l11 : (tsC c11).length = 262 := tsC_length (c := c11) hz
  have tz : (tsC z0).take 262 = tsC z0 := tsC_take (c := z0) hz
  have t11 : (tsC c11).take 262 = tsC c11 := tsC_take (c := c11) hz
  have pz11 : putAt (tsC z0) 0 (tsC c11) = tsC c11 := putAt_full (by rw [l11, lz])
  have pzz2 : putAt (tsC z0) 0 (tsC z0) = tsC z0 := putAt_full rfl
  have q1 : sheqs (List.replicate 258 .nu) (u8s th) (u8s th) = some (decide (th = th)) := sheqs_u8 hth hth
  have q2 : sheqs (List.replicate 262 .nu) (tsC c11) (tsC c11) = some (decide (c11 = c11)) := tsC_eq (c := c11) (o := c11) hz hz
  rw [decide_eq_true rfl] at q1 q2
  have e13 : (il E3).take 13 = [0, 0, 0, 1, 0, 1, 0, 0, 1, 1, 1, 1, 0] := by decide +kernel
  have e5 : ((il E3).drop 267).take 5 = [1, 0, 1, 0, 0] := by decide +kernel
  have hI1 := fun L' d (hF' : Fit (hp ++ [.cells 272 true (is E3), .cells 274 true (is (E3 ++ [1, 1])), .cells 0 true [.int .i64 1, .int .i64 1], .cells 0 true (u8s th), .cells 0 true [.int .i64 0, .int .i64 0, .int .i64 0, .int .i64 0, .int .i64 1, .int .i64 0, .int .i64 1, .int .i64 1], .cells 0 true (u8s zs), .cells 0 true [.int .i64 0, .int .i64 0, .int .i64 0], .cells 0 true (u8s zs), .cells 0 true [.int .i64 0, .int .i64 2], .cells 0 true (u8s zs), Wr (hp.length + 11) E3, Wb E3, .cells 0 true (tsC c11), .cells 0 true (tsC z0), .cells 0 true [.int .i64 0, .int .i64 0, .int .i64 0, .int .i64 1, .int .i64 0, .int .i64 1, .int .i64 0, .int .i64 0, .int .i64 1, .int .i64 1, .int .i64 1, .int .i64 1, .int .i64 0]]).length L' H) => inteq_walk (d := d) (rdI_at (hp := hp) (L := L) (H := H) (n := 13) (o := 0) (nw := [.cells 272 true (is E3), .cells 274 true (is (E3 ++ [1, 1])), .cells 0 true [.int .i64 1, .int .i64 1], .cells 0 true (u8s th), .cells 0 true [.int .i64 0, .int .i64 0, .int .i64 0, .int .i64 0, .int .i64 1, .int .i64 0, .int .i64 1, .int .i64 1], .cells 0 true (u8s zs), .cells 0 true [.int .i64 0, .int .i64 0, .int .i64 0], .cells 0 true (u8s zs), .cells 0 true [.int .i64 0, .int .i64 2], .cells 0 true (u8s zs), Wr (hp.length + 11) E3, Wb E3, .cells 0 true (tsC c11), .cells 0 true (tsC z0), .cells 0 true [.int .i64 0, .int .i64 0, .int .i64 0, .int .i64 1, .int .i64 0, .int .i64 1, .int .i64 0, .int .i64 0, .int .i64 1, .int .i64 1, .int .i64 1, .int .i64 1, .int .i64 0]]) 0 [0, 0, 0, 1, 0, 1, 0, 0, 1, 1, 1, 1, 0] (il E3) (by rw [← is_il]; rfl) (by rw [List.drop_zero]; exact e13) rfl hF) (rdI_at (hp := hp) (L := L) (H := H) (o := 0) (n := 13) (nw := [.cells 272 true (is E3), .cells 274 true (is (E3 ++ [1, 1])), .cells 0 true [.int .i64 1, .int .i64 1], .cells 0 true (u8s th), .cells 0 true [.int .i64 0, .int .i64 0, .int .i64 0, .int .i64 0, .int .i64 1, .int .i64 0, .int .i64 1, .int .i64 1], .cells 0 true (u8s zs), .cells 0 true [.int .i64 0, .int .i64 0, .int .i64 0], .cells 0 true (u8s zs), .cells 0 true [.int .i64 0, .int .i64 2], .cells 0 true (u8s zs), Wr (hp.length + 11) E3, Wb E3, .cells 0 true (tsC c11), .cells 0 true (tsC z0), .cells 0 true [.int .i64 0, .int .i64 0, .int .i64 0, .int .i64 1, .int .i64 0, .int .i64 1, .int .i64 0, .int .i64 0, .int .i64 1, .int .i64 1, .int .i64 1, .int .i64 1, .int .i64 0]]) 14 [0, 0, 0, 1, 0, 1, 0, 0, 1, 1, 1, 1, 0] [0, 0, 0, 1, 0, 1, 0, 0, 1, 1, 1, 1, 0] rfl rfl rfl hF) (by decide) hF'
  have hI2 := fun L' d (hF' : Fit (hp ++ [.cells 272 true (is E3), .cells 274 true (is (E3 ++ [1, 1])), .cells 0 true [.int .i64 1, .int .i64 1], .cells 0 true (u8s th), .cells 0 true [.int .i64 0, .int .i64 0, .int .i64 0, .int .i64 0, .int .i64 1, .int .i64 0, .int .i64 1, .int .i64 1], .cells 0 true (u8s zs), .cells 0 true [.int .i64 0, .int .i64 0, .int .i64 0], .cells 0 true (u8s zs), .cells 0 true [.int .i64 0, .int .i64 2], .cells 0 true (u8s zs), Wr (hp.length + 11) E3, Wb E3, .cells 0 true (tsC c11), .cells 0 true (tsC z0), .cells 0 true [.int .i64 0, .int .i64 0, .int .i64 0, .int .i64 1, .int .i64 0, .int .i64 1, .int .i64 0, .int .i64 0, .int .i64 1, .int .i64 1, .int .i64 1, .int .i64 1, .int .i64 0], .cells 0 true [.int .i64 1, .int .i64 0, .int .i64 1, .int .i64 0, .int .i64 0]]).length L' H) => inteq_walk (d := d) (rdI_at (hp := hp) (L := L) (H := H) (o := 267) (n := 5) (nw := [.cells 272 true (is E3), .cells 274 true (is (E3 ++ [1, 1])), .cells 0 true [.int .i64 1, .int .i64 1], .cells 0 true (u8s th), .cells 0 true [.int .i64 0, .int .i64 0, .int .i64 0, .int .i64 0, .int .i64 1, .int .i64 0, .int .i64 1, .int .i64 1], .cells 0 true (u8s zs), .cells 0 true [.int .i64 0, .int .i64 0, .int .i64 0], .cells 0 true (u8s zs), .cells 0 true [.int .i64 0, .int .i64 2], .cells 0 true (u8s zs), Wr (hp.length + 11) E3, Wb E3, .cells 0 true (tsC c11), .cells 0 true (tsC z0), .cells 0 true [.int .i64 0, .int .i64 0, .int .i64 0, .int .i64 1, .int .i64 0, .int .i64 1, .int .i64 0, .int .i64 0, .int .i64 1, .int .i64 1, .int .i64 1, .int .i64 1, .int .i64 0], .cells 0 true [.int .i64 1, .int .i64 0, .int .i64 1, .int .i64 0, .int .i64 0]]) 0 [1, 0, 1, 0, 0] (il E3) (by rw [← is_il]; rfl) e5 rfl hF) (rdI_at (hp := hp) (L := L) (H := H) (o := 0) (n := 5) (nw := [.cells 272 true (is E3), .cells 274 true (is (E3 ++ [1, 1])), .cells 0 true [.int .i64 1, .int .i64 1], .cells 0 true (u8s th), .cells 0 true [.int .i64 0, .int .i64 0, .int .i64 0, .int .i64 0, .int .i64 1, .int .i64 0, .int .i64 1, .int .i64 1], .cells 0 true (u8s zs), .cells 0 true [.int .i64 0, .int .i64 0, .int .i64 0], .cells 0 true (u8s zs), .cells 0 true [.int .i64 0, .int .i64 2], .cells 0 true (u8s zs), Wr (hp.length + 11) E3, Wb E3, .cells 0 true (tsC c11), .cells 0 true (tsC z0), .cells 0 true [.int .i64 0, .int .i64 0, .int .i64 0, .int .i64 1, .int .i64 0, .int .i64 1, .int .i64 0, .int .i64 0, .int .i64 1, .int .i64 1, .int .i64 1, .int .i64 1, .int .i64 0], .cells 0 true [.int .i64 1, .int .i64 0, .int .i64 1, .int .i64 0, .int .i64 0]]) 15 [1, 0, 1, 0, 0] [1, 0, 1, 0, 0] rfl rfl rfl hF) (by decide) hF'
  rw [decide_eq_true rfl] at hI1 hI2
  simp only [Nat.add_zero] at hI1 hI2
  have hLen := fun L' d (hF' : Fit (hp ++ [.cells 272 true (is E3), .cells 274 true (is (E3 ++ [1, 1])), .cells 0 true [.int .i64 1, .int .i64 1], .cells 0 true (u8s th), .cells 0 true [.int .i64 0, .int .i64 0, .int .i64 0, .int .i64 0, .int .i64 1, .int .i64 0, .int .i64 1, .int .i64 1], .cells 0 true (u8s zs), .cells 0 true [.int .i64 0, .int .i64 0, .int .i64 0], .cells 0 true (u8s zs), .cells 0 true [.int .i64 0, .int .i64 2], .cells 0 true (u8s zs), Wr (hp.length + 11) E3, Wb E3, .cells 0 true (tsC c11), .cells 0 true (tsC z0), .cells 0 true [.int .i64 0, .int .i64 0, .int .i64 0, .int .i64 1, .int .i64 0, .int .i64 1, .int .i64 0, .int .i64 0, .int .i64 1, .int .i64 1, .int .i64 1, .int .i64 1, .int .i64 0], .cells 0 true [.int .i64 1, .int .i64 0, .int .i64 1, .int .i64 0, .int .i64 0]]).length L' H) => len_walk (a := hp.length + 10) (k := hp.length + 11) (l := E3) (hp := hp ++ [.cells 272 true (is E3), .cells 274 true (is (E3 ++ [1, 1])), .cells 0 true [.int .i64 1, .int .i64 1], .cells 0 true (u8s th), .cells 0 true [.int .i64 0, .int .i64 0, .int .i64 0, .int .i64 0, .int .i64 1, .int .i64 0, .int .i64 1, .int .i64 1], .cells 0 true (u8s zs), .cells 0 true [.int .i64 0, .int .i64 0, .int .i64 0], .cells 0 true (u8s zs), .cells 0 true [.int .i64 0, .int .i64 2], .cells 0 true (u8s zs), Wr (hp.length + 11) E3, Wb E3, .cells 0 true (tsC c11), .cells 0 true (tsC z0), .cells 0 true [.int .i64 0, .int .i64 0, .int .i64 0, .int .i64 1, .int .i64 0, .int .i64 1, .int .i64 0, .int .i64 0, .int .i64 1, .int .i64 1, .int .i64 1, .int .i64 1, .int .i64 0], .cells 0 true [.int .i64 1, .int .i64 0, .int .i64 1, .int .i64 0, .int .i64 0]]) ⟨by rw [get_new]; rfl, fun _ => by rw [get_new]; rfl, hF.not1 10, fun _ => hF.not1 11, E3_bits⟩ hF' d
  rw [hE] at hLen
  have hPn := fun hp L H d hF => putl_nil (hp := hp) (L := L) (H := H) (d := d) hth th_by th_table hF
  have r5 : List.replicate 5 (Value.int .i64 0) = [.int .i64 0, .int .i64 0, .int .i64 0, .int .i64 0, .int .i64 0] := rfl
  simp (disch := (first | omega | (simp only [lnE] <;> omega) | (refine Fit.mono ‹Fit _ _ _› ?_ <;> (simp only [lnE] <;> omega)) | (refine Fit.draw ‹Fit _ _ _› ?_ ?_ <;> (simp only [lnE] <;> omega)) | (refine Fit.hid1 ‹Fit _ _ _› ?_ ?_ <;> (simp only [lnE] <;> omega)) | (refine Fit.hidc1 ‹Fit _ _ _› ?_ ?_ <;> (simp only [lnE] <;> omega)) | (refine Fit.hidc2 ‹Fit _ _ _› ?_ ?_ ?_ <;> (simp only [lnE] <;> omega)) | (refine Fit.draw1 ‹Fit _ _ _› ?_ ?_ ?_ <;> (simp only [lnE] <;> omega)) | (refine Fit.range0 ?_ ?_ <;> (simp only [lnE] <;> omega)) | fail)) only [syA, syB, argFr, D, E, T, C, undefv, eqF, aeq, sheqs, sheq, rdCells, cellsOf, fill, putAt, if_true, if_false, reduceIte, ↓reduceIte, reduceCtorEq, eq_self, Nat.reduceEqDiff, Nat.reduceAdd, Nat.reduceSub, Nat.reduceMul, Nat.reduceLT, Nat.reduceLeDiff, Nat.reducePow, Nat.reduceDiv, Nat.reduceMod, Int.reduceLT, Int.reduceLE, Int.reduceGT, Int.reduceGE, Int.reduceToNat, Int.reducePow, Int.reduceNeg, Int.reduceBEq, Int.reduceBNe, Int.reduceEq, Int.reduceAdd, Int.reduceSub, Int.reduceMul, cellv, sc, flatv, refs, refsF, refsC, hF.not0, hF.not1, hF.up0, hF.up1, ac10, hT, hO, hO0, zs_eq, z0q, s0, s2, s3, s5, s8, s13, r5, r8, r13, lE, tE, a1, a2, d1, d2, d3, d4, u8s_cellv, u8s_scs, hz, hth, htz, htt, pzt, pzz, hN, hP, hS0, hS9, hV9, hV11, lz, lz9, l11, tz, t11, pz11, pzz2, q1, q2, c9_eq, c11_eq, hI1, hI2, hLen, hPn, tsC_refs, tsC_cellv, tsC_sc]
  rw [gc_own (by simp) (by simp)]
  simp (disch := (first | omega | (simp only [lnE] <;> omega) | (refine Fit.mono ‹Fit _ _ _› ?_ <;> (simp only [lnE] <;> omega)) | (refine Fit.draw ‹Fit _ _ _› ?_ ?_ <;> (simp only [lnE] <;> omega)) | (refine Fit.hid1 ‹Fit _ _ _› ?_ ?_ <;> (simp only [lnE] <;> omega)) | (refine Fit.hidc1 ‹Fit _ _ _› ?_ ?_ <;> (simp only [lnE] <;> omega)) | (refine Fit.hidc2 ‹Fit _ _ _› ?_ ?_ ?_ <;> (simp only [lnE] <;> omega)) | (refine Fit.draw1 ‹Fit _ _ _› ?_ ?_ ?_ <;> (simp only [lnE] <;> omega)) | (refine Fit.range0 ?_ ?_ <;> (simp only [lnE] <;> omega)) | fail)) only [syA, syB, argFr, D, E, T, C, undefv, eqF, aeq, sheqs, sheq, rdCells, cellsOf, fill, putAt, if_true, if_false, reduceIte, ↓reduceIte, reduceCtorEq, eq_self, Nat.reduceEqDiff, Nat.reduceAdd, Nat.reduceSub, Nat.reduceMul, Nat.reduceLT, Nat.reduceLeDiff, Nat.reducePow, Nat.reduceDiv, Nat.reduceMod, Int.reduceLT, Int.reduceLE, Int.reduceGT, Int.reduceGE, Int.reduceToNat, Int.reducePow, Int.reduceNeg, Int.reduceBEq, Int.reduceBNe, Int.reduceEq, Int.reduceAdd, Int.reduceSub, Int.reduceMul, cellv, sc, flatv, refs, refsF, refsC, hF.not0, hF.not1, hF.up0, hF.up1]
end LtA
end Go.Proofs.Ytlphmnhkkhcjfaa
end
