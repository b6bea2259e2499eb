/-
  LENGTH TABLES: the reference's way of a bit, on the abstract machine. Conditions: none.
-/
import Derived.Test.YtlphmnhkkhcjfaaLtS
import Derived.Test.YtlphmnhkkhcjfaaLtT
set_option linter.all false
section
namespace Go.Proofs.Ytlphmnhkkhcjfaa
namespace LtA
open Go Go.RowKit AM ArEnv Bt
variable {hp : List Blk} {L : Nat} {H d : List Nat}

def wyF (c : Ts) (b : Nat) : Ts := if c.bits = 5 ∧ (nextF c b).2 = false then { c with bits := 4 } else (nextF c b).1
theorem wyF_ok {c : Ts} {b : Nat} (h : (nextF c b).2 = true) : wyF c b = (nextF c b).1 := by unfold wyF; rw [if_neg (by rw [h]; simp)]
theorem wyF_len {c : Ts} {b : Nat} (h : c.l.length = 258) : (wyF c b).l.length = 258 := by
  unfold wyF
  split
  · exact h
  · exact nextF_len h b
theorem way_first {c : Ts} (h : c.l.length = 258) (hb : 0 ≤ c.bits ∧ c.bits < 4) (hn : 0 ≤ c.now ∧ c.now ≤ 100) {bit : Int} (hbit : bit = 0 ∨ bit = 1) (hF : Fit hp.length L H) :
    Lrun env (.func 55) [.agg (tsC c).toArray, .int .i64 bit] ⟨hp, L, H, d⟩ = some (.tuple #[.agg (tsC { c with now := c.now * 2 + bit, bits := c.bits + 1 }).toArray, .bool true], ⟨hp, L, H, d⟩) := by
  rw [Lrun_sym 55 _ _ fn55]
  have e262 := tsC_length h
  have hz : (tsC z0).length = 262 := tsC_length (c := z0) zs_length
  have z0q : u8s zs ++ [.int .i64 0, .int .i64 0, .int .i64 0, .int .i64 0] = tsC z0 := rfl
  obtain ⟨c1, hc1⟩ : ∃ c1, c1 = { c with now := c.now * 2 + bit } := ⟨_, rfl⟩
  obtain ⟨c2, hc2⟩ : ∃ c2 : Ts, c2 = { c1 with bits := c.bits + 1 } := ⟨_, rfl⟩
  have hl1 : c1.l.length = 258 := by rw [hc1]; exact h
  have hl2 : c2.l.length = 258 := by rw [hc2]; exact hl1
  have hmul : 2 * c.now + bit = c.now * 2 + bit := by omega
  have s1 : (tsC c).set 260 (.int .i64 (c.now * 2 + bit)) = tsC c1 := by rw [set_now h, hc1]
  have s2 : (tsC c1).set 259 (.int .i64 (c.bits + 1)) = tsC c2 := by rw [set_bits hl1, hc2]
  have r : ({ c with now := c.now * 2 + bit, bits := c.bits + 1 } : Ts) = c2 := by rw [hc2, hc1]
  have p2 : putAt (tsC z0) 0 (tsC c2) = tsC c2 := putAt_full (by rw [tsC_length hl2, hz])
  have tb := tsC_bits h
  have tb1 := tsC_bits hl1
  have hb1 : c1.bits = c.bits := by rw [hc1]
  rw [hb1] at tb1
  rw [r]
  rcases (by omega : c.bits = 0 ∨ c.bits = 1 ∨ c.bits = 2 ∨ c.bits = 3) with e | e | e | e <;> rw [e] at tb tb1 s2 <;> simp only [Int.reduceAdd] at s2
  · simp (disch := (first | omega | (simp only [lnE] <;> omega) | (refine Fit.mono ‹Fit _ _ _› ?_ <;> (simp only [lnE] <;> omega)) | (refine Fit.draw ‹Fit _ _ _› ?_ ?_ <;> (simp only [lnE] <;> omega)) | (refine Fit.hid1 ‹Fit _ _ _› ?_ ?_ <;> (simp only [lnE] <;> omega)) | (refine Fit.hidc1 ‹Fit _ _ _› ?_ ?_ <;> (simp only [lnE] <;> omega)) | (refine Fit.hidc2 ‹Fit _ _ _› ?_ ?_ ?_ <;> (simp only [lnE] <;> omega)) | (refine Fit.draw1 ‹Fit _ _ _› ?_ ?_ ?_ <;> (simp only [lnE] <;> omega)) | (refine Fit.range0 ?_ ?_ <;> (simp only [lnE] <;> omega)) | fail)) only [syA, syB, argFr, D, E, T, C, undefv, eqF, aeq, sheqs, sheq, rdCells, cellsOf, fill, putAt, if_true, if_false, reduceIte, ↓reduceIte, reduceCtorEq, eq_self, Nat.reduceEqDiff, Nat.reduceAdd, Nat.reduceSub, Nat.reduceMul, Nat.reduceLT, Nat.reduceLeDiff, Nat.reducePow, Nat.reduceDiv, Nat.reduceMod, Int.reduceLT, Int.reduceLE, Int.reduceGT, Int.reduceGE, Int.reduceToNat, Int.reducePow, Int.reduceNeg, Int.reduceBEq, Int.reduceBNe, Int.reduceEq, Int.reduceAdd, Int.reduceSub, Int.reduceMul, cellv, sc, flatv, refs, refsF, refsC, hF.not0, hF.not1, hF.up0, hF.up1, ac55, tsC_refs, tsC_cellv, tsC_sc, tsC_sym h, tb, tb1, tsC_now h, tsC_way h, hmul, e262, hz, zs_eq, z0q, s1, s2, p2, tsC_take hl2, tsC_length hl2, tsC_length hl1]
  · simp (disch := (first | omega | (simp only [lnE] <;> omega) | (refine Fit.mono ‹Fit _ _ _› ?_ <;> (simp only [lnE] <;> omega)) | (refine Fit.draw ‹Fit _ _ _› ?_ ?_ <;> (simp only [lnE] <;> omega)) | (refine Fit.hid1 ‹Fit _ _ _› ?_ ?_ <;> (simp only [lnE] <;> omega)) | (refine Fit.hidc1 ‹Fit _ _ _› ?_ ?_ <;> (simp only [lnE] <;> omega)) | (refine Fit.hidc2 ‹Fit _ _ _› ?_ ?_ ?_ <;> (simp only [lnE] <;> omega)) | (refine Fit.draw1 ‹Fit _ _ _› ?_ ?_ ?_ <;> (simp only [lnE] <;> omega)) | (refine Fit.range0 ?_ ?_ <;> (simp only [lnE] <;> omega)) | fail)) only [syA, syB, argFr, D, E, T, C, undefv, eqF, aeq, sheqs, sheq, rdCells, cellsOf, fill, putAt, if_true, if_false, reduceIte, ↓reduceIte, reduceCtorEq, eq_self, Nat.reduceEqDiff, Nat.reduceAdd, Nat.reduceSub, Nat.reduceMul, Nat.reduceLT, Nat.reduceLeDiff, Nat.reducePow, Nat.reduceDiv, Nat.reduceMod, Int.reduceLT, Int.reduceLE, Int.reduceGT, Int.reduceGE, Int.reduceToNat, Int.reducePow, Int.reduceNeg, Int.reduceBEq, Int.reduceBNe, Int.reduceEq, Int.reduceAdd, Int.reduceSub, Int.reduceMul, cellv, sc, flatv, refs, refsF, refsC, hF.not0, hF.not1, hF.up0, hF.up1, ac55, tsC_refs, tsC_cellv, tsC_sc, tsC_sym h, tb, tb1, tsC_now h, tsC_way h, hmul, e262, hz, zs_eq, z0q, s1, s2, p2, tsC_take hl2, tsC_length hl2, tsC_length hl1]
  · simp (disch := (first | omega | (simp only [lnE] <;> omega) | (refine Fit.mono ‹Fit _ _ _› ?_ <;> (simp only [lnE] <;> omega)) | (refine Fit.draw ‹Fit _ _ _› ?_ ?_ <;> (simp only [lnE] <;> omega)) | (refine Fit.hid1 ‹Fit _ _ _› ?_ ?_ <;> (simp only [lnE] <;> omega)) | (refine Fit.hidc1 ‹Fit _ _ _› ?_ ?_ <;> (simp only [lnE] <;> omega)) | (refine Fit.hidc2 ‹Fit _ _ _› ?_ ?_ ?_ <;> (simp only [lnE] <;> omega)) | (refine Fit.draw1 ‹Fit _ _ _› ?_ ?_ ?_ <;> (simp only [lnE] <;> omega)) | (refine Fit.range0 ?_ ?_ <;> (simp only [lnE] <;> omega)) | fail)) only [syA, syB, argFr, D, E, T, C, undefv, eqF, aeq, sheqs, sheq, rdCells, cellsOf, fill, putAt, if_true, if_false, reduceIte, ↓reduceIte, reduceCtorEq, eq_self, Nat.reduceEqDiff, Nat.reduceAdd, Nat.reduceSub, Nat.reduceMul, Nat.reduceLT, Nat.reduceLeDiff, Nat.reducePow, Nat.reduceDiv, Nat.reduceMod, Int.reduceLT, Int.reduceLE, Int.reduceGT, Int.reduceGE, Int.reduceToNat, Int.reducePow, Int.reduceNeg, Int.reduceBEq, Int.reduceBNe, Int.reduceEq, Int.reduceAdd, Int.reduceSub, Int.reduceMul, cellv, sc, flatv, refs, refsF, refsC, hF.not0, hF.not1, hF.up0, hF.up1, ac55, tsC_refs, tsC_cellv, tsC_sc, tsC_sym h, tb, tb1, tsC_now h, tsC_way h, hmul, e262, hz, zs_eq, z0q, s1, s2, p2, tsC_take hl2, tsC_length hl2, tsC_length hl1]
  · simp (disch := (first | omega | (simp only [lnE] <;> omega) | (refine Fit.mono ‹Fit _ _ _› ?_ <;> (simp only [lnE] <;> omega)) | (refine Fit.draw ‹Fit _ _ _› ?_ ?_ <;> (simp only [lnE] <;> omega)) | (refine Fit.hid1 ‹Fit _ _ _› ?_ ?_ <;> (simp only [lnE] <;> omega)) | (refine Fit.hidc1 ‹Fit _ _ _› ?_ ?_ <;> (simp only [lnE] <;> omega)) | (refine Fit.hidc2 ‹Fit _ _ _› ?_ ?_ ?_ <;> (simp only [lnE] <;> omega)) | (refine Fit.draw1 ‹Fit _ _ _› ?_ ?_ ?_ <;> (simp only [lnE] <;> omega)) | (refine Fit.range0 ?_ ?_ <;> (simp only [lnE] <;> omega)) | fail)) only [syA, syB, argFr, D, E, T, C, undefv, eqF, aeq, sheqs, sheq, rdCells, cellsOf, fill, putAt, if_true, if_false, reduceIte, ↓reduceIte, reduceCtorEq, eq_self, Nat.reduceEqDiff, Nat.reduceAdd, Nat.reduceSub, Nat.reduceMul, Nat.reduceLT, Nat.reduceLeDiff, Nat.reducePow, Nat.reduceDiv, Nat.reduceMod, Int.reduceLT, Int.reduceLE, Int.reduceGT, Int.reduceGE, Int.reduceToNat, Int.reducePow, Int.reduceNeg, Int.reduceBEq, Int.reduceBNe, Int.reduceEq, Int.reduceAdd, Int.reduceSub, Int.reduceMul, cellv, sc, flatv, refs, refsF, refsC, hF.not0, hF.not1, hF.up0, hF.up1, ac55, tsC_refs, tsC_cellv, tsC_sc, tsC_sym h, tb, tb1, tsC_now h, tsC_way h, hmul, e262, hz, zs_eq, z0q, s1, s2, p2, tsC_take hl2, tsC_length hl2, tsC_length hl1]
theorem way_mark {c : Ts} (h : c.l.length = 258) (hb : c.bits = 4) (hF : Fit hp.length L H) :
    Lrun env (.func 55) [.agg (tsC c).toArray, .int .i64 1] ⟨hp, L, H, d⟩ = some (.tuple #[.agg (tsC { c with bits := 5 }).toArray, .bool true], ⟨hp, L, H, d⟩) := by
  rw [Lrun_sym 55 _ _ fn55]
  have e262 := tsC_length h
  have hz : (tsC z0).length = 262 := tsC_length (c := z0) zs_length
  have z0q : u8s zs ++ [.int .i64 0, .int .i64 0, .int .i64 0, .int .i64 0] = tsC z0 := rfl
  obtain ⟨c2, hc2⟩ : ∃ c2 : Ts, c2 = { c with bits := 5 } := ⟨_, rfl⟩
  have hl2 : c2.l.length = 258 := by rw [hc2]; exact h
  have s2 : (tsC c).set 259 (.int .i64 5) = tsC c2 := by rw [set_bits h, hc2]
  have p2 : putAt (tsC z0) 0 (tsC c2) = tsC c2 := putAt_full (by rw [tsC_length hl2, hz])
  have tb := tsC_bits h
  rw [hb] at tb
  rw [← hc2]
  simp (disch := (first | omega | (simp only [lnE] <;> omega) | (refine Fit.mono ‹Fit _ _ _› ?_ <;> (simp only [lnE] <;> omega)) | (refine Fit.draw ‹Fit _ _ _› ?_ ?_ <;> (simp only [lnE] <;> omega)) | (refine Fit.hid1 ‹Fit _ _ _› ?_ ?_ <;> (simp only [lnE] <;> omega)) | (refine Fit.hidc1 ‹Fit _ _ _› ?_ ?_ <;> (simp only [lnE] <;> omega)) | (refine Fit.hidc2 ‹Fit _ _ _› ?_ ?_ ?_ <;> (simp only [lnE] <;> omega)) | (refine Fit.draw1 ‹Fit _ _ _› ?_ ?_ ?_ <;> (simp only [lnE] <;> omega)) | (refine Fit.range0 ?_ ?_ <;> (simp only [lnE] <;> omega)) | fail)) only [syA, syB, argFr, D, E, T, C, undefv, eqF, aeq, sheqs, sheq, rdCells, cellsOf, fill, putAt, if_true, if_false, reduceIte, ↓reduceIte, reduceCtorEq, eq_self, Nat.reduceEqDiff, Nat.reduceAdd, Nat.reduceSub, Nat.reduceMul, Nat.reduceLT, Nat.reduceLeDiff, Nat.reducePow, Nat.reduceDiv, Nat.reduceMod, Int.reduceLT, Int.reduceLE, Int.reduceGT, Int.reduceGE, Int.reduceToNat, Int.reducePow, Int.reduceNeg, Int.reduceBEq, Int.reduceBNe, Int.reduceEq, Int.reduceAdd, Int.reduceSub, Int.reduceMul, cellv, sc, flatv, refs, refsF, refsC, hF.not0, hF.not1, hF.up0, hF.up1, ac55, tsC_refs, tsC_cellv, tsC_sc, tsC_sym h, tb, tsC_now h, tsC_way h, e262, hz, zs_eq, z0q, s2, p2, tsC_take hl2, tsC_length hl2]
theorem way_done {c : Ts} (h : c.l.length = 258) (h8 : By c.l) {k n : Nat} (hs : c.sym = k) (hk : k < 258) (hn : c.now = n) (hn15 : n ≤ 15) (hb : c.bits = 4) (hF : Fit hp.length L H) :
    Lrun env (.func 55) [.agg (tsC c).toArray, .int .i64 0] ⟨hp, L, H, d⟩ = some (.tuple #[.agg (tsC { c with l := c.l.set k n, sym := (k : Int) + 1, way := 0 }).toArray, .bool (decide (k + 1 < 258) || kTable (c.l.set k n))], ⟨hp, L, H, d⟩) := by
  rw [Lrun_sym 55 _ _ fn55]
  have e262 := tsC_length h
  have hz : (tsC z0).length = 262 := tsC_length (c := z0) zs_length
  have z0q : u8s zs ++ [.int .i64 0, .int .i64 0, .int .i64 0, .int .i64 0] = tsC z0 := rfl
  obtain ⟨c0, hc0⟩ : ∃ c0 : Ts, c0 = { c with l := c.l.set k n } := ⟨_, rfl⟩
  obtain ⟨c1, hc1⟩ : ∃ c1 : Ts, c1 = { c0 with sym := (k : Int) + 1 } := ⟨_, rfl⟩
  obtain ⟨c2, hc2⟩ : ∃ c2 : Ts, c2 = { c1 with way := 0 } := ⟨_, rfl⟩
  have hl0 : c0.l.length = 258 := by rw [hc0]; simpa using h
  have hl1 : c1.l.length = 258 := by rw [hc1]; exact hl0
  have hl2 : c2.l.length = 258 := by rw [hc2]; exact hl1
  have s0 : (tsC c).set k (.int .u8 (n : Int)) = tsC c0 := by rw [set_len h hk, hc0]
  have s1 : (tsC c0).set 258 (.int .i64 ((k : Int) + 1)) = tsC c1 := by rw [set_sym hl0, hc1]
  have s2 : (tsC c1).set 261 (.int .i64 0) = tsC c2 := by rw [set_way hl1, hc2]
  have r : ({ c with l := c.l.set k n, sym := (k : Int) + 1, way := 0 } : Ts) = c2 := by rw [hc2, hc1, hc0]
  have p2 : putAt (tsC z0) 0 (tsC c2) = tsC c2 := putAt_full (by rw [tsC_length hl2, hz])
  have tb := tsC_bits h
  rw [hb] at tb
  have ty := tsC_sym h
  rw [hs] at ty
  have tn := tsC_now h
  rw [hn] at tn
  have ty0 := tsC_sym hl0
  rw [show c0.sym = (k : Int) by rw [hc0]; exact hs] at ty0
  have ty2 := tsC_sym hl2
  rw [show c2.sym = (k : Int) + 1 by rw [hc2, hc1]] at ty2
  have el : c2.l = c.l.set k n := by rw [hc2, hc1, hc0]
  have h82 : By c2.l := fun x hx => by
    rw [el] at hx
    rcases List.mem_or_eq_of_mem_set hx with h1 | h1
    · exact h8 x h1
    · omega
  have ht := fun hp L H d hF => rtable_walk (hp := hp) (L := L) (H := H) (d := d) hl2 h82 hF
  have hlens := tsC_lens hl2
  have i0 : (0 : Int) ≤ (k : Int) := by omega
  have i1 : (k : Int) < 258 := by omega
  have tk : ((k : Int)).toNat = k := by omega
  have k261 : k ≤ 261 := by omega
  rw [r, ← el]
  by_cases hlast : k + 1 < 258
  · have hl' : (k : Int) + 1 < 258 := by omega
    rw [decide_eq_true hlast, Bool.true_or]
    simp (disch := (first | omega | (simp only [lnE] <;> omega) | (refine Fit.mono ‹Fit _ _ _› ?_ <;> (simp only [lnE] <;> omega)) | (refine Fit.draw ‹Fit _ _ _› ?_ ?_ <;> (simp only [lnE] <;> omega)) | (refine Fit.hid1 ‹Fit _ _ _› ?_ ?_ <;> (simp only [lnE] <;> omega)) | (refine Fit.hidc1 ‹Fit _ _ _› ?_ ?_ <;> (simp only [lnE] <;> omega)) | (refine Fit.hidc2 ‹Fit _ _ _› ?_ ?_ ?_ <;> (simp only [lnE] <;> omega)) | (refine Fit.draw1 ‹Fit _ _ _› ?_ ?_ ?_ <;> (simp only [lnE] <;> omega)) | (refine Fit.range0 ?_ ?_ <;> (simp only [lnE] <;> omega)) | fail)) only [syA, syB, argFr, D, E, T, C, undefv, eqF, aeq, sheqs, sheq, rdCells, cellsOf, fill, putAt, if_true, if_false, reduceIte, ↓reduceIte, reduceCtorEq, eq_self, Nat.reduceEqDiff, Nat.reduceAdd, Nat.reduceSub, Nat.reduceMul, Nat.reduceLT, Nat.reduceLeDiff, Nat.reducePow, Nat.reduceDiv, Nat.reduceMod, Int.reduceLT, Int.reduceLE, Int.reduceGT, Int.reduceGE, Int.reduceToNat, Int.reducePow, Int.reduceNeg, Int.reduceBEq, Int.reduceBNe, Int.reduceEq, Int.reduceAdd, Int.reduceSub, Int.reduceMul, cellv, sc, flatv, refs, refsF, refsC, hF.not0, hF.not1, hF.up0, hF.up1, ac55, tsC_refs, tsC_cellv, tsC_sc, ty, tb, tn, ty0, ty2, tsC_way h, hl', i0, i1, tk, k261, e262, hz, zs_eq, z0q, s0, s1, s2, p2, tsC_take hl2, tsC_length hl2, tsC_length hl1, tsC_length hl0]
  · have hl' : ¬ (k : Int) + 1 < 258 := by omega
    rw [decide_eq_false hlast, Bool.false_or]
    simp (disch := (first | omega | (simp only [lnE] <;> omega) | (refine Fit.mono ‹Fit _ _ _› ?_ <;> (simp only [lnE] <;> omega)) | (refine Fit.draw ‹Fit _ _ _› ?_ ?_ <;> (simp only [lnE] <;> omega)) | (refine Fit.hid1 ‹Fit _ _ _› ?_ ?_ <;> (simp only [lnE] <;> omega)) | (refine Fit.hidc1 ‹Fit _ _ _› ?_ ?_ <;> (simp only [lnE] <;> omega)) | (refine Fit.hidc2 ‹Fit _ _ _› ?_ ?_ ?_ <;> (simp only [lnE] <;> omega)) | (refine Fit.draw1 ‹Fit _ _ _› ?_ ?_ ?_ <;> (simp only [lnE] <;> omega)) | (refine Fit.range0 ?_ ?_ <;> (simp only [lnE] <;> omega)) | fail)) only [syA, syB, argFr, D, E, T, C, undefv, eqF, aeq, sheqs, sheq, rdCells, cellsOf, fill, putAt, if_true, if_false, reduceIte, ↓reduceIte, reduceCtorEq, eq_self, Nat.reduceEqDiff, Nat.reduceAdd, Nat.reduceSub, Nat.reduceMul, Nat.reduceLT, Nat.reduceLeDiff, Nat.reducePow, Nat.reduceDiv, Nat.reduceMod, Int.reduceLT, Int.reduceLE, Int.reduceGT, Int.reduceGE, Int.reduceToNat, Int.reducePow, Int.reduceNeg, Int.reduceBEq, Int.reduceBNe, Int.reduceEq, Int.reduceAdd, Int.reduceSub, Int.reduceMul, cellv, sc, flatv, refs, refsF, refsC, hF.not0, hF.not1, hF.up0, hF.up1, ac55, tsC_refs, tsC_cellv, tsC_sc, ty, tb, tn, ty0, ty2, tsC_way h, hl', i0, i1, tk, k261, e262, hz, zs_eq, z0q, s0, s1, s2, p2, tsC_take hl2, tsC_length hl2, tsC_length hl1, tsC_length hl0, hlens, ht]
theorem way_up {c : Ts} (h : c.l.length = 258) (hb : c.bits = 5) (hn : 0 ≤ c.now ∧ c.now ≤ 15) (hF : Fit hp.length L H) :
    Lrun env (.func 55) [.agg (tsC c).toArray, .int .i64 0] ⟨hp, L, H, d⟩ = some (.tuple #[.agg (tsC (wyF c 0)).toArray, .bool (nextF c 0).2], ⟨hp, L, H, d⟩) := by
  rw [Lrun_sym 55 _ _ fn55]
  have e262 := tsC_length h
  have hz : (tsC z0).length = 262 := tsC_length (c := z0) zs_length
  have z0q : u8s zs ++ [.int .i64 0, .int .i64 0, .int .i64 0, .int .i64 0] = tsC z0 := rfl
  obtain ⟨c0, hc0⟩ : ∃ c0 : Ts, c0 = { c with bits := 4 } := ⟨_, rfl⟩
  obtain ⟨c1, hc1⟩ : ∃ c1 : Ts, c1 = { c0 with now := c.now + 1 } := ⟨_, rfl⟩
  obtain ⟨c2, hc2⟩ : ∃ c2 : Ts, c2 = { c1 with way := 1 } := ⟨_, rfl⟩
  have hl0 : c0.l.length = 258 := by rw [hc0]; exact h
  have hl1 : c1.l.length = 258 := by rw [hc1]; exact hl0
  have hl2 : c2.l.length = 258 := by rw [hc2]; exact hl1
  have s0 : (tsC c).set 259 (.int .i64 4) = tsC c0 := by rw [set_bits h, hc0]
  have s1 : (tsC c0).set 260 (.int .i64 (c.now + 1)) = tsC c1 := by rw [set_now hl0, hc1]
  have s2 : (tsC c1).set 261 (.int .i64 1) = tsC c2 := by rw [set_way hl1, hc2]
  have p0 : putAt (tsC z0) 0 (tsC c0) = tsC c0 := putAt_full (by rw [tsC_length hl0, hz])
  have p2 : putAt (tsC z0) 0 (tsC c2) = tsC c2 := putAt_full (by rw [tsC_length hl2, hz])
  have tb := tsC_bits h
  rw [hb] at tb
  have tn0 := tsC_now hl0
  rw [show c0.now = c.now by rw [hc0]] at tn0
  have tw0 := tsC_way hl0
  rw [show c0.way = c.way by rw [hc0]] at tw0
  have hnx : nextF c 0 = (c2, decide (c.way ≠ 2) && decide (c.now < 15)) := by
    unfold nextF
    rw [if_neg (by omega), if_neg (by omega), if_pos rfl, hc2, hc1, hc0]
  have hwf : wyF c 0 = if (decide (c.way ≠ 2) && decide (c.now < 15)) = false then c0 else c2 := by
    unfold wyF
    rw [hnx, hc0]
    simp only [hb, true_and]
  rw [hnx, hwf]
  by_cases hw : c.way = 2
  · rw [hw] at tw0
    simp only [hw, ne_eq, not_true_eq_false, decide_false, Bool.false_and, if_true]
    simp (disch := (first | omega | (simp only [lnE] <;> omega) | (refine Fit.mono ‹Fit _ _ _› ?_ <;> (simp only [lnE] <;> omega)) | (refine Fit.draw ‹Fit _ _ _› ?_ ?_ <;> (simp only [lnE] <;> omega)) | (refine Fit.hid1 ‹Fit _ _ _› ?_ ?_ <;> (simp only [lnE] <;> omega)) | (refine Fit.hidc1 ‹Fit _ _ _› ?_ ?_ <;> (simp only [lnE] <;> omega)) | (refine Fit.hidc2 ‹Fit _ _ _› ?_ ?_ ?_ <;> (simp only [lnE] <;> omega)) | (refine Fit.draw1 ‹Fit _ _ _› ?_ ?_ ?_ <;> (simp only [lnE] <;> omega)) | (refine Fit.range0 ?_ ?_ <;> (simp only [lnE] <;> omega)) | fail)) only [syA, syB, argFr, D, E, T, C, undefv, eqF, aeq, sheqs, sheq, rdCells, cellsOf, fill, putAt, if_true, if_false, reduceIte, ↓reduceIte, reduceCtorEq, eq_self, Nat.reduceEqDiff, Nat.reduceAdd, Nat.reduceSub, Nat.reduceMul, Nat.reduceLT, Nat.reduceLeDiff, Nat.reducePow, Nat.reduceDiv, Nat.reduceMod, Int.reduceLT, Int.reduceLE, Int.reduceGT, Int.reduceGE, Int.reduceToNat, Int.reducePow, Int.reduceNeg, Int.reduceBEq, Int.reduceBNe, Int.reduceEq, Int.reduceAdd, Int.reduceSub, Int.reduceMul, cellv, sc, flatv, refs, refsF, refsC, hF.not0, hF.not1, hF.up0, hF.up1, ac55, tsC_refs, tsC_cellv, tsC_sc, tb, tn0, tw0, e262, hz, zs_eq, z0q, s0, s1, s2, p0, p2, tsC_take hl0, tsC_take hl2, tsC_length hl2, tsC_length hl1, tsC_length hl0]
  · by_cases hn15 : c.now = 15
    · rw [hn15] at tn0
      have e : (decide (c.way ≠ 2) && decide (c.now < 15)) = false := by rw [decide_eq_false (by omega : ¬ c.now < 15), Bool.and_false]
      rw [e, if_pos rfl]
      simp (disch := (first | omega | (simp only [lnE] <;> omega) | (refine Fit.mono ‹Fit _ _ _› ?_ <;> (simp only [lnE] <;> omega)) | (refine Fit.draw ‹Fit _ _ _› ?_ ?_ <;> (simp only [lnE] <;> omega)) | (refine Fit.hid1 ‹Fit _ _ _› ?_ ?_ <;> (simp only [lnE] <;> omega)) | (refine Fit.hidc1 ‹Fit _ _ _› ?_ ?_ <;> (simp only [lnE] <;> omega)) | (refine Fit.hidc2 ‹Fit _ _ _› ?_ ?_ ?_ <;> (simp only [lnE] <;> omega)) | (refine Fit.draw1 ‹Fit _ _ _› ?_ ?_ ?_ <;> (simp only [lnE] <;> omega)) | (refine Fit.range0 ?_ ?_ <;> (simp only [lnE] <;> omega)) | fail)) only [syA, syB, argFr, D, E, T, C, undefv, eqF, aeq, sheqs, sheq, rdCells, cellsOf, fill, putAt, if_true, if_false, reduceIte, ↓reduceIte, reduceCtorEq, eq_self, Nat.reduceEqDiff, Nat.reduceAdd, Nat.reduceSub, Nat.reduceMul, Nat.reduceLT, Nat.reduceLeDiff, Nat.reducePow, Nat.reduceDiv, Nat.reduceMod, Int.reduceLT, Int.reduceLE, Int.reduceGT, Int.reduceGE, Int.reduceToNat, Int.reducePow, Int.reduceNeg, Int.reduceBEq, Int.reduceBNe, Int.reduceEq, Int.reduceAdd, Int.reduceSub, Int.reduceMul, cellv, sc, flatv, refs, refsF, refsC, hF.not0, hF.not1, hF.up0, hF.up1, ac55, tsC_refs, tsC_cellv, tsC_sc, tb, tn0, tw0, hw, e262, hz, zs_eq, z0q, s0, s1, s2, p0, p2, tsC_take hl0, tsC_take hl2, tsC_length hl2, tsC_length hl1, tsC_length hl0]
    · have e : (decide (c.way ≠ 2) && decide (c.now < 15)) = true := by simp [hw]; omega
      rw [e, if_neg (by simp)]
      simp (disch := (first | omega | (simp only [lnE] <;> omega) | (refine Fit.mono ‹Fit _ _ _› ?_ <;> (simp only [lnE] <;> omega)) | (refine Fit.draw ‹Fit _ _ _› ?_ ?_ <;> (simp only [lnE] <;> omega)) | (refine Fit.hid1 ‹Fit _ _ _› ?_ ?_ <;> (simp only [lnE] <;> omega)) | (refine Fit.hidc1 ‹Fit _ _ _› ?_ ?_ <;> (simp only [lnE] <;> omega)) | (refine Fit.hidc2 ‹Fit _ _ _› ?_ ?_ ?_ <;> (simp only [lnE] <;> omega)) | (refine Fit.draw1 ‹Fit _ _ _› ?_ ?_ ?_ <;> (simp only [lnE] <;> omega)) | (refine Fit.range0 ?_ ?_ <;> (simp only [lnE] <;> omega)) | fail)) only [syA, syB, argFr, D, E, T, C, undefv, eqF, aeq, sheqs, sheq, rdCells, cellsOf, fill, putAt, if_true, if_false, reduceIte, ↓reduceIte, reduceCtorEq, eq_self, Nat.reduceEqDiff, Nat.reduceAdd, Nat.reduceSub, Nat.reduceMul, Nat.reduceLT, Nat.reduceLeDiff, Nat.reducePow, Nat.reduceDiv, Nat.reduceMod, Int.reduceLT, Int.reduceLE, Int.reduceGT, Int.reduceGE, Int.reduceToNat, Int.reducePow, Int.reduceNeg, Int.reduceBEq, Int.reduceBNe, Int.reduceEq, Int.reduceAdd, Int.reduceSub, Int.reduceMul, cellv, sc, flatv, refs, refsF, refsC, hF.not0, hF.not1, hF.up0, hF.up1, ac55, tsC_refs, tsC_cellv, tsC_sc, tb, tn0, tw0, hw, hn15, e262, hz, zs_eq, z0q, s0, s1, s2, p0, p2, tsC_take hl0, tsC_take hl2, tsC_length hl2, tsC_length hl1, tsC_length hl0]
theorem way_down {c : Ts} (h : c.l.length = 258) (hb : c.bits = 5) (hn : 0 ≤ c.now ∧ c.now ≤ 15) (hF : Fit hp.length L H) :
    Lrun env (.func 55) [.agg (tsC c).toArray, .int .i64 1] ⟨hp, L, H, d⟩ = some (.tuple #[.agg (tsC (wyF c 1)).toArray, .bool (nextF c 1).2], ⟨hp, L, H, d⟩) := by
  rw [Lrun_sym 55 _ _ fn55]
  have e262 := tsC_length h
  have hz : (tsC z0).length = 262 := tsC_length (c := z0) zs_length
  have z0q : u8s zs ++ [.int .i64 0, .int .i64 0, .int .i64 0, .int .i64 0] = tsC z0 := rfl
  obtain ⟨c0, hc0⟩ : ∃ c0 : Ts, c0 = { c with bits := 4 } := ⟨_, rfl⟩
  obtain ⟨c1, hc1⟩ : ∃ c1 : Ts, c1 = { c0 with now := c.now - 1 } := ⟨_, rfl⟩
  obtain ⟨c2, hc2⟩ : ∃ c2 : Ts, c2 = { c1 with way := 2 } := ⟨_, rfl⟩
  have hl0 : c0.l.length = 258 := by rw [hc0]; exact h
  have hl1 : c1.l.length = 258 := by rw [hc1]; exact hl0
  have hl2 : c2.l.length = 258 := by rw [hc2]; exact hl1
  have s0 : (tsC c).set 259 (.int .i64 4) = tsC c0 := by rw [set_bits h, hc0]
  have s1 : (tsC c0).set 260 (.int .i64 (c.now - 1)) = tsC c1 := by rw [set_now hl0, hc1]
  have s2 : (tsC c1).set 261 (.int .i64 2) = tsC c2 := by rw [set_way hl1, hc2]
  have p0 : putAt (tsC z0) 0 (tsC c0) = tsC c0 := putAt_full (by rw [tsC_length hl0, hz])
  have p2 : putAt (tsC z0) 0 (tsC c2) = tsC c2 := putAt_full (by rw [tsC_length hl2, hz])
  have tb := tsC_bits h
  rw [hb] at tb
  have tn0 := tsC_now hl0
  rw [show c0.now = c.now by rw [hc0]] at tn0
  have tw0 := tsC_way hl0
  rw [show c0.way = c.way by rw [hc0]] at tw0
  have hnx : nextF c 1 = (c2, decide (c.way ≠ 1) && decide (c.now > 0)) := by
    unfold nextF
    rw [if_neg (by omega), if_neg (by omega), if_neg (by decide), hc2, hc1, hc0]
  have hwf : wyF c 1 = if (decide (c.way ≠ 1) && decide (c.now > 0)) = false then c0 else c2 := by
    unfold wyF
    rw [hnx, hc0]
    simp only [hb, true_and]
  rw [hnx, hwf]
  by_cases hw : c.way = 1
  · rw [hw] at tw0
    simp only [hw, ne_eq, not_true_eq_false, decide_false, Bool.false_and, if_true]
    simp (disch := (first | omega | (simp only [lnE] <;> omega) | (refine Fit.mono ‹Fit _ _ _› ?_ <;> (simp only [lnE] <;> omega)) | (refine Fit.draw ‹Fit _ _ _› ?_ ?_ <;> (simp only [lnE] <;> omega)) | (refine Fit.hid1 ‹Fit _ _ _› ?_ ?_ <;> (simp only [lnE] <;> omega)) | (refine Fit.hidc1 ‹Fit _ _ _› ?_ ?_ <;> (simp only [lnE] <;> omega)) | (refine Fit.hidc2 ‹Fit _ _ _› ?_ ?_ ?_ <;> (simp only [lnE] <;> omega)) | (refine Fit.draw1 ‹Fit _ _ _› ?_ ?_ ?_ <;> (simp only [lnE] <;> omega)) | (refine Fit.range0 ?_ ?_ <;> (simp only [lnE] <;> omega)) | fail)) only [syA, syB, argFr, D, E, T, C, undefv, eqF, aeq, sheqs, sheq, rdCells, cellsOf, fill, putAt, if_true, if_false, reduceIte, ↓reduceIte, reduceCtorEq, eq_self, Nat.reduceEqDiff, Nat.reduceAdd, Nat.reduceSub, Nat.reduceMul, Nat.reduceLT, Nat.reduceLeDiff, Nat.reducePow, Nat.reduceDiv, Nat.reduceMod, Int.reduceLT, Int.reduceLE, Int.reduceGT, Int.reduceGE, Int.reduceToNat, Int.reducePow, Int.reduceNeg, Int.reduceBEq, Int.reduceBNe, Int.reduceEq, Int.reduceAdd, Int.reduceSub, Int.reduceMul, cellv, sc, flatv, refs, refsF, refsC, hF.not0, hF.not1, hF.up0, hF.up1, ac55, tsC_refs, tsC_cellv, tsC_sc, tb, tn0, tw0, e262, hz, zs_eq, z0q, s0, s1, s2, p0, p2, tsC_take hl0, tsC_take hl2, tsC_length hl2, tsC_length hl1, tsC_length hl0]
  · by_cases hn15 : c.now = 0
    · rw [hn15] at tn0
      have e : (decide (c.way ≠ 1) && decide (c.now > 0)) = false := by rw [decide_eq_false (by omega : ¬ c.now > 0), Bool.and_false]
      rw [e, if_pos rfl]
      simp (disch := (first | omega | (simp only [lnE] <;> omega) | (refine Fit.mono ‹Fit _ _ _› ?_ <;> (simp only [lnE] <;> omega)) | (refine Fit.draw ‹Fit _ _ _› ?_ ?_ <;> (simp only [lnE] <;> omega)) | (refine Fit.hid1 ‹Fit _ _ _› ?_ ?_ <;> (simp only [lnE] <;> omega)) | (refine Fit.hidc1 ‹Fit _ _ _› ?_ ?_ <;> (simp only [lnE] <;> omega)) | (refine Fit.hidc2 ‹Fit _ _ _› ?_ ?_ ?_ <;> (simp only [lnE] <;> omega)) | (refine Fit.draw1 ‹Fit _ _ _› ?_ ?_ ?_ <;> (simp only [lnE] <;> omega)) | (refine Fit.range0 ?_ ?_ <;> (simp only [lnE] <;> omega)) | fail)) only [syA, syB, argFr, D, E, T, C, undefv, eqF, aeq, sheqs, sheq, rdCells, cellsOf, fill, putAt, if_true, if_false, reduceIte, ↓reduceIte, reduceCtorEq, eq_self, Nat.reduceEqDiff, Nat.reduceAdd, Nat.reduceSub, Nat.reduceMul, Nat.reduceLT, Nat.reduceLeDiff, Nat.reducePow, Nat.reduceDiv, Nat.reduceMod, Int.reduceLT, Int.reduceLE, Int.reduceGT, Int.reduceGE, Int.reduceToNat, Int.reducePow, Int.reduceNeg, Int.reduceBEq, Int.reduceBNe, Int.reduceEq, Int.reduceAdd, Int.reduceSub, Int.reduceMul, cellv, sc, flatv, refs, refsF, refsC, hF.not0, hF.not1, hF.up0, hF.up1, ac55, tsC_refs, tsC_cellv, tsC_sc, tb, tn0, tw0, hw, e262, hz, zs_eq, z0q, s0, s1, s2, p0, p2, tsC_take hl0, tsC_take hl2, tsC_length hl2, tsC_length hl1, tsC_length hl0]
    · have e : (decide (c.way ≠ 1) && decide (c.now > 0)) = true := by simp [hw]; omega
      rw [e, if_neg (by simp)]
      simp (disch := (first | omega | (simp only [lnE] <;> omega) | (refine Fit.mono ‹Fit _ _ _› ?_ <;> (simp only [lnE] <;> omega)) | (refine Fit.draw ‹Fit _ _ _› ?_ ?_ <;> (simp only [lnE] <;> omega)) | (refine Fit.hid1 ‹Fit _ _ _› ?_ ?_ <;> (simp only [lnE] <;> omega)) | (refine Fit.hidc1 ‹Fit _ _ _› ?_ ?_ <;> (simp only [lnE] <;> omega)) | (refine Fit.hidc2 ‹Fit _ _ _› ?_ ?_ ?_ <;> (simp only [lnE] <;> omega)) | (refine Fit.draw1 ‹Fit _ _ _› ?_ ?_ ?_ <;> (simp only [lnE] <;> omega)) | (refine Fit.range0 ?_ ?_ <;> (simp only [lnE] <;> omega)) | fail)) only [syA, syB, argFr, D, E, T, C, undefv, eqF, aeq, sheqs, sheq, rdCells, cellsOf, fill, putAt, if_true, if_false, reduceIte, ↓reduceIte, reduceCtorEq, eq_self, Nat.reduceEqDiff, Nat.reduceAdd, Nat.reduceSub, Nat.reduceMul, Nat.reduceLT, Nat.reduceLeDiff, Nat.reducePow, Nat.reduceDiv, Nat.reduceMod, Int.reduceLT, Int.reduceLE, Int.reduceGT, Int.reduceGE, Int.reduceToNat, Int.reducePow, Int.reduceNeg, Int.reduceBEq, Int.reduceBNe, Int.reduceEq, Int.reduceAdd, Int.reduceSub, Int.reduceMul, cellv, sc, flatv, refs, refsF, refsC, hF.not0, hF.not1, hF.up0, hF.up1, ac55, tsC_refs, tsC_cellv, tsC_sc, tb, tn0, tw0, hw, hn15, e262, hz, zs_eq, z0q, s0, s1, s2, p0, p2, tsC_take hl0, tsC_take hl2, tsC_length hl2, tsC_length hl1, tsC_length hl0]
theorem way_walk {c : Ts} (o : TsOk c) {b : Nat} (hb : b < 2) (hF : Fit hp.length L H) :
    Lrun env (.func 55) [.agg (tsC c).toArray, .int .i64 b] ⟨hp, L, H, d⟩ = some (.tuple #[.agg (tsC (wyF c b)).toArray, .bool (nextF c b).2], ⟨hp, L, H, d⟩) := by
  have h := o.len
  have b0 := o.bits0
  have b1 := o.bits1
  have n0 := o.now0
  have n1 := o.now1
  have y0 := o.sym0
  have y1 := o.sym1
  by_cases c5 : c.bits = 5
  · by_cases c3 : b = 0
    · subst c3; exact way_up h c5 ⟨n0, n1⟩ hF
    · obtain rfl : b = 1 := by omega
      exact way_down h c5 ⟨n0, n1⟩ hF
  · have hw : wyF c b = (nextF c b).1 := by unfold wyF; rw [if_neg fun hh => c5 hh.1]
    rw [hw]
    unfold nextF
    by_cases c1 : c.bits < 4
    · rw [if_pos c1]
      exact way_first h ⟨b0, c1⟩ ⟨n0, by omega⟩ (by omega) hF
    · have c2 : c.bits = 4 := by omega
      rw [if_neg c1, if_pos c2]
      by_cases c3 : b = 0
      · subst c3
        rw [if_pos rfl]
        have := way_done (k := c.sym.toNat) (n := c.now.toNat) h o.by_ (by omega) (by omega) (by omega) (by omega) c2 hF (hp := hp) (L := L) (H := H) (d := d)
        rw [show ((c.sym.toNat : Nat) : Int) = c.sym by omega] at this
        rw [show decide (c.sym + 1 < 258) = decide (c.sym.toNat + 1 < 258) by rw [decide_eq_decide]; omega]
        exact this
      · obtain rfl : b = 1 := by omega
        rw [if_neg c3]
        exact way_mark h c2 hF
end LtA
end Go.Proofs.Ytlphmnhkkhcjfaa
end
