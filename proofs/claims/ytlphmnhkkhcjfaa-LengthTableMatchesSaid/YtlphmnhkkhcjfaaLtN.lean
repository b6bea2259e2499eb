/-
  LENGTH TABLES: a bit advances a state, on the abstract machine. Conditions: none.
-/
import Derived.Test.YtlphmnhkkhcjfaaLtK
set_option linter.all false
section
namespace Go.Proofs.Ytlphmnhkkhcjfaa
namespace LtA
open Go Go.RowKit AM ArEnv

/-- A state: the lengths so far, the symbol, where the bit lies, the length in progress, the direction. -/
structure Ts where
  l : List Nat
  sym : Int
  bits : Int
  now : Int
  way : Int
def tsC (c : Ts) : List Value := u8s c.l ++ [.int .i64 c.sym, .int .i64 c.bits, .int .i64 c.now, .int .i64 c.way]
def zs : List Nat := List.replicate 258 0
theorem tsC_length {c : Ts} (h : c.l.length = 258) : (tsC c).length = 262 := by simp [tsC, u8s_length, h]
theorem zeros_u8n (n : Nat) : List.replicate n (Value.int .u8 0) = u8s (List.replicate n 0) := by
  induction n with
  | zero => rfl
  | succ n ih => rw [List.replicate_succ, List.replicate_succ, ih]; rfl
theorem zs_length : zs.length = 258 := by unfold zs; exact List.length_replicate
theorem tsC_sym {c : Ts} (h : c.l.length = 258) : (tsC c)[258]? = some (.int .i64 c.sym) := by unfold tsC; rw [List.getElem?_append_right (by rw [u8s_length]; omega), u8s_length, h]; rfl
theorem tsC_bits {c : Ts} (h : c.l.length = 258) : (tsC c)[259]? = some (.int .i64 c.bits) := by unfold tsC; rw [List.getElem?_append_right (by rw [u8s_length]; omega), u8s_length, h]; rfl
theorem tsC_now {c : Ts} (h : c.l.length = 258) : (tsC c)[260]? = some (.int .i64 c.now) := by unfold tsC; rw [List.getElem?_append_right (by rw [u8s_length]; omega), u8s_length, h]; rfl
theorem tsC_way {c : Ts} (h : c.l.length = 258) : (tsC c)[261]? = some (.int .i64 c.way) := by unfold tsC; rw [List.getElem?_append_right (by rw [u8s_length]; omega), u8s_length, h]; rfl
theorem set_sym {c : Ts} (h : c.l.length = 258) (n : Int) : (tsC c).set 258 (.int .i64 n) = tsC { c with sym := n } := by
  unfold tsC; rw [List.set_append_right _ _ (by rw [u8s_length]; omega), u8s_length, h]; rfl
theorem set_bits {c : Ts} (h : c.l.length = 258) (n : Int) : (tsC c).set 259 (.int .i64 n) = tsC { c with bits := n } := by
  unfold tsC; rw [List.set_append_right _ _ (by rw [u8s_length]; omega), u8s_length, h]; rfl
theorem set_now {c : Ts} (h : c.l.length = 258) (n : Int) : (tsC c).set 260 (.int .i64 n) = tsC { c with now := n } := by
  unfold tsC; rw [List.set_append_right _ _ (by rw [u8s_length]; omega), u8s_length, h]; rfl
theorem set_way {c : Ts} (h : c.l.length = 258) (n : Int) : (tsC c).set 261 (.int .i64 n) = tsC { c with way := n } := by
  unfold tsC; rw [List.set_append_right _ _ (by rw [u8s_length]; omega), u8s_length, h]; rfl
theorem tsC_sc (c : Ts) : (tsC c).all AM.sc = true := by
  unfold tsC; rw [List.all_append, u8s_scs]; rfl
theorem tsC_cellv (c : Ts) : (tsC c).all cellv = true := by
  unfold tsC; rw [List.all_append, u8s_cellv]; rfl
theorem tsC_refs (c : Ts) : (tsC c).flatMap refsC = [] := by
  rw [List.flatMap_eq_nil_iff]
  intro v hv
  unfold tsC at hv
  rcases List.mem_append.1 hv with hv | hv
  · obtain ⟨n, _, rfl⟩ := List.mem_map.1 hv
    rfl
  · simp only [List.mem_cons, List.not_mem_nil, or_false] at hv
    rcases hv with rfl | rfl | rfl | rfl <;> rfl
theorem tsC_take {c : Ts} (h : c.l.length = 258) : (tsC c).take 262 = tsC c := List.take_of_length_le (by rw [tsC_length h]; omega)
theorem tsC_lens {c : Ts} (h : c.l.length = 258) : (tsC c).take 258 = u8s c.l := by unfold tsC; rw [List.take_append_of_le_length (by rw [u8s_length]; omega), List.take_of_length_le (by rw [u8s_length]; omega)]
theorem putAt_full {cs vs : List Value} (h : vs.length = cs.length) : putAt cs 0 vs = vs := putAt_all h
def z0 : Ts := ⟨zs, 0, 0, 0, 0⟩
theorem z0_eq : List.replicate 258 (Value.int .u8 0) ++ [.int .i64 0, .int .i64 0, .int .i64 0, .int .i64 0] = tsC z0 := by rw [zeros_u8n]; rfl
theorem zs_eq : List.replicate 258 (Value.int .u8 0) = u8s zs := zeros_u8n 258
variable {hp : List Blk} {L : Nat} {H d : List Nat}
/-- The first length's bits. -/
theorem next_first {c : Ts} (h : c.l.length = 258) (hb : c.bits < 4) (hb0 : -9223372036854775808 ≤ c.bits) (hn : 0 ≤ c.now ∧ c.now ≤ 100) {bit : Int} (hbit : bit = 0 ∨ bit = 1) (hF : Fit hp.length L H) :
    Lrun env (.func 50) [.agg (tsC c).toArray, .int .i64 bit] ⟨hp, L, H, d⟩ = some (.tuple #[.agg (tsC { c with now := c.now * 2 + bit, bits := c.bits + 1 }).toArray, .bool true], ⟨hp, L, H, d⟩) := by
  rw [Lrun_sym 50 _ _ fn50]
  have e262 := tsC_length h
  have hz : (tsC z0).length = 262 := tsC_length (c := z0) zs_length
  have hor : orI 64 (c.now * 2) bit = c.now * 2 + bit := by
    obtain ⟨n, hn'⟩ := Int.eq_ofNat_of_zero_le hn.1
    rw [hn']
    have h1 := or_nat 64 (2 * n) bit.toNat (by omega) (by omega)
    unfold orI
    rw [show ((n : Int) * 2) = ((2 * n : Nat) : Int) by omega, show bit = (bit.toNat : Int) by omega, h1, ← Nat.pow_one 2, ← Nat.two_pow_add_eq_or_of_lt (by omega)]
    omega
  have h21 : (2 : Int) ^ (1 : Nat) = 2 := rfl
  obtain ⟨c1, hc1⟩ : ∃ c1, c1 = { c with now := c.now * 2 + bit } := ⟨_, rfl⟩
  obtain ⟨c2, hc2⟩ : ∃ c2 : Ts, c2 = { c1 with bits := c.bits + 1 } := ⟨_, rfl⟩
  have hl1 : c1.l.length = 258 := by rw [hc1]; exact h
  have hl2 : c2.l.length = 258 := by rw [hc2]; exact hl1
  have s1 : (tsC c).set 260 (.int .i64 (c.now * 2 + bit)) = tsC c1 := by rw [set_now h, hc1]
  have s2 : (tsC c1).set 259 (.int .i64 (c.bits + 1)) = tsC c2 := by rw [set_bits hl1, hc2]
  have r : ({ c with now := c.now * 2 + bit, bits := c.bits + 1 } : Ts) = c2 := by rw [hc2, hc1]
  have p2 : putAt (tsC z0) 0 (tsC c2) = tsC c2 := putAt_full (by rw [tsC_length hl2, hz])
  rw [r]
  simp (disch := (first | omega | (simp only [lnE] <;> omega) | (refine Fit.mono ‹Fit _ _ _› ?_ <;> (simp only [lnE] <;> omega)) | (refine Fit.draw ‹Fit _ _ _› ?_ ?_ <;> (simp only [lnE] <;> omega)) | (refine Fit.hid1 ‹Fit _ _ _› ?_ ?_ <;> (simp only [lnE] <;> omega)) | (refine Fit.hidc1 ‹Fit _ _ _› ?_ ?_ <;> (simp only [lnE] <;> omega)) | (refine Fit.hidc2 ‹Fit _ _ _› ?_ ?_ ?_ <;> (simp only [lnE] <;> omega)) | (refine Fit.draw1 ‹Fit _ _ _› ?_ ?_ ?_ <;> (simp only [lnE] <;> omega)) | (refine Fit.range0 ?_ ?_ <;> (simp only [lnE] <;> omega)) | fail)) only [syA, syB, argFr, D, E, T, C, undefv, eqF, aeq, sheqs, sheq, rdCells, cellsOf, fill, putAt, if_true, if_false, reduceIte, ↓reduceIte, reduceCtorEq, eq_self, Nat.reduceEqDiff, Nat.reduceAdd, Nat.reduceSub, Nat.reduceMul, Nat.reduceLT, Nat.reduceLeDiff, Nat.reducePow, Nat.reduceDiv, Nat.reduceMod, Int.reduceLT, Int.reduceLE, Int.reduceGT, Int.reduceGE, Int.reduceToNat, Int.reducePow, Int.reduceNeg, Int.reduceBEq, Int.reduceBNe, Int.reduceEq, Int.reduceAdd, Int.reduceSub, Int.reduceMul, cellv, sc, flatv, refs, refsF, refsC, hF.not0, hF.not1, hF.up0, hF.up1, ac50, tsC_refs, tsC_cellv, tsC_sc, tsC_sym h, tsC_bits h, tsC_now h, tsC_way h, hb, h21, hor, e262, hz, z0_eq, s1, s2, p2, tsC_take hl2, tsC_length hl2, tsC_length hl1]
/-- The bit that says that an adjustment follows. -/
theorem next_mark {c : Ts} (h : c.l.length = 258) (hb : c.bits = 4) (hF : Fit hp.length L H) :
    Lrun env (.func 50) [.agg (tsC c).toArray, .int .i64 1] ⟨hp, L, H, d⟩ = some (.tuple #[.agg (tsC { c with bits := 5 }).toArray, .bool true], ⟨hp, L, H, d⟩) := by
  rw [Lrun_sym 50 _ _ fn50]
  have e262 := tsC_length h
  have hz : (tsC z0).length = 262 := tsC_length (c := z0) zs_length
  obtain ⟨c2, hc2⟩ : ∃ c2 : Ts, c2 = { c with bits := 5 } := ⟨_, rfl⟩
  have hl2 : c2.l.length = 258 := by rw [hc2]; exact h
  have s2 : (tsC c).set 259 (.int .i64 5) = tsC c2 := by rw [set_bits h, hc2]
  have p2 : putAt (tsC z0) 0 (tsC c2) = tsC c2 := putAt_full (by rw [tsC_length hl2, hz])
  have tb := tsC_bits h
  rw [hb] at tb
  rw [← hc2]
  simp (disch := (first | omega | (simp only [lnE] <;> omega) | (refine Fit.mono ‹Fit _ _ _› ?_ <;> (simp only [lnE] <;> omega)) | (refine Fit.draw ‹Fit _ _ _› ?_ ?_ <;> (simp only [lnE] <;> omega)) | (refine Fit.hid1 ‹Fit _ _ _› ?_ ?_ <;> (simp only [lnE] <;> omega)) | (refine Fit.hidc1 ‹Fit _ _ _› ?_ ?_ <;> (simp only [lnE] <;> omega)) | (refine Fit.hidc2 ‹Fit _ _ _› ?_ ?_ ?_ <;> (simp only [lnE] <;> omega)) | (refine Fit.draw1 ‹Fit _ _ _› ?_ ?_ ?_ <;> (simp only [lnE] <;> omega)) | (refine Fit.range0 ?_ ?_ <;> (simp only [lnE] <;> omega)) | fail)) only [syA, syB, argFr, D, E, T, C, undefv, eqF, aeq, sheqs, sheq, rdCells, cellsOf, fill, putAt, if_true, if_false, reduceIte, ↓reduceIte, reduceCtorEq, eq_self, Nat.reduceEqDiff, Nat.reduceAdd, Nat.reduceSub, Nat.reduceMul, Nat.reduceLT, Nat.reduceLeDiff, Nat.reducePow, Nat.reduceDiv, Nat.reduceMod, Int.reduceLT, Int.reduceLE, Int.reduceGT, Int.reduceGE, Int.reduceToNat, Int.reducePow, Int.reduceNeg, Int.reduceBEq, Int.reduceBNe, Int.reduceEq, Int.reduceAdd, Int.reduceSub, Int.reduceMul, cellv, sc, flatv, refs, refsF, refsC, hF.not0, hF.not1, hF.up0, hF.up1, ac50, tsC_refs, tsC_cellv, tsC_sc, tsC_sym h, tb, tsC_now h, tsC_way h, e262, hz, z0_eq, s2, p2, tsC_take hl2, tsC_length hl2]
/-- An adjustment upwards. -/
theorem next_up {c : Ts} (h : c.l.length = 258) (hb : c.bits = 5) (hn : -9223372036854775808 ≤ c.now ∧ c.now ≤ 9223372036854775806) (hF : Fit hp.length L H) :
    Lrun env (.func 50) [.agg (tsC c).toArray, .int .i64 0] ⟨hp, L, H, d⟩ = some (.tuple #[.agg (tsC { c with now := c.now + 1, way := 1, bits := 4 }).toArray, .bool (decide (c.way ≠ 2) && decide (c.now < 15))], ⟨hp, L, H, d⟩) := by
  rw [Lrun_sym 50 _ _ fn50]
  have e262 := tsC_length h
  have hz : (tsC z0).length = 262 := tsC_length (c := z0) zs_length
  obtain ⟨c0, hc0⟩ : ∃ c0 : Ts, c0 = { c with now := c.now + 1 } := ⟨_, rfl⟩
  obtain ⟨c1, hc1⟩ : ∃ c1 : Ts, c1 = { c0 with way := 1 } := ⟨_, rfl⟩
  obtain ⟨c2, hc2⟩ : ∃ c2 : Ts, c2 = { c1 with bits := 4 } := ⟨_, rfl⟩
  have hl0 : c0.l.length = 258 := by rw [hc0]; exact h
  have hl1 : c1.l.length = 258 := by rw [hc1]; exact hl0
  have hl2 : c2.l.length = 258 := by rw [hc2]; exact hl1
  have s0 : (tsC c).set 260 (.int .i64 (c.now + 1)) = tsC c0 := by rw [set_now h, hc0]
  have s1 : (tsC c0).set 261 (.int .i64 1) = tsC c1 := by rw [set_way hl0, hc1]
  have s2 : (tsC c1).set 259 (.int .i64 4) = tsC c2 := by rw [set_bits hl1, hc2]
  have r : ({ c with now := c.now + 1, way := 1, bits := 4 } : Ts) = c2 := by rw [hc2, hc1, hc0]
  have p2 : putAt (tsC z0) 0 (tsC c2) = tsC c2 := putAt_full (by rw [tsC_length hl2, hz])
  have tb := tsC_bits h
  rw [hb] at tb
  rw [r]
  by_cases hw : c.way = 2
  · simp (disch := (first | omega | (simp only [lnE] <;> omega) | (refine Fit.mono ‹Fit _ _ _› ?_ <;> (simp only [lnE] <;> omega)) | (refine Fit.draw ‹Fit _ _ _› ?_ ?_ <;> (simp only [lnE] <;> omega)) | (refine Fit.hid1 ‹Fit _ _ _› ?_ ?_ <;> (simp only [lnE] <;> omega)) | (refine Fit.hidc1 ‹Fit _ _ _› ?_ ?_ <;> (simp only [lnE] <;> omega)) | (refine Fit.hidc2 ‹Fit _ _ _› ?_ ?_ ?_ <;> (simp only [lnE] <;> omega)) | (refine Fit.draw1 ‹Fit _ _ _› ?_ ?_ ?_ <;> (simp only [lnE] <;> omega)) | (refine Fit.range0 ?_ ?_ <;> (simp only [lnE] <;> omega)) | fail)) only [syA, syB, argFr, D, E, T, C, undefv, eqF, aeq, sheqs, sheq, rdCells, cellsOf, fill, putAt, if_true, if_false, reduceIte, ↓reduceIte, reduceCtorEq, eq_self, Nat.reduceEqDiff, Nat.reduceAdd, Nat.reduceSub, Nat.reduceMul, Nat.reduceLT, Nat.reduceLeDiff, Nat.reducePow, Nat.reduceDiv, Nat.reduceMod, Int.reduceLT, Int.reduceLE, Int.reduceGT, Int.reduceGE, Int.reduceToNat, Int.reducePow, Int.reduceNeg, Int.reduceBEq, Int.reduceBNe, Int.reduceEq, Int.reduceAdd, Int.reduceSub, Int.reduceMul, cellv, sc, flatv, refs, refsF, refsC, hF.not0, hF.not1, hF.up0, hF.up1, ac50, tsC_refs, tsC_cellv, tsC_sc, tsC_sym h, tb, tsC_now h, tsC_way h, hw, e262, hz, z0_eq, s0, s1, s2, p2, tsC_take hl2, tsC_length hl2, tsC_length hl1, tsC_length hl0]
  · simp (disch := (first | omega | (simp only [lnE] <;> omega) | (refine Fit.mono ‹Fit _ _ _› ?_ <;> (simp only [lnE] <;> omega)) | (refine Fit.draw ‹Fit _ _ _› ?_ ?_ <;> (simp only [lnE] <;> omega)) | (refine Fit.hid1 ‹Fit _ _ _› ?_ ?_ <;> (simp only [lnE] <;> omega)) | (refine Fit.hidc1 ‹Fit _ _ _› ?_ ?_ <;> (simp only [lnE] <;> omega)) | (refine Fit.hidc2 ‹Fit _ _ _› ?_ ?_ ?_ <;> (simp only [lnE] <;> omega)) | (refine Fit.draw1 ‹Fit _ _ _› ?_ ?_ ?_ <;> (simp only [lnE] <;> omega)) | (refine Fit.range0 ?_ ?_ <;> (simp only [lnE] <;> omega)) | fail)) only [syA, syB, argFr, D, E, T, C, undefv, eqF, aeq, sheqs, sheq, rdCells, cellsOf, fill, putAt, if_true, if_false, reduceIte, ↓reduceIte, reduceCtorEq, eq_self, Nat.reduceEqDiff, Nat.reduceAdd, Nat.reduceSub, Nat.reduceMul, Nat.reduceLT, Nat.reduceLeDiff, Nat.reducePow, Nat.reduceDiv, Nat.reduceMod, Int.reduceLT, Int.reduceLE, Int.reduceGT, Int.reduceGE, Int.reduceToNat, Int.reducePow, Int.reduceNeg, Int.reduceBEq, Int.reduceBNe, Int.reduceEq, Int.reduceAdd, Int.reduceSub, Int.reduceMul, cellv, sc, flatv, refs, refsF, refsC, hF.not0, hF.not1, hF.up0, hF.up1, ac50, tsC_refs, tsC_cellv, tsC_sc, tsC_sym h, tb, tsC_now h, tsC_way h, hw, e262, hz, z0_eq, s0, s1, s2, p2, tsC_take hl2, tsC_length hl2, tsC_length hl1, tsC_length hl0]
/-- An adjustment downwards. -/
theorem next_down {c : Ts} (h : c.l.length = 258) (hb : c.bits = 5) (hn : -9223372036854775807 ≤ c.now ∧ c.now ≤ 9223372036854775807) (hF : Fit hp.length L H) :
    Lrun env (.func 50) [.agg (tsC c).toArray, .int .i64 1] ⟨hp, L, H, d⟩ = some (.tuple #[.agg (tsC { c with now := c.now - 1, way := 2, bits := 4 }).toArray, .bool (decide (c.way ≠ 1) && decide (c.now > 0))], ⟨hp, L, H, d⟩) := by
  rw [Lrun_sym 50 _ _ fn50]
  have e262 := tsC_length h
  have hz : (tsC z0).length = 262 := tsC_length (c := z0) zs_length
  obtain ⟨c0, hc0⟩ : ∃ c0 : Ts, c0 = { c with now := c.now - 1 } := ⟨_, rfl⟩
  obtain ⟨c1, hc1⟩ : ∃ c1 : Ts, c1 = { c0 with way := 2 } := ⟨_, rfl⟩
  obtain ⟨c2, hc2⟩ : ∃ c2 : Ts, c2 = { c1 with bits := 4 } := ⟨_, rfl⟩
  have hl0 : c0.l.length = 258 := by rw [hc0]; exact h
  have hl1 : c1.l.length = 258 := by rw [hc1]; exact hl0
  have hl2 : c2.l.length = 258 := by rw [hc2]; exact hl1
  have s0 : (tsC c).set 260 (.int .i64 (c.now - 1)) = tsC c0 := by rw [set_now h, hc0]
  have s1 : (tsC c0).set 261 (.int .i64 2) = tsC c1 := by rw [set_way hl0, hc1]
  have s2 : (tsC c1).set 259 (.int .i64 4) = tsC c2 := by rw [set_bits hl1, hc2]
  have r : ({ c with now := c.now - 1, way := 2, bits := 4 } : Ts) = c2 := by rw [hc2, hc1, hc0]
  have p2 : putAt (tsC z0) 0 (tsC c2) = tsC c2 := putAt_full (by rw [tsC_length hl2, hz])
  have tb := tsC_bits h
  rw [hb] at tb
  rw [r]
  by_cases hw : c.way = 1
  · simp (disch := (first | omega | (simp only [lnE] <;> omega) | (refine Fit.mono ‹Fit _ _ _› ?_ <;> (simp only [lnE] <;> omega)) | (refine Fit.draw ‹Fit _ _ _› ?_ ?_ <;> (simp only [lnE] <;> omega)) | (refine Fit.hid1 ‹Fit _ _ _› ?_ ?_ <;> (simp only [lnE] <;> omega)) | (refine Fit.hidc1 ‹Fit _ _ _› ?_ ?_ <;> (simp only [lnE] <;> omega)) | (refine Fit.hidc2 ‹Fit _ _ _› ?_ ?_ ?_ <;> (simp only [lnE] <;> omega)) | (refine Fit.draw1 ‹Fit _ _ _› ?_ ?_ ?_ <;> (simp only [lnE] <;> omega)) | (refine Fit.range0 ?_ ?_ <;> (simp only [lnE] <;> omega)) | fail)) only [syA, syB, argFr, D, E, T, C, undefv, eqF, aeq, sheqs, sheq, rdCells, cellsOf, fill, putAt, if_true, if_false, reduceIte, ↓reduceIte, reduceCtorEq, eq_self, Nat.reduceEqDiff, Nat.reduceAdd, Nat.reduceSub, Nat.reduceMul, Nat.reduceLT, Nat.reduceLeDiff, Nat.reducePow, Nat.reduceDiv, Nat.reduceMod, Int.reduceLT, Int.reduceLE, Int.reduceGT, Int.reduceGE, Int.reduceToNat, Int.reducePow, Int.reduceNeg, Int.reduceBEq, Int.reduceBNe, Int.reduceEq, Int.reduceAdd, Int.reduceSub, Int.reduceMul, cellv, sc, flatv, refs, refsF, refsC, hF.not0, hF.not1, hF.up0, hF.up1, ac50, tsC_refs, tsC_cellv, tsC_sc, tsC_sym h, tb, tsC_now h, tsC_way h, hw, e262, hz, z0_eq, s0, s1, s2, p2, tsC_take hl2, tsC_length hl2, tsC_length hl1, tsC_length hl0]
  · simp (disch := (first | omega | (simp only [lnE] <;> omega) | (refine Fit.mono ‹Fit _ _ _› ?_ <;> (simp only [lnE] <;> omega)) | (refine Fit.draw ‹Fit _ _ _› ?_ ?_ <;> (simp only [lnE] <;> omega)) | (refine Fit.hid1 ‹Fit _ _ _› ?_ ?_ <;> (simp only [lnE] <;> omega)) | (refine Fit.hidc1 ‹Fit _ _ _› ?_ ?_ <;> (simp only [lnE] <;> omega)) | (refine Fit.hidc2 ‹Fit _ _ _› ?_ ?_ ?_ <;> (simp only [lnE] <;> omega)) | (refine Fit.draw1 ‹Fit _ _ _› ?_ ?_ ?_ <;> (simp only [lnE] <;> omega)) | (refine Fit.range0 ?_ ?_ <;> (simp only [lnE] <;> omega)) | fail)) only [syA, syB, argFr, D, E, T, C, undefv, eqF, aeq, sheqs, sheq, rdCells, cellsOf, fill, putAt, if_true, if_false, reduceIte, ↓reduceIte, reduceCtorEq, eq_self, Nat.reduceEqDiff, Nat.reduceAdd, Nat.reduceSub, Nat.reduceMul, Nat.reduceLT, Nat.reduceLeDiff, Nat.reducePow, Nat.reduceDiv, Nat.reduceMod, Int.reduceLT, Int.reduceLE, Int.reduceGT, Int.reduceGE, Int.reduceToNat, Int.reducePow, Int.reduceNeg, Int.reduceBEq, Int.reduceBNe, Int.reduceEq, Int.reduceAdd, Int.reduceSub, Int.reduceMul, cellv, sc, flatv, refs, refsF, refsC, hF.not0, hF.not1, hF.up0, hF.up1, ac50, tsC_refs, tsC_cellv, tsC_sc, tsC_sym h, tb, tsC_now h, tsC_way h, hw, e262, hz, z0_eq, s0, s1, s2, p2, tsC_take hl2, tsC_length hl2, tsC_length hl1, tsC_length hl0]
theorem set_len {c : Ts} (h : c.l.length = 258) {k : Nat} (hk : k < 258) (n : Nat) : (tsC c).set k (.int .u8 (n : Int)) = tsC { c with l := c.l.set k n } := by
  unfold tsC
  rw [List.set_append_left _ _ (by rw [u8s_length]; omega)]
  simp [u8s, List.map_set]
/-- A length is done. -/
theorem next_done {c : Ts} (h : c.l.length = 258) (h8 : By c.l) {k n : Nat} (hs : c.sym = k) (hk : k < 258) (hn : c.now = n) (hn15 : n ≤ 255) (hb : c.bits = 4) (hF : Fit hp.length L H) :
    Lrun env (.func 50) [.agg (tsC c).toArray, .int .i64 0] ⟨hp, L, H, d⟩ = some (.tuple #[.agg (tsC { c with l := c.l.set k n, sym := (k : Int) + 1, way := 0 }).toArray, .bool (decide (k + 1 < 258) || kTable (c.l.set k n))], ⟨hp, L, H, d⟩) := by
  rw [Lrun_sym 50 _ _ fn50]
  have e262 := tsC_length h
  have hz : (tsC z0).length = 262 := tsC_length (c := z0) zs_length
  obtain ⟨c0, hc0⟩ : ∃ c0 : Ts, c0 = { c with l := c.l.set k n } := ⟨_, rfl⟩
  obtain ⟨c1, hc1⟩ : ∃ c1 : Ts, c1 = { c0 with sym := (k : Int) + 1 } := ⟨_, rfl⟩
  obtain ⟨c2, hc2⟩ : ∃ c2 : Ts, c2 = { c1 with way := 0 } := ⟨_, rfl⟩
  have hl0 : c0.l.length = 258 := by rw [hc0]; simpa using h
  have hl1 : c1.l.length = 258 := by rw [hc1]; exact hl0
  have hl2 : c2.l.length = 258 := by rw [hc2]; exact hl1
  have s0 : (tsC c).set k (.int .u8 (n : Int)) = tsC c0 := by rw [set_len h hk, hc0]
  have s1 : (tsC c0).set 258 (.int .i64 ((k : Int) + 1)) = tsC c1 := by rw [set_sym hl0, hc1]
  have s2 : (tsC c1).set 261 (.int .i64 0) = tsC c2 := by rw [set_way hl1, hc2]
  have r : ({ c with l := c.l.set k n, sym := (k : Int) + 1, way := 0 } : Ts) = c2 := by rw [hc2, hc1, hc0]
  have p2 : putAt (tsC z0) 0 (tsC c2) = tsC c2 := putAt_full (by rw [tsC_length hl2, hz])
  have tb := tsC_bits h
  rw [hb] at tb
  have ty := tsC_sym h
  rw [hs] at ty
  have tn := tsC_now h
  rw [hn] at tn
  have ty0 := tsC_sym hl0
  rw [show c0.sym = (k : Int) by rw [hc0]; exact hs] at ty0
  have ty2 := tsC_sym hl2
  rw [show c2.sym = (k : Int) + 1 by rw [hc2, hc1]] at ty2
  have el : c2.l = c.l.set k n := by rw [hc2, hc1, hc0]
  have h82 : By c2.l := fun x hx => by
    rw [el] at hx
    rcases List.mem_or_eq_of_mem_set hx with h1 | h1
    · exact h8 x h1
    · omega
  have ht := fun hp L H d hF => table_walk (hp := hp) (L := L) (H := H) (d := d) hl2 h82 hF
  have hlens := tsC_lens hl2
  have i0 : (0 : Int) ≤ (k : Int) := by omega
  have i1 : (k : Int) < 258 := by omega
  have tk : ((k : Int)).toNat = k := by omega
  have k261 : k ≤ 261 := by omega
  rw [r, ← el]
  by_cases hlast : k + 1 < 258
  · have hl' : (k : Int) + 1 < 258 := by omega
    rw [decide_eq_true hlast, Bool.true_or]
    simp (disch := (first | omega | (simp only [lnE] <;> omega) | (refine Fit.mono ‹Fit _ _ _› ?_ <;> (simp only [lnE] <;> omega)) | (refine Fit.draw ‹Fit _ _ _› ?_ ?_ <;> (simp only [lnE] <;> omega)) | (refine Fit.hid1 ‹Fit _ _ _› ?_ ?_ <;> (simp only [lnE] <;> omega)) | (refine Fit.hidc1 ‹Fit _ _ _› ?_ ?_ <;> (simp only [lnE] <;> omega)) | (refine Fit.hidc2 ‹Fit _ _ _› ?_ ?_ ?_ <;> (simp only [lnE] <;> omega)) | (refine Fit.draw1 ‹Fit _ _ _› ?_ ?_ ?_ <;> (simp only [lnE] <;> omega)) | (refine Fit.range0 ?_ ?_ <;> (simp only [lnE] <;> omega)) | fail)) only [syA, syB, argFr, D, E, T, C, undefv, eqF, aeq, sheqs, sheq, rdCells, cellsOf, fill, putAt, if_true, if_false, reduceIte, ↓reduceIte, reduceCtorEq, eq_self, Nat.reduceEqDiff, Nat.reduceAdd, Nat.reduceSub, Nat.reduceMul, Nat.reduceLT, Nat.reduceLeDiff, Nat.reducePow, Nat.reduceDiv, Nat.reduceMod, Int.reduceLT, Int.reduceLE, Int.reduceGT, Int.reduceGE, Int.reduceToNat, Int.reducePow, Int.reduceNeg, Int.reduceBEq, Int.reduceBNe, Int.reduceEq, Int.reduceAdd, Int.reduceSub, Int.reduceMul, cellv, sc, flatv, refs, refsF, refsC, hF.not0, hF.not1, hF.up0, hF.up1, ac50, tsC_refs, tsC_cellv, tsC_sc, ty, tb, tn, ty0, ty2, tsC_way h, hl', i0, i1, tk, k261, e262, hz, z0_eq, s0, s1, s2, p2, tsC_take hl2, tsC_length hl2, tsC_length hl1, tsC_length hl0]
  · have hl' : ¬ (k : Int) + 1 < 258 := by omega
    rw [decide_eq_false hlast, Bool.false_or]
    simp (disch := (first | omega | (simp only [lnE] <;> omega) | (refine Fit.mono ‹Fit _ _ _› ?_ <;> (simp only [lnE] <;> omega)) | (refine Fit.draw ‹Fit _ _ _› ?_ ?_ <;> (simp only [lnE] <;> omega)) | (refine Fit.hid1 ‹Fit _ _ _› ?_ ?_ <;> (simp only [lnE] <;> omega)) | (refine Fit.hidc1 ‹Fit _ _ _› ?_ ?_ <;> (simp only [lnE] <;> omega)) | (refine Fit.hidc2 ‹Fit _ _ _› ?_ ?_ ?_ <;> (simp only [lnE] <;> omega)) | (refine Fit.draw1 ‹Fit _ _ _› ?_ ?_ ?_ <;> (simp only [lnE] <;> omega)) | (refine Fit.range0 ?_ ?_ <;> (simp only [lnE] <;> omega)) | fail)) only [syA, syB, argFr, D, E, T, C, undefv, eqF, aeq, sheqs, sheq, rdCells, cellsOf, fill, putAt, if_true, if_false, reduceIte, ↓reduceIte, reduceCtorEq, eq_self, Nat.reduceEqDiff, Nat.reduceAdd, Nat.reduceSub, Nat.reduceMul, Nat.reduceLT, Nat.reduceLeDiff, Nat.reducePow, Nat.reduceDiv, Nat.reduceMod, Int.reduceLT, Int.reduceLE, Int.reduceGT, Int.reduceGE, Int.reduceToNat, Int.reducePow, Int.reduceNeg, Int.reduceBEq, Int.reduceBNe, Int.reduceEq, Int.reduceAdd, Int.reduceSub, Int.reduceMul, cellv, sc, flatv, refs, refsF, refsC, hF.not0, hF.not1, hF.up0, hF.up1, ac50, tsC_refs, tsC_cellv, tsC_sc, ty, tb, tn, ty0, ty2, tsC_way h, hl', i0, i1, tk, k261, e262, hz, z0_eq, s0, s1, s2, p2, tsC_take hl2, tsC_length hl2, tsC_length hl1, tsC_length hl0, hlens, ht]
/-! ### One bit -/
def nextF (c : Ts) (b : Nat) : Ts × Bool :=
  if c.bits < 4 then ({ c with now := c.now * 2 + b, bits := c.bits + 1 }, true)
  else if c.bits = 4 then
    (if b = 0 then ({ c with l := c.l.set c.sym.toNat c.now.toNat, sym := c.sym + 1, way := 0 }, decide (c.sym + 1 < 258) || kTable (c.l.set c.sym.toNat c.now.toNat)) else ({ c with bits := 5 }, true))
  else if b = 0 then ({ c with now := c.now + 1, way := 1, bits := 4 }, decide (c.way ≠ 2) && decide (c.now < 15))
  else ({ c with now := c.now - 1, way := 2, bits := 4 }, decide (c.way ≠ 1) && decide (c.now > 0))
structure TsOk (c : Ts) : Prop where
  len : c.l.length = 258
  by_ : By c.l
  sym0 : 0 ≤ c.sym
  sym1 : c.sym < 258
  bits0 : 0 ≤ c.bits
  bits1 : c.bits ≤ 5
  now0 : 0 ≤ c.now
  now1 : c.now ≤ 15
  few : c.bits < 4 → c.now < 2 ^ c.bits.toNat
theorem next_walk {c : Ts} (o : TsOk c) {b : Nat} (hb : b < 2) (hF : Fit hp.length L H) :
    Lrun env (.func 50) [.agg (tsC c).toArray, .int .i64 b] ⟨hp, L, H, d⟩ = some (.tuple #[.agg (tsC (nextF c b).1).toArray, .bool (nextF c b).2], ⟨hp, L, H, d⟩) := by
  have h := o.len
  have b0 := o.bits0
  have b1 := o.bits1
  have n0 := o.now0
  have n1 := o.now1
  have y0 := o.sym0
  have y1 := o.sym1
  unfold nextF
  by_cases c1 : c.bits < 4
  · rw [if_pos c1]
    exact next_first h c1 (by omega) ⟨n0, by omega⟩ (by omega) hF
  · rw [if_neg c1]
    by_cases c2 : c.bits = 4
    · rw [if_pos c2]
      by_cases c3 : b = 0
      · subst c3
        rw [if_pos rfl]
        have := next_done (k := c.sym.toNat) (n := c.now.toNat) h o.by_ (by omega) (by omega) (by omega) (by omega) c2 hF (hp := hp) (L := L) (H := H) (d := d)
        rw [show ((c.sym.toNat : Nat) : Int) = c.sym by omega] at this
        rw [show decide (c.sym + 1 < 258) = decide (c.sym.toNat + 1 < 258) by rw [decide_eq_decide]; omega]
        exact this
      · obtain rfl : b = 1 := by omega
        rw [if_neg c3]
        exact next_mark h c2 hF
    · rw [if_neg c2]
      by_cases c3 : b = 0
      · subst c3
        rw [if_pos rfl]
        exact next_up h (by omega) (by omega) hF
      · obtain rfl : b = 1 := by omega
        rw [if_neg c3]
        exact next_down h (by omega) (by omega) hF
theorem nextF_ok {c : Ts} (o : TsOk c) {b : Nat} (hb : b < 2) (h : (nextF c b).2 = true) (hs : (nextF c b).1.sym < 258) : TsOk (nextF c b).1 := by
  have b0 := o.bits0
  have b1 := o.bits1
  have n0 := o.now0
  have n1 := o.now1
  unfold nextF at h hs ⊢
  by_cases c1 : c.bits < 4
  · rw [if_pos c1] at h hs ⊢
    have hf := o.few c1
    have hp : (2 : Int) ^ (c.bits + 1).toNat = 2 * 2 ^ c.bits.toNat := by
      rw [show (c.bits + 1).toNat = c.bits.toNat + 1 by omega, Int.pow_succ]; omega
    have hle : (2 : Int) ^ c.bits.toNat ≤ 8 := by
      rcases (by omega : c.bits = 0 ∨ c.bits = 1 ∨ c.bits = 2 ∨ c.bits = 3) with e | e | e | e <;> rw [e] <;> decide
    exact ⟨o.len, o.by_, o.sym0, o.sym1, by show (0 : Int) ≤ c.bits + 1; omega, by show c.bits + 1 ≤ 5; omega, by show (0 : Int) ≤ c.now * 2 + b; omega, by show c.now * 2 + b ≤ 15; omega, fun _ => by show c.now * 2 + b < 2 ^ (c.bits + 1).toNat; omega⟩
  · rw [if_neg c1] at h hs ⊢
    by_cases c2 : c.bits = 4
    · rw [if_pos c2] at h hs ⊢
      by_cases c3 : b = 0
      · rw [if_pos c3] at h hs ⊢
        refine ⟨by show (c.l.set _ _).length = 258; rw [List.length_set]; exact o.len, fun x hx => ?_, by show (0 : Int) ≤ c.sym + 1; have := o.sym0; omega, hs, b0, b1, n0, n1, o.few⟩
        rcases List.mem_or_eq_of_mem_set hx with h1 | h1
        · exact o.by_ x h1
        · omega
      · rw [if_neg c3] at h hs ⊢
        exact ⟨o.len, o.by_, o.sym0, o.sym1, by show (0 : Int) ≤ 5; decide, by show (5 : Int) ≤ 5; decide, n0, n1, fun h => by simp at h⟩
    · rw [if_neg c2] at h hs ⊢
      by_cases c3 : b = 0
      · rw [if_pos c3] at h hs ⊢
        simp only [Bool.and_eq_true, decide_eq_true_eq] at h
        exact ⟨o.len, o.by_, o.sym0, o.sym1, by show (0 : Int) ≤ 4; decide, by show (4 : Int) ≤ 5; decide, by show (0 : Int) ≤ c.now + 1; omega, by show c.now + 1 ≤ 15; omega, fun h => by simp at h⟩
      · rw [if_neg c3] at h hs ⊢
        simp only [Bool.and_eq_true, decide_eq_true_eq] at h
        exact ⟨o.len, o.by_, o.sym0, o.sym1, by show (0 : Int) ≤ 4; decide, by show (4 : Int) ≤ 5; decide, by show (0 : Int) ≤ c.now - 1; omega, by show c.now - 1 ≤ 15; omega, fun h => by simp at h⟩
end LtA
end Go.Proofs.Ytlphmnhkkhcjfaa
end
