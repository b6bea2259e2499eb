/-
  LENGTH TABLES: Valid and Step, on the abstract machine. Conditions: none.
-/
import Derived.Test.YtlphmnhkkhcjfaaLtM
set_option linter.all false
section
namespace Go.Proofs.Ytlphmnhkkhcjfaa
namespace LtA
open Go Go.RowKit AM ArEnv Bt
variable {hp : List Blk} {L : Nat} {H d : List Nat}

theorem within_walk (a b c : Int) (hF : Fit hp.length L H) : Lrun env (.func 52) [.int .i64 a, .int .i64 b, .int .i64 c] ⟨hp, L, H, d⟩ = some (.bool (decide (b ≤ a ∧ a ≤ c)), ⟨hp, L, H, d⟩) := by
  rw [Lrun_sym 52 _ _ fn52]
  by_cases h1 : b ≤ a
  · have h1' : a ≥ b := h1
    have e : decide (b ≤ a ∧ a ≤ c) = decide (a ≤ c) := by rw [decide_eq_decide]; omega
    rw [e]
    simp (disch := (first | omega | (simp only [lnE] <;> omega) | (refine Fit.mono ‹Fit _ _ _› ?_ <;> (simp only [lnE] <;> omega)) | (refine Fit.draw ‹Fit _ _ _› ?_ ?_ <;> (simp only [lnE] <;> omega)) | (refine Fit.hid1 ‹Fit _ _ _› ?_ ?_ <;> (simp only [lnE] <;> omega)) | (refine Fit.hidc1 ‹Fit _ _ _› ?_ ?_ <;> (simp only [lnE] <;> omega)) | (refine Fit.hidc2 ‹Fit _ _ _› ?_ ?_ ?_ <;> (simp only [lnE] <;> omega)) | (refine Fit.draw1 ‹Fit _ _ _› ?_ ?_ ?_ <;> (simp only [lnE] <;> omega)) | (refine Fit.range0 ?_ ?_ <;> (simp only [lnE] <;> omega)) | fail)) only [syA, syB, argFr, D, E, T, C, undefv, eqF, aeq, sheqs, sheq, rdCells, cellsOf, fill, putAt, if_true, if_false, reduceIte, ↓reduceIte, reduceCtorEq, eq_self, Nat.reduceEqDiff, Nat.reduceAdd, Nat.reduceSub, Nat.reduceMul, Nat.reduceLT, Nat.reduceLeDiff, Nat.reducePow, Nat.reduceDiv, Nat.reduceMod, Int.reduceLT, Int.reduceLE, Int.reduceGT, Int.reduceGE, Int.reduceToNat, Int.reducePow, Int.reduceNeg, Int.reduceBEq, Int.reduceBNe, Int.reduceEq, Int.reduceAdd, Int.reduceSub, Int.reduceMul, cellv, sc, flatv, refs, refsF, refsC, hF.not0, hF.not1, hF.up0, hF.up1, ac52, h1']
  · have h1' : ¬ a ≥ b := h1
    have e : decide (b ≤ a ∧ a ≤ c) = false := by rw [decide_eq_false_iff_not]; omega
    rw [e]
    simp (disch := (first | omega | (simp only [lnE] <;> omega) | (refine Fit.mono ‹Fit _ _ _› ?_ <;> (simp only [lnE] <;> omega)) | (refine Fit.draw ‹Fit _ _ _› ?_ ?_ <;> (simp only [lnE] <;> omega)) | (refine Fit.hid1 ‹Fit _ _ _› ?_ ?_ <;> (simp only [lnE] <;> omega)) | (refine Fit.hidc1 ‹Fit _ _ _› ?_ ?_ <;> (simp only [lnE] <;> omega)) | (refine Fit.hidc2 ‹Fit _ _ _› ?_ ?_ ?_ <;> (simp only [lnE] <;> omega)) | (refine Fit.draw1 ‹Fit _ _ _› ?_ ?_ ?_ <;> (simp only [lnE] <;> omega)) | (refine Fit.range0 ?_ ?_ <;> (simp only [lnE] <;> omega)) | fail)) only [syA, syB, argFr, D, E, T, C, undefv, eqF, aeq, sheqs, sheq, rdCells, cellsOf, fill, putAt, if_true, if_false, reduceIte, ↓reduceIte, reduceCtorEq, eq_self, Nat.reduceEqDiff, Nat.reduceAdd, Nat.reduceSub, Nat.reduceMul, Nat.reduceLT, Nat.reduceLeDiff, Nat.reducePow, Nat.reduceDiv, Nat.reduceMod, Int.reduceLT, Int.reduceLE, Int.reduceGT, Int.reduceGE, Int.reduceToNat, Int.reducePow, Int.reduceNeg, Int.reduceBEq, Int.reduceBNe, Int.reduceEq, Int.reduceAdd, Int.reduceSub, Int.reduceMul, cellv, sc, flatv, refs, refsF, refsC, hF.not0, hF.not1, hF.up0, hF.up1, ac52, h1']
structure Gs (c : Ts) : Prop where
  len : c.l.length = 258
  by_ : By c.l
  sym0 : -9223372036854775808 ≤ c.sym
  sym1 : c.sym ≤ 9223372036854775807
  bits0 : -9223372036854775808 ≤ c.bits
  bits1 : c.bits ≤ 9223372036854775807
  now0 : -9223372036854775808 ≤ c.now
  now1 : c.now ≤ 9223372036854775807
  way0 : -9223372036854775808 ≤ c.way
  way1 : c.way ≤ 9223372036854775807
theorem sheqs_cons (s : Sh) (r : List Sh) (v w : Value) (l m : List Value) : sheqs (s :: r) (v :: l) (w :: m) = (sheq s v w).bind fun b => (sheqs r l m).map fun c => b && c := rfl
theorem sheqs_nil' : sheqs [] [] [] = some true := rfl
theorem sheqs_app : ∀ (n : Nat) {xs ys : List Value} {r : List Sh} {xs' ys' : List Value} {b b' : Bool}, xs.length = n → ys.length = n → sheqs (List.replicate n .nu) xs ys = some b → sheqs r xs' ys' = some b' → sheqs (List.replicate n .nu ++ r) (xs ++ xs') (ys ++ ys') = some (b && b')
  | 0, xs, ys, r, xs', ys', b, b', h1, h2, e, e' => by
    cases xs <;> cases ys <;> simp at h1 h2
    simp [sheqs] at e
    subst e
    simpa using e'
  | n + 1, xs, ys, r, xs', ys', b, b', h1, h2, e, e' => by
    cases xs with
    | nil => simp at h1
    | cons x xs =>
      cases ys with
      | nil => simp at h2
      | cons y ys =>
        rw [List.replicate_succ, sheqs_cons] at e
        obtain ⟨b1, e1, e2⟩ := Option.bind_eq_some_iff.1 e
        obtain ⟨b2, e3, e4⟩ := Option.map_eq_some_iff.1 e2
        rw [List.replicate_succ, List.cons_append, List.cons_append, List.cons_append, sheqs_cons, e1, Option.bind_some, sheqs_app n (by simpa using h1) (by simpa using h2) e3 e', Option.map_some, ← Bool.and_assoc, e4]
theorem sheqs_u8 : ∀ {a b : List Nat} {n : Nat}, a.length = n → b.length = n → sheqs (List.replicate n .nu) (u8s a) (u8s b) = some (decide (a = b))
  | [], [], _, h, _ => by subst h; rfl
  | [], _ :: _, _, h1, h2 => by rw [List.length_nil] at h1; subst h1; simp at h2
  | _ :: _, [], _, h1, h2 => by rw [List.length_nil] at h2; subst h2; simp at h1
  | x :: a, y :: b, 0, h1, h2 => by simp at h1
  | x :: a, y :: b, n + 1, h1, h2 => by
    have ih := sheqs_u8 (a := a) (b := b) (n := n) (by simpa using h1) (by simpa using h2)
    have hd : ((x : Int) == (y : Int)) = decide (x = y) := by rw [Bool.eq_iff_iff]; simp; omega
    show sheqs (.nu :: List.replicate n .nu) (.int .u8 (x : Int) :: u8s a) (.int .u8 (y : Int) :: u8s b) = _
    rw [sheqs_cons, ih]
    have e : sheq .nu (.int .u8 (x : Int)) (.int .u8 (y : Int)) = some (decide (x = y)) := by rw [← hd]; rfl
    rw [e]
    simp only [Option.bind_some, Option.map_some, Option.some.injEq, List.cons.injEq]
    rw [← Bool.decide_and]
theorem sheq_i64 (a b : Int) : sheq .nu (.int .i64 a) (.int .i64 b) = some (decide (a = b)) := by
  have hd : (a == b) = decide (a = b) := by rw [Bool.eq_iff_iff]; simp
  rw [← hd]; rfl
/-- Two states compared. -/
theorem tsC_eq {c o : Ts} (h1 : c.l.length = 258) (h2 : o.l.length = 258) : sheqs (List.replicate 262 .nu) (tsC c) (tsC o) = some (decide (c = o)) := by
  have e0 := sheqs_u8 h1 h2
  have e1 : sheqs (List.replicate 4 .nu) [.int .i64 c.sym, .int .i64 c.bits, .int .i64 c.now, .int .i64 c.way] [.int .i64 o.sym, .int .i64 o.bits, .int .i64 o.now, .int .i64 o.way] = some (decide (c.sym = o.sym) && (decide (c.bits = o.bits) && (decide (c.now = o.now) && (decide (c.way = o.way) && true)))) := by
    simp only [List.replicate_succ, List.replicate_zero, sheqs_cons, sheqs_nil', sheq_i64, Option.bind_some, Option.map_some]
  have e2 := sheqs_app 258 (by rw [u8s_length, h1]) (by rw [u8s_length, h2]) e0 e1
  rw [List.replicate_append_replicate] at e2
  unfold tsC
  rw [e2]
  simp only [Option.some.injEq, Bool.and_true]
  rw [← Bool.decide_and, ← Bool.decide_and, ← Bool.decide_and, ← Bool.decide_and, decide_eq_decide]
  exact Ts.ext_iff'.symm
theorem beginning_walk {c : Ts} (h : Gs c) (hF : Fit hp.length L H) : Lrun env (.func 51) [.agg (tsC c).toArray] ⟨hp, L, H, d⟩ = some (.bool (decide (Begin c)), ⟨hp, L, H, d⟩) := by
  rw [Lrun_sym 51 _ _ fn51]
  have hl := h.len
  have hw := fun hp L H d a b c hF => within_walk (hp := hp) (L := L) (H := H) (d := d) a b c hF
  by_cases h1 : 0 ≤ c.bits ∧ c.bits ≤ 3
  · have hpw : (2 : Int) ^ c.bits.toNat ≤ 8 := pow2_le (by omega)
    have hpw0 : 0 < (2 : Int) ^ c.bits.toNat := Int.pow_pos (by decide)
    have hng : (c.bits < 0) = False := eq_false (by omega)
    have hmin : min c.bits.toNat 64 = c.bits.toNat := by omega
    have hwr : IntKind.i64.wrap (2 ^ c.bits.toNat) = 2 ^ c.bits.toNat := w64 (by omega) (by omega)
    by_cases h2 : 0 ≤ c.now ∧ c.now ≤ 2 ^ c.bits.toNat - 1
    · have e : decide (Begin c) = decide (c = ⟨zs, 0, c.bits, c.now, 0⟩) := by
        rw [decide_eq_decide]
        exact ⟨fun hh => hh.2.2.2.2, fun hh => ⟨h1.1, h1.2, h2.1, by omega, hh⟩⟩
      rw [e]
      obtain ⟨o, ho⟩ : ∃ o : Ts, o = ⟨zs, 0, c.bits, c.now, 0⟩ := ⟨_, rfl⟩
      have hz := zs_length
      have hol : o.l.length = 258 := by rw [ho]; exact hz
      have s1 : (tsC z0).set 259 (.int .i64 c.bits) = tsC { z0 with bits := c.bits } := set_bits hz _
      have s2 : (tsC { z0 with bits := c.bits }).set 260 (.int .i64 c.now) = tsC o := by rw [set_now (c := { z0 with bits := c.bits }) hz, ho]; rfl
      have q := tsC_eq hl hol
      have lz : (tsC z0).length = 262 := tsC_length (c := z0) hz
      have lz2 : (tsC { z0 with bits := c.bits }).length = 262 := tsC_length (c := { z0 with bits := c.bits }) hz
      rw [← ho]
      simp (disch := (first | omega | (simp only [lnE] <;> omega) | (refine Fit.mono ‹Fit _ _ _› ?_ <;> (simp only [lnE] <;> omega)) | (refine Fit.draw ‹Fit _ _ _› ?_ ?_ <;> (simp only [lnE] <;> omega)) | (refine Fit.hid1 ‹Fit _ _ _› ?_ ?_ <;> (simp only [lnE] <;> omega)) | (refine Fit.hidc1 ‹Fit _ _ _› ?_ ?_ <;> (simp only [lnE] <;> omega)) | (refine Fit.hidc2 ‹Fit _ _ _› ?_ ?_ ?_ <;> (simp only [lnE] <;> omega)) | (refine Fit.draw1 ‹Fit _ _ _› ?_ ?_ ?_ <;> (simp only [lnE] <;> omega)) | (refine Fit.range0 ?_ ?_ <;> (simp only [lnE] <;> omega)) | fail)) only [syA, syB, argFr, D, E, T, C, undefv, eqF, aeq, sheqs, sheq, rdCells, cellsOf, fill, putAt, if_true, if_false, reduceIte, ↓reduceIte, reduceCtorEq, eq_self, Nat.reduceEqDiff, Nat.reduceAdd, Nat.reduceSub, Nat.reduceMul, Nat.reduceLT, Nat.reduceLeDiff, Nat.reducePow, Nat.reduceDiv, Nat.reduceMod, Int.reduceLT, Int.reduceLE, Int.reduceGT, Int.reduceGE, Int.reduceToNat, Int.reducePow, Int.reduceNeg, Int.reduceBEq, Int.reduceBNe, Int.reduceEq, Int.reduceAdd, Int.reduceSub, Int.reduceMul, cellv, sc, flatv, refs, refsF, refsC, hF.not0, hF.not1, hF.up0, hF.up1, ac51, hw, tsC_refs, tsC_cellv, tsC_sc, tsC_bits hl, tsC_now hl, h1, h2, hng, hmin, hwr, z0_eq, s1, s2, q, tsC_take hl, tsC_length hl, lz, lz2]
    · have e : decide (Begin c) = false := by
        rw [decide_eq_false_iff_not]
        intro hh
        exact h2 ⟨hh.2.2.1, by have := hh.2.2.2.1; omega⟩
      rw [e]
      simp (disch := (first | omega | (simp only [lnE] <;> omega) | (refine Fit.mono ‹Fit _ _ _› ?_ <;> (simp only [lnE] <;> omega)) | (refine Fit.draw ‹Fit _ _ _› ?_ ?_ <;> (simp only [lnE] <;> omega)) | (refine Fit.hid1 ‹Fit _ _ _› ?_ ?_ <;> (simp only [lnE] <;> omega)) | (refine Fit.hidc1 ‹Fit _ _ _› ?_ ?_ <;> (simp only [lnE] <;> omega)) | (refine Fit.hidc2 ‹Fit _ _ _› ?_ ?_ ?_ <;> (simp only [lnE] <;> omega)) | (refine Fit.draw1 ‹Fit _ _ _› ?_ ?_ ?_ <;> (simp only [lnE] <;> omega)) | (refine Fit.range0 ?_ ?_ <;> (simp only [lnE] <;> omega)) | fail)) only [syA, syB, argFr, D, E, T, C, undefv, eqF, aeq, sheqs, sheq, rdCells, cellsOf, fill, putAt, if_true, if_false, reduceIte, ↓reduceIte, reduceCtorEq, eq_self, Nat.reduceEqDiff, Nat.reduceAdd, Nat.reduceSub, Nat.reduceMul, Nat.reduceLT, Nat.reduceLeDiff, Nat.reducePow, Nat.reduceDiv, Nat.reduceMod, Int.reduceLT, Int.reduceLE, Int.reduceGT, Int.reduceGE, Int.reduceToNat, Int.reducePow, Int.reduceNeg, Int.reduceBEq, Int.reduceBNe, Int.reduceEq, Int.reduceAdd, Int.reduceSub, Int.reduceMul, cellv, sc, flatv, refs, refsF, refsC, hF.not0, hF.not1, hF.up0, hF.up1, ac51, hw, tsC_refs, tsC_cellv, tsC_sc, tsC_bits hl, tsC_now hl, h1, h2, hng, hmin, hwr, tsC_take hl, tsC_length hl]
  · have e : decide (Begin c) = false := by
      rw [decide_eq_false_iff_not]
      intro hh
      exact h1 ⟨hh.1, hh.2.1⟩
    rw [e]
    simp (disch := (first | omega | (simp only [lnE] <;> omega) | (refine Fit.mono ‹Fit _ _ _› ?_ <;> (simp only [lnE] <;> omega)) | (refine Fit.draw ‹Fit _ _ _› ?_ ?_ <;> (simp only [lnE] <;> omega)) | (refine Fit.hid1 ‹Fit _ _ _› ?_ ?_ <;> (simp only [lnE] <;> omega)) | (refine Fit.hidc1 ‹Fit _ _ _› ?_ ?_ <;> (simp only [lnE] <;> omega)) | (refine Fit.hidc2 ‹Fit _ _ _› ?_ ?_ ?_ <;> (simp only [lnE] <;> omega)) | (refine Fit.draw1 ‹Fit _ _ _› ?_ ?_ ?_ <;> (simp only [lnE] <;> omega)) | (refine Fit.range0 ?_ ?_ <;> (simp only [lnE] <;> omega)) | fail)) only [syA, syB, argFr, D, E, T, C, undefv, eqF, aeq, sheqs, sheq, rdCells, cellsOf, fill, putAt, if_true, if_false, reduceIte, ↓reduceIte, reduceCtorEq, eq_self, Nat.reduceEqDiff, Nat.reduceAdd, Nat.reduceSub, Nat.reduceMul, Nat.reduceLT, Nat.reduceLeDiff, Nat.reducePow, Nat.reduceDiv, Nat.reduceMod, Int.reduceLT, Int.reduceLE, Int.reduceGT, Int.reduceGE, Int.reduceToNat, Int.reducePow, Int.reduceNeg, Int.reduceBEq, Int.reduceBNe, Int.reduceEq, Int.reduceAdd, Int.reduceSub, Int.reduceMul, cellv, sc, flatv, refs, refsF, refsC, hF.not0, hF.not1, hF.up0, hF.up1, ac51, hw, tsC_refs, tsC_cellv, tsC_sc, tsC_bits hl, tsC_now hl, h1, tsC_take hl, tsC_length hl]
theorem int_beq (a b : Int) : (a == b) = decide (a = b) := by rw [Bool.eq_iff_iff]; simp
theorem turned_walk (was now way : Int) (hF : Fit hp.length L H) : Lrun env (.func 54) [.int .i64 was, .int .i64 now, .int .i64 way] ⟨hp, L, H, d⟩ = some (.bool (decide (turnedP was now way)), ⟨hp, L, H, d⟩) := by
  rw [Lrun_sym 54 _ _ fn54]
  by_cases h1 : way = 0
  · have e : decide (turnedP was now way) = decide (was = now) := by rw [decide_eq_decide]; unfold turnedP; rw [if_pos h1]
    rw [e]
    simp (disch := (first | omega | (simp only [lnE] <;> omega) | (refine Fit.mono ‹Fit _ _ _› ?_ <;> (simp only [lnE] <;> omega)) | (refine Fit.draw ‹Fit _ _ _› ?_ ?_ <;> (simp only [lnE] <;> omega)) | (refine Fit.hid1 ‹Fit _ _ _› ?_ ?_ <;> (simp only [lnE] <;> omega)) | (refine Fit.hidc1 ‹Fit _ _ _› ?_ ?_ <;> (simp only [lnE] <;> omega)) | (refine Fit.hidc2 ‹Fit _ _ _› ?_ ?_ ?_ <;> (simp only [lnE] <;> omega)) | (refine Fit.draw1 ‹Fit _ _ _› ?_ ?_ ?_ <;> (simp only [lnE] <;> omega)) | (refine Fit.range0 ?_ ?_ <;> (simp only [lnE] <;> omega)) | fail)) only [syA, syB, argFr, D, E, T, C, undefv, eqF, aeq, sheqs, sheq, rdCells, cellsOf, fill, putAt, if_true, if_false, reduceIte, ↓reduceIte, reduceCtorEq, eq_self, Nat.reduceEqDiff, Nat.reduceAdd, Nat.reduceSub, Nat.reduceMul, Nat.reduceLT, Nat.reduceLeDiff, Nat.reducePow, Nat.reduceDiv, Nat.reduceMod, Int.reduceLT, Int.reduceLE, Int.reduceGT, Int.reduceGE, Int.reduceToNat, Int.reducePow, Int.reduceNeg, Int.reduceBEq, Int.reduceBNe, Int.reduceEq, Int.reduceAdd, Int.reduceSub, Int.reduceMul, cellv, sc, flatv, refs, refsF, refsC, hF.not0, hF.not1, hF.up0, hF.up1, ac54, h1]
    rw [int_beq]
  · by_cases h2 : way = 1
    · have e : decide (turnedP was now way) = decide (was < now) := by rw [decide_eq_decide]; unfold turnedP; rw [if_neg h1, if_pos h2]
      rw [e]
      simp (disch := (first | omega | (simp only [lnE] <;> omega) | (refine Fit.mono ‹Fit _ _ _› ?_ <;> (simp only [lnE] <;> omega)) | (refine Fit.draw ‹Fit _ _ _› ?_ ?_ <;> (simp only [lnE] <;> omega)) | (refine Fit.hid1 ‹Fit _ _ _› ?_ ?_ <;> (simp only [lnE] <;> omega)) | (refine Fit.hidc1 ‹Fit _ _ _› ?_ ?_ <;> (simp only [lnE] <;> omega)) | (refine Fit.hidc2 ‹Fit _ _ _› ?_ ?_ ?_ <;> (simp only [lnE] <;> omega)) | (refine Fit.draw1 ‹Fit _ _ _› ?_ ?_ ?_ <;> (simp only [lnE] <;> omega)) | (refine Fit.range0 ?_ ?_ <;> (simp only [lnE] <;> omega)) | fail)) only [syA, syB, argFr, D, E, T, C, undefv, eqF, aeq, sheqs, sheq, rdCells, cellsOf, fill, putAt, if_true, if_false, reduceIte, ↓reduceIte, reduceCtorEq, eq_self, Nat.reduceEqDiff, Nat.reduceAdd, Nat.reduceSub, Nat.reduceMul, Nat.reduceLT, Nat.reduceLeDiff, Nat.reducePow, Nat.reduceDiv, Nat.reduceMod, Int.reduceLT, Int.reduceLE, Int.reduceGT, Int.reduceGE, Int.reduceToNat, Int.reducePow, Int.reduceNeg, Int.reduceBEq, Int.reduceBNe, Int.reduceEq, Int.reduceAdd, Int.reduceSub, Int.reduceMul, cellv, sc, flatv, refs, refsF, refsC, hF.not0, hF.not1, hF.up0, hF.up1, ac54, h1, h2]
    · have e : decide (turnedP was now way) = decide (was > now) := by rw [decide_eq_decide]; unfold turnedP; rw [if_neg h1, if_neg h2]
      rw [e]
      simp (disch := (first | omega | (simp only [lnE] <;> omega) | (refine Fit.mono ‹Fit _ _ _› ?_ <;> (simp only [lnE] <;> omega)) | (refine Fit.draw ‹Fit _ _ _› ?_ ?_ <;> (simp only [lnE] <;> omega)) | (refine Fit.hid1 ‹Fit _ _ _› ?_ ?_ <;> (simp only [lnE] <;> omega)) | (refine Fit.hidc1 ‹Fit _ _ _› ?_ ?_ <;> (simp only [lnE] <;> omega)) | (refine Fit.hidc2 ‹Fit _ _ _› ?_ ?_ ?_ <;> (simp only [lnE] <;> omega)) | (refine Fit.draw1 ‹Fit _ _ _› ?_ ?_ ?_ <;> (simp only [lnE] <;> omega)) | (refine Fit.range0 ?_ ?_ <;> (simp only [lnE] <;> omega)) | fail)) only [syA, syB, argFr, D, E, T, C, undefv, eqF, aeq, sheqs, sheq, rdCells, cellsOf, fill, putAt, if_true, if_false, reduceIte, ↓reduceIte, reduceCtorEq, eq_self, Nat.reduceEqDiff, Nat.reduceAdd, Nat.reduceSub, Nat.reduceMul, Nat.reduceLT, Nat.reduceLeDiff, Nat.reducePow, Nat.reduceDiv, Nat.reduceMod, Int.reduceLT, Int.reduceLE, Int.reduceGT, Int.reduceGE, Int.reduceToNat, Int.reducePow, Int.reduceNeg, Int.reduceBEq, Int.reduceBNe, Int.reduceEq, Int.reduceAdd, Int.reduceSub, Int.reduceMul, cellv, sc, flatv, refs, refsF, refsC, hF.not0, hF.not1, hF.up0, hF.up1, ac54, h1, h2]
theorem known_loop {c : Ts} (h : Gs c) (hF : Fit hp.length L H) : ∀ k i : Nat, i + k = 258 → (∀ s, s < i → c.l.getD s 0 ≤ 15 ∧ ¬ (c.sym ≤ (s : Int) ∧ 0 < c.l.getD s 0)) → ∃ ex fr,
    Liter env lb53_0 [1, 6, 7] (hp.length + 1) [(1, .pointer (some ⟨hp.length, 0, some 0⟩)), (6, .agg (u8s c.l).toArray), (7, .int .i64 i)] ⟨hp ++ [.cells 0 true (tsC c)], L, H, []⟩ = some (ex, fr, ⟨hp ++ [.cells 0 true (tsC c)], L, H, []⟩) ∧
      ((ex = .exit 0 ∧ Known c) ∨ (ex = .ret ∧ fr.get 2 = some (.bool false) ∧ ¬ Known c))
  | 0, i, e, hk => by
    obtain rfl : i = 258 := by omega
    rw [iter_by lb53_0.eq_1]
    simp (disch := (first | omega | (simp only [lnE] <;> omega) | (refine Fit.mono ‹Fit _ _ _› ?_ <;> (simp only [lnE] <;> omega)) | (refine Fit.draw ‹Fit _ _ _› ?_ ?_ <;> (simp only [lnE] <;> omega)) | (refine Fit.hid1 ‹Fit _ _ _› ?_ ?_ <;> (simp only [lnE] <;> omega)) | (refine Fit.hidc1 ‹Fit _ _ _› ?_ ?_ <;> (simp only [lnE] <;> omega)) | (refine Fit.hidc2 ‹Fit _ _ _› ?_ ?_ ?_ <;> (simp only [lnE] <;> omega)) | (refine Fit.draw1 ‹Fit _ _ _› ?_ ?_ ?_ <;> (simp only [lnE] <;> omega)) | (refine Fit.range0 ?_ ?_ <;> (simp only [lnE] <;> omega)) | fail)) only [syA, syB, argFr, D, E, T, C, undefv, eqF, aeq, sheqs, sheq, rdCells, cellsOf, fill, putAt, if_true, if_false, reduceIte, ↓reduceIte, reduceCtorEq, eq_self, Nat.reduceEqDiff, Nat.reduceAdd, Nat.reduceSub, Nat.reduceMul, Nat.reduceLT, Nat.reduceLeDiff, Nat.reducePow, Nat.reduceDiv, Nat.reduceMod, Int.reduceLT, Int.reduceLE, Int.reduceGT, Int.reduceGE, Int.reduceToNat, Int.reducePow, Int.reduceNeg, Int.reduceBEq, Int.reduceBNe, Int.reduceEq, Int.reduceAdd, Int.reduceSub, Int.reduceMul, cellv, sc, flatv, refs, refsF, refsC, hF.not0, hF.not1, hF.up0, hF.up1]
    exact ⟨_, _, rfl, .inl ⟨rfl, fun s hs => hk s hs⟩⟩
  | k + 1, i, e, hk => by
    have hil : i < c.l.length := by have := h.len; omega
    have h1 : (i : Int) < 258 := by omega
    have h2 : 0 ≤ (i : Int) := by omega
    have hc := At258 hil
    have hg : c.l.getD i 0 = c.l[i] := by rw [List.getD_eq_getElem?_getD, List.getElem?_eq_getElem hil]; rfl
    have hl := h.len
    have ty := tsC_sym hl
    by_cases c1 : c.l[i] > 15
    · have c1' : (c.l[i] : Int) > 15 := by omega
      rw [iter_by lb53_0.eq_1]
      simp (disch := (first | omega | (simp only [lnE] <;> omega) | (refine Fit.mono ‹Fit _ _ _› ?_ <;> (simp only [lnE] <;> omega)) | (refine Fit.draw ‹Fit _ _ _› ?_ ?_ <;> (simp only [lnE] <;> omega)) | (refine Fit.hid1 ‹Fit _ _ _› ?_ ?_ <;> (simp only [lnE] <;> omega)) | (refine Fit.hidc1 ‹Fit _ _ _› ?_ ?_ <;> (simp only [lnE] <;> omega)) | (refine Fit.hidc2 ‹Fit _ _ _› ?_ ?_ ?_ <;> (simp only [lnE] <;> omega)) | (refine Fit.draw1 ‹Fit _ _ _› ?_ ?_ ?_ <;> (simp only [lnE] <;> omega)) | (refine Fit.range0 ?_ ?_ <;> (simp only [lnE] <;> omega)) | fail)) only [syA, syB, argFr, D, E, T, C, undefv, eqF, aeq, sheqs, sheq, rdCells, cellsOf, fill, putAt, if_true, if_false, reduceIte, ↓reduceIte, reduceCtorEq, eq_self, Nat.reduceEqDiff, Nat.reduceAdd, Nat.reduceSub, Nat.reduceMul, Nat.reduceLT, Nat.reduceLeDiff, Nat.reducePow, Nat.reduceDiv, Nat.reduceMod, Int.reduceLT, Int.reduceLE, Int.reduceGT, Int.reduceGE, Int.reduceToNat, Int.reducePow, Int.reduceNeg, Int.reduceBEq, Int.reduceBNe, Int.reduceEq, Int.reduceAdd, Int.reduceSub, Int.reduceMul, cellv, sc, flatv, refs, refsF, refsC, hF.not0, hF.not1, hF.up0, hF.up1, h1, h2, hc, c1', ty, tsC_length hl]
      exact ⟨_, _, rfl, .inr ⟨rfl, rfl, fun hh => by have := (hh i (by omega)).1; omega⟩⟩
    have c1' : ¬ (c.l[i] : Int) > 15 := by omega
    by_cases c2 : c.sym ≤ (i : Int)
    · by_cases c3 : 0 < c.l[i]
      · have c3' : (c.l[i] : Int) > 0 := by omega
        have c2' : (i : Int) ≥ c.sym := c2
        rw [iter_by lb53_0.eq_1]
        simp (disch := (first | omega | (simp only [lnE] <;> omega) | (refine Fit.mono ‹Fit _ _ _› ?_ <;> (simp only [lnE] <;> omega)) | (refine Fit.draw ‹Fit _ _ _› ?_ ?_ <;> (simp only [lnE] <;> omega)) | (refine Fit.hid1 ‹Fit _ _ _› ?_ ?_ <;> (simp only [lnE] <;> omega)) | (refine Fit.hidc1 ‹Fit _ _ _› ?_ ?_ <;> (simp only [lnE] <;> omega)) | (refine Fit.hidc2 ‹Fit _ _ _› ?_ ?_ ?_ <;> (simp only [lnE] <;> omega)) | (refine Fit.draw1 ‹Fit _ _ _› ?_ ?_ ?_ <;> (simp only [lnE] <;> omega)) | (refine Fit.range0 ?_ ?_ <;> (simp only [lnE] <;> omega)) | fail)) only [syA, syB, argFr, D, E, T, C, undefv, eqF, aeq, sheqs, sheq, rdCells, cellsOf, fill, putAt, if_true, if_false, reduceIte, ↓reduceIte, reduceCtorEq, eq_self, Nat.reduceEqDiff, Nat.reduceAdd, Nat.reduceSub, Nat.reduceMul, Nat.reduceLT, Nat.reduceLeDiff, Nat.reducePow, Nat.reduceDiv, Nat.reduceMod, Int.reduceLT, Int.reduceLE, Int.reduceGT, Int.reduceGE, Int.reduceToNat, Int.reducePow, Int.reduceNeg, Int.reduceBEq, Int.reduceBNe, Int.reduceEq, Int.reduceAdd, Int.reduceSub, Int.reduceMul, cellv, sc, flatv, refs, refsF, refsC, hF.not0, hF.not1, hF.up0, hF.up1, h1, h2, hc, c1', c2', c3', ty, tsC_length hl]
        exact ⟨_, _, rfl, .inr ⟨rfl, rfl, fun hh => (hh i (by omega)).2 ⟨c2, by omega⟩⟩⟩
      · have c3' : ¬ (c.l[i] : Int) > 0 := by omega
        have c2' : (i : Int) ≥ c.sym := c2
        obtain ⟨ex, fr, e1, e2⟩ := known_loop h hF k (i + 1) (by omega) fun s hs => by
          rcases Nat.lt_or_ge s i with h3 | h3
          · exact hk s h3
          · obtain rfl : s = i := by omega
            rw [hg]; omega
        simp only [Int.natCast_add, Int.natCast_one] at e1
        rw [iter_by lb53_0.eq_1]
        simp (disch := (first | omega | (simp only [lnE] <;> omega) | (refine Fit.mono ‹Fit _ _ _› ?_ <;> (simp only [lnE] <;> omega)) | (refine Fit.draw ‹Fit _ _ _› ?_ ?_ <;> (simp only [lnE] <;> omega)) | (refine Fit.hid1 ‹Fit _ _ _› ?_ ?_ <;> (simp only [lnE] <;> omega)) | (refine Fit.hidc1 ‹Fit _ _ _› ?_ ?_ <;> (simp only [lnE] <;> omega)) | (refine Fit.hidc2 ‹Fit _ _ _› ?_ ?_ ?_ <;> (simp only [lnE] <;> omega)) | (refine Fit.draw1 ‹Fit _ _ _› ?_ ?_ ?_ <;> (simp only [lnE] <;> omega)) | (refine Fit.range0 ?_ ?_ <;> (simp only [lnE] <;> omega)) | fail)) only [syA, syB, argFr, D, E, T, C, undefv, eqF, aeq, sheqs, sheq, rdCells, cellsOf, fill, putAt, if_true, if_false, reduceIte, ↓reduceIte, reduceCtorEq, eq_self, Nat.reduceEqDiff, Nat.reduceAdd, Nat.reduceSub, Nat.reduceMul, Nat.reduceLT, Nat.reduceLeDiff, Nat.reducePow, Nat.reduceDiv, Nat.reduceMod, Int.reduceLT, Int.reduceLE, Int.reduceGT, Int.reduceGE, Int.reduceToNat, Int.reducePow, Int.reduceNeg, Int.reduceBEq, Int.reduceBNe, Int.reduceEq, Int.reduceAdd, Int.reduceSub, Int.reduceMul, cellv, sc, flatv, refs, refsF, refsC, hF.not0, hF.not1, hF.up0, hF.up1, h1, h2, hc, c1', c2', c3', ty, tsC_length hl, e1]
        exact ⟨ex, fr, rfl, e2⟩
    · have c2' : ¬ (i : Int) ≥ c.sym := c2
      obtain ⟨ex, fr, e1, e2⟩ := known_loop h hF k (i + 1) (by omega) fun s hs => by
        rcases Nat.lt_or_ge s i with h3 | h3
        · exact hk s h3
        · obtain rfl : s = i := by omega
          rw [hg]; omega
      simp only [Int.natCast_add, Int.natCast_one] at e1
      rw [iter_by lb53_0.eq_1]
      simp (disch := (first | omega | (simp only [lnE] <;> omega) | (refine Fit.mono ‹Fit _ _ _› ?_ <;> (simp only [lnE] <;> omega)) | (refine Fit.draw ‹Fit _ _ _› ?_ ?_ <;> (simp only [lnE] <;> omega)) | (refine Fit.hid1 ‹Fit _ _ _› ?_ ?_ <;> (simp only [lnE] <;> omega)) | (refine Fit.hidc1 ‹Fit _ _ _› ?_ ?_ <;> (simp only [lnE] <;> omega)) | (refine Fit.hidc2 ‹Fit _ _ _› ?_ ?_ ?_ <;> (simp only [lnE] <;> omega)) | (refine Fit.draw1 ‹Fit _ _ _› ?_ ?_ ?_ <;> (simp only [lnE] <;> omega)) | (refine Fit.range0 ?_ ?_ <;> (simp only [lnE] <;> omega)) | fail)) only [syA, syB, argFr, D, E, T, C, undefv, eqF, aeq, sheqs, sheq, rdCells, cellsOf, fill, putAt, if_true, if_false, reduceIte, ↓reduceIte, reduceCtorEq, eq_self, Nat.reduceEqDiff, Nat.reduceAdd, Nat.reduceSub, Nat.reduceMul, Nat.reduceLT, Nat.reduceLeDiff, Nat.reducePow, Nat.reduceDiv, Nat.reduceMod, Int.reduceLT, Int.reduceLE, Int.reduceGT, Int.reduceGE, Int.reduceToNat, Int.reducePow, Int.reduceNeg, Int.reduceBEq, Int.reduceBNe, Int.reduceEq, Int.reduceAdd, Int.reduceSub, Int.reduceMul, cellv, sc, flatv, refs, refsF, refsC, hF.not0, hF.not1, hF.up0, hF.up1, h1, h2, hc, c1', c2', ty, tsC_length hl, e1]
      exact ⟨ex, fr, rfl, e2⟩
theorem known_walk {c : Ts} (h : Gs c) (hF : Fit hp.length L H) : Lrun env (.func 53) [.agg (tsC c).toArray] ⟨hp, L, H, d⟩ = some (.bool (decide (Known c)), ⟨hp, L, H, d⟩) := by
  rw [Lrun_sym 53 _ _ fn53]
  have hl := h.len
  obtain ⟨ex, fr, e1, e2⟩ := known_loop h hF 258 0 rfl (fun s hs => by omega)
  simp only [Int.natCast_zero] at e1
  rcases e2 with ⟨rfl, e2⟩ | ⟨rfl, e3, e2⟩
  · rw [decide_eq_true e2]
    simp (disch := (first | omega | (simp only [lnE] <;> omega) | (refine Fit.mono ‹Fit _ _ _› ?_ <;> (simp only [lnE] <;> omega)) | (refine Fit.draw ‹Fit _ _ _› ?_ ?_ <;> (simp only [lnE] <;> omega)) | (refine Fit.hid1 ‹Fit _ _ _› ?_ ?_ <;> (simp only [lnE] <;> omega)) | (refine Fit.hidc1 ‹Fit _ _ _› ?_ ?_ <;> (simp only [lnE] <;> omega)) | (refine Fit.hidc2 ‹Fit _ _ _› ?_ ?_ ?_ <;> (simp only [lnE] <;> omega)) | (refine Fit.draw1 ‹Fit _ _ _› ?_ ?_ ?_ <;> (simp only [lnE] <;> omega)) | (refine Fit.range0 ?_ ?_ <;> (simp only [lnE] <;> omega)) | fail)) only [syA, syB, argFr, D, E, T, C, undefv, eqF, aeq, sheqs, sheq, rdCells, cellsOf, fill, putAt, if_true, if_false, reduceIte, ↓reduceIte, reduceCtorEq, eq_self, Nat.reduceEqDiff, Nat.reduceAdd, Nat.reduceSub, Nat.reduceMul, Nat.reduceLT, Nat.reduceLeDiff, Nat.reducePow, Nat.reduceDiv, Nat.reduceMod, Int.reduceLT, Int.reduceLE, Int.reduceGT, Int.reduceGE, Int.reduceToNat, Int.reducePow, Int.reduceNeg, Int.reduceBEq, Int.reduceBNe, Int.reduceEq, Int.reduceAdd, Int.reduceSub, Int.reduceMul, cellv, sc, flatv, refs, refsF, refsC, hF.not0, hF.not1, hF.up0, hF.up1, ac53, tsC_refs, tsC_cellv, tsC_sc, tsC_length hl, tsC_lens hl, e1]
  · rw [decide_eq_false e2]
    simp (disch := (first | omega | (simp only [lnE] <;> omega) | (refine Fit.mono ‹Fit _ _ _› ?_ <;> (simp only [lnE] <;> omega)) | (refine Fit.draw ‹Fit _ _ _› ?_ ?_ <;> (simp only [lnE] <;> omega)) | (refine Fit.hid1 ‹Fit _ _ _› ?_ ?_ <;> (simp only [lnE] <;> omega)) | (refine Fit.hidc1 ‹Fit _ _ _› ?_ ?_ <;> (simp only [lnE] <;> omega)) | (refine Fit.hidc2 ‹Fit _ _ _› ?_ ?_ ?_ <;> (simp only [lnE] <;> omega)) | (refine Fit.draw1 ‹Fit _ _ _› ?_ ?_ ?_ <;> (simp only [lnE] <;> omega)) | (refine Fit.range0 ?_ ?_ <;> (simp only [lnE] <;> omega)) | fail)) only [syA, syB, argFr, D, E, T, C, undefv, eqF, aeq, sheqs, sheq, rdCells, cellsOf, fill, putAt, if_true, if_false, reduceIte, ↓reduceIte, reduceCtorEq, eq_self, Nat.reduceEqDiff, Nat.reduceAdd, Nat.reduceSub, Nat.reduceMul, Nat.reduceLT, Nat.reduceLeDiff, Nat.reducePow, Nat.reduceDiv, Nat.reduceMod, Int.reduceLT, Int.reduceLE, Int.reduceGT, Int.reduceGE, Int.reduceToNat, Int.reducePow, Int.reduceNeg, Int.reduceBEq, Int.reduceBNe, Int.reduceEq, Int.reduceAdd, Int.reduceSub, Int.reduceMul, cellv, sc, flatv, refs, refsF, refsC, hF.not0, hF.not1, hF.up0, hF.up1, ac53, tsC_refs, tsC_cellv, tsC_sc, tsC_length hl, tsC_lens hl, e1, e3]
theorem valid_walk {c : Ts} (h : Gs c) (hF : Fit hp.length L H) : Lrun env (.func 15) [.agg (tsC c).toArray] ⟨hp, L, H, d⟩ = some (.bool (decide (Vld c)), ⟨hp, L, H, d⟩) := by
  rw [Lrun_sym 15 _ _ fn15]
  have hl := h.len
  have hw := fun hp L H d a b c hF => within_walk (hp := hp) (L := L) (H := H) (d := d) a b c hF
  have hbg := fun hp L H d hF => beginning_walk (hp := hp) (L := L) (H := H) (d := d) h hF
  have hkn := fun hp L H d hF => known_walk (hp := hp) (L := L) (H := H) (d := d) h hF
  have htn := fun hp L H d a b c hF => turned_walk (hp := hp) (L := L) (H := H) (d := d) a b c hF
  have htb := fun hp L H d hF => table_walk (hp := hp) (L := L) (H := H) (d := d) hl h.by_ hF
  have tb := tsC_bits hl
  have ty := tsC_sym hl
  have tn := tsC_now hl
  have tw := tsC_way hl
  by_cases c0 : Begin c
  · rw [decide_eq_true (show Vld c from .inl c0)]
    simp (disch := (first | omega | (simp only [lnE] <;> omega) | (refine Fit.mono ‹Fit _ _ _› ?_ <;> (simp only [lnE] <;> omega)) | (refine Fit.draw ‹Fit _ _ _› ?_ ?_ <;> (simp only [lnE] <;> omega)) | (refine Fit.hid1 ‹Fit _ _ _› ?_ ?_ <;> (simp only [lnE] <;> omega)) | (refine Fit.hidc1 ‹Fit _ _ _› ?_ ?_ <;> (simp only [lnE] <;> omega)) | (refine Fit.hidc2 ‹Fit _ _ _› ?_ ?_ ?_ <;> (simp only [lnE] <;> omega)) | (refine Fit.draw1 ‹Fit _ _ _› ?_ ?_ ?_ <;> (simp only [lnE] <;> omega)) | (refine Fit.range0 ?_ ?_ <;> (simp only [lnE] <;> omega)) | fail)) only [syA, syB, argFr, D, E, T, C, undefv, eqF, aeq, sheqs, sheq, rdCells, cellsOf, fill, putAt, if_true, if_false, reduceIte, ↓reduceIte, reduceCtorEq, eq_self, Nat.reduceEqDiff, Nat.reduceAdd, Nat.reduceSub, Nat.reduceMul, Nat.reduceLT, Nat.reduceLeDiff, Nat.reducePow, Nat.reduceDiv, Nat.reduceMod, Int.reduceLT, Int.reduceLE, Int.reduceGT, Int.reduceGE, Int.reduceToNat, Int.reducePow, Int.reduceNeg, Int.reduceBEq, Int.reduceBNe, Int.reduceEq, Int.reduceAdd, Int.reduceSub, Int.reduceMul, cellv, sc, flatv, refs, refsF, refsC, hF.not0, hF.not1, hF.up0, hF.up1, ac15, hw, hbg, tsC_refs, tsC_cellv, tsC_sc, c0, tsC_take hl, tsC_length hl]
  have bad : ¬ (Ranges c ∧ Known c ∧ TailF c) → decide (Vld c) = false := fun hh => decide_eq_false fun hv => hv.elim c0 hh
  by_cases c1 : 4 ≤ c.bits ∧ c.bits ≤ 5
  · by_cases c2 : 0 ≤ c.sym ∧ c.sym ≤ 258
    · by_cases c3 : 0 ≤ c.now ∧ c.now ≤ 15
      · by_cases c4 : 0 ≤ c.way ∧ c.way ≤ 2
        · by_cases c5 : Known c
          · have R : Ranges c := ⟨c1.1, c1.2, c2.1, c2.2, c3.1, c3.2, c4.1, c4.2⟩
            have e : decide (Vld c) = decide (TailF c) := by
              rw [decide_eq_decide]
              exact ⟨fun hv => hv.elim (fun hh => absurd hh c0) fun hh => hh.2.2, fun hh => .inr ⟨R, c5, hh⟩⟩
            rw [e]
            by_cases c6 : c.sym = 0
            · by_cases w0 : c.way = 0
              · have et : decide (TailF c) = true := by rw [decide_eq_true_eq]; unfold TailF; rw [if_pos c6]; exact .inl w0
                rw [et]
                simp (disch := (first | omega | (simp only [lnE] <;> omega) | (refine Fit.mono ‹Fit _ _ _› ?_ <;> (simp only [lnE] <;> omega)) | (refine Fit.draw ‹Fit _ _ _› ?_ ?_ <;> (simp only [lnE] <;> omega)) | (refine Fit.hid1 ‹Fit _ _ _› ?_ ?_ <;> (simp only [lnE] <;> omega)) | (refine Fit.hidc1 ‹Fit _ _ _› ?_ ?_ <;> (simp only [lnE] <;> omega)) | (refine Fit.hidc2 ‹Fit _ _ _› ?_ ?_ ?_ <;> (simp only [lnE] <;> omega)) | (refine Fit.draw1 ‹Fit _ _ _› ?_ ?_ ?_ <;> (simp only [lnE] <;> omega)) | (refine Fit.range0 ?_ ?_ <;> (simp only [lnE] <;> omega)) | fail)) only [syA, syB, argFr, D, E, T, C, undefv, eqF, aeq, sheqs, sheq, rdCells, cellsOf, fill, putAt, if_true, if_false, reduceIte, ↓reduceIte, reduceCtorEq, eq_self, Nat.reduceEqDiff, Nat.reduceAdd, Nat.reduceSub, Nat.reduceMul, Nat.reduceLT, Nat.reduceLeDiff, Nat.reducePow, Nat.reduceDiv, Nat.reduceMod, Int.reduceLT, Int.reduceLE, Int.reduceGT, Int.reduceGE, Int.reduceToNat, Int.reducePow, Int.reduceNeg, Int.reduceBEq, Int.reduceBNe, Int.reduceEq, Int.reduceAdd, Int.reduceSub, Int.reduceMul, cellv, sc, flatv, refs, refsF, refsC, hF.not0, hF.not1, hF.up0, hF.up1, ac15, hw, hbg, hkn, tsC_refs, tsC_cellv, tsC_sc, c0, c1, c2, c3, c4, c5, c6, w0, tb, ty, tn, tw, tsC_take hl, tsC_length hl]
              · by_cases w1 : c.way = 1
                · have et : decide (TailF c) = decide (c.now > 0) := by rw [decide_eq_decide]; unfold TailF; rw [if_pos c6]; omega
                  rw [et]
                  by_cases n0 : c.now > 0
                  · simp (disch := (first | omega | (simp only [lnE] <;> omega) | (refine Fit.mono ‹Fit _ _ _› ?_ <;> (simp only [lnE] <;> omega)) | (refine Fit.draw ‹Fit _ _ _› ?_ ?_ <;> (simp only [lnE] <;> omega)) | (refine Fit.hid1 ‹Fit _ _ _› ?_ ?_ <;> (simp only [lnE] <;> omega)) | (refine Fit.hidc1 ‹Fit _ _ _› ?_ ?_ <;> (simp only [lnE] <;> omega)) | (refine Fit.hidc2 ‹Fit _ _ _› ?_ ?_ ?_ <;> (simp only [lnE] <;> omega)) | (refine Fit.draw1 ‹Fit _ _ _› ?_ ?_ ?_ <;> (simp only [lnE] <;> omega)) | (refine Fit.range0 ?_ ?_ <;> (simp only [lnE] <;> omega)) | fail)) only [syA, syB, argFr, D, E, T, C, undefv, eqF, aeq, sheqs, sheq, rdCells, cellsOf, fill, putAt, if_true, if_false, reduceIte, ↓reduceIte, reduceCtorEq, eq_self, Nat.reduceEqDiff, Nat.reduceAdd, Nat.reduceSub, Nat.reduceMul, Nat.reduceLT, Nat.reduceLeDiff, Nat.reducePow, Nat.reduceDiv, Nat.reduceMod, Int.reduceLT, Int.reduceLE, Int.reduceGT, Int.reduceGE, Int.reduceToNat, Int.reducePow, Int.reduceNeg, Int.reduceBEq, Int.reduceBNe, Int.reduceEq, Int.reduceAdd, Int.reduceSub, Int.reduceMul, cellv, sc, flatv, refs, refsF, refsC, hF.not0, hF.not1, hF.up0, hF.up1, ac15, hw, hbg, hkn, tsC_refs, tsC_cellv, tsC_sc, c0, c1, c2, c3, c4, c5, c6, w0, w1, n0, tb, ty, tn, tw, tsC_take hl, tsC_length hl]
                  · simp (disch := (first | omega | (simp only [lnE] <;> omega) | (refine Fit.mono ‹Fit _ _ _› ?_ <;> (simp only [lnE] <;> omega)) | (refine Fit.draw ‹Fit _ _ _› ?_ ?_ <;> (simp only [lnE] <;> omega)) | (refine Fit.hid1 ‹Fit _ _ _› ?_ ?_ <;> (simp only [lnE] <;> omega)) | (refine Fit.hidc1 ‹Fit _ _ _› ?_ ?_ <;> (simp only [lnE] <;> omega)) | (refine Fit.hidc2 ‹Fit _ _ _› ?_ ?_ ?_ <;> (simp only [lnE] <;> omega)) | (refine Fit.draw1 ‹Fit _ _ _› ?_ ?_ ?_ <;> (simp only [lnE] <;> omega)) | (refine Fit.range0 ?_ ?_ <;> (simp only [lnE] <;> omega)) | fail)) only [syA, syB, argFr, D, E, T, C, undefv, eqF, aeq, sheqs, sheq, rdCells, cellsOf, fill, putAt, if_true, if_false, reduceIte, ↓reduceIte, reduceCtorEq, eq_self, Nat.reduceEqDiff, Nat.reduceAdd, Nat.reduceSub, Nat.reduceMul, Nat.reduceLT, Nat.reduceLeDiff, Nat.reducePow, Nat.reduceDiv, Nat.reduceMod, Int.reduceLT, Int.reduceLE, Int.reduceGT, Int.reduceGE, Int.reduceToNat, Int.reducePow, Int.reduceNeg, Int.reduceBEq, Int.reduceBNe, Int.reduceEq, Int.reduceAdd, Int.reduceSub, Int.reduceMul, cellv, sc, flatv, refs, refsF, refsC, hF.not0, hF.not1, hF.up0, hF.up1, ac15, hw, hbg, hkn, tsC_refs, tsC_cellv, tsC_sc, c0, c1, c2, c3, c4, c5, c6, w0, w1, n0, tb, ty, tn, tw, tsC_take hl, tsC_length hl]
                · have w2 : c.way = 2 := by omega
                  have et : decide (TailF c) = decide (c.now < 15) := by rw [decide_eq_decide]; unfold TailF; rw [if_pos c6]; omega
                  rw [et]
                  simp (disch := (first | omega | (simp only [lnE] <;> omega) | (refine Fit.mono ‹Fit _ _ _› ?_ <;> (simp only [lnE] <;> omega)) | (refine Fit.draw ‹Fit _ _ _› ?_ ?_ <;> (simp only [lnE] <;> omega)) | (refine Fit.hid1 ‹Fit _ _ _› ?_ ?_ <;> (simp only [lnE] <;> omega)) | (refine Fit.hidc1 ‹Fit _ _ _› ?_ ?_ <;> (simp only [lnE] <;> omega)) | (refine Fit.hidc2 ‹Fit _ _ _› ?_ ?_ ?_ <;> (simp only [lnE] <;> omega)) | (refine Fit.draw1 ‹Fit _ _ _› ?_ ?_ ?_ <;> (simp only [lnE] <;> omega)) | (refine Fit.range0 ?_ ?_ <;> (simp only [lnE] <;> omega)) | fail)) only [syA, syB, argFr, D, E, T, C, undefv, eqF, aeq, sheqs, sheq, rdCells, cellsOf, fill, putAt, if_true, if_false, reduceIte, ↓reduceIte, reduceCtorEq, eq_self, Nat.reduceEqDiff, Nat.reduceAdd, Nat.reduceSub, Nat.reduceMul, Nat.reduceLT, Nat.reduceLeDiff, Nat.reducePow, Nat.reduceDiv, Nat.reduceMod, Int.reduceLT, Int.reduceLE, Int.reduceGT, Int.reduceGE, Int.reduceToNat, Int.reducePow, Int.reduceNeg, Int.reduceBEq, Int.reduceBNe, Int.reduceEq, Int.reduceAdd, Int.reduceSub, Int.reduceMul, cellv, sc, flatv, refs, refsF, refsC, hF.not0, hF.not1, hF.up0, hF.up1, ac15, hw, hbg, hkn, tsC_refs, tsC_cellv, tsC_sc, c0, c1, c2, c3, c4, c5, c6, w0, w1, w2, tb, ty, tn, tw, tsC_take hl, tsC_length hl]
            · by_cases c7 : c.sym = 258
              · have hc7 : (u8s c.l)[257]? = some (.int .u8 (c.l.getD 257 0 : Nat)) := by
                  rw [At258 (by omega), List.getD_eq_getElem?_getD, List.getElem?_eq_getElem (by omega)]; rfl
                have hc8 : (tsC c)[257]? = some (.int .u8 (c.l.getD 257 0 : Nat)) := by
                  unfold tsC; rw [List.getElem?_append_left (by rw [u8s_length]; omega)]; exact hc7
                have et : decide (TailF c) = (decide (c.bits = 4) && (decide (c.way = 0) && (decide (c.now = (c.l.getD 257 0 : Nat)) && kTable c.l))) := by
                  have hT : TailF c ↔ (c.bits = 4 ∧ c.way = 0 ∧ c.now = (c.l.getD 257 0 : Nat) ∧ kTable c.l = true) := by
                    unfold TailF
                    rw [if_neg c6, if_pos c7]
                  rw [Bool.eq_iff_iff, decide_eq_true_iff, hT]
                  simp
                rw [et]
                have tl := tsC_lens hl
                have hwr : IntKind.i64.wrap ((c.l.getD 257 0 : Nat) : Int) = (c.l.getD 257 0 : Nat) := by have := (c5 257 (by omega)).1; exact w64 (by omega) (by omega)
                by_cases b4 : c.bits = 4
                · by_cases w0 : c.way = 0
                  · by_cases n0 : c.now = (c.l.getD 257 0 : Nat)
                    · have n1 : (c.now == ((c.l.getD 257 0 : Nat) : Int)) = true := by rw [int_beq, decide_eq_true n0]
                      rw [decide_eq_true n0]
                      clear n0
                      simp (disch := (first | omega | (simp only [lnE] <;> omega) | (refine Fit.mono ‹Fit _ _ _› ?_ <;> (simp only [lnE] <;> omega)) | (refine Fit.draw ‹Fit _ _ _› ?_ ?_ <;> (simp only [lnE] <;> omega)) | (refine Fit.hid1 ‹Fit _ _ _› ?_ ?_ <;> (simp only [lnE] <;> omega)) | (refine Fit.hidc1 ‹Fit _ _ _› ?_ ?_ <;> (simp only [lnE] <;> omega)) | (refine Fit.hidc2 ‹Fit _ _ _› ?_ ?_ ?_ <;> (simp only [lnE] <;> omega)) | (refine Fit.draw1 ‹Fit _ _ _› ?_ ?_ ?_ <;> (simp only [lnE] <;> omega)) | (refine Fit.range0 ?_ ?_ <;> (simp only [lnE] <;> omega)) | fail)) only [syA, syB, argFr, D, E, T, C, undefv, eqF, aeq, sheqs, sheq, rdCells, cellsOf, fill, putAt, if_true, if_false, reduceIte, ↓reduceIte, reduceCtorEq, eq_self, Nat.reduceEqDiff, Nat.reduceAdd, Nat.reduceSub, Nat.reduceMul, Nat.reduceLT, Nat.reduceLeDiff, Nat.reducePow, Nat.reduceDiv, Nat.reduceMod, Int.reduceLT, Int.reduceLE, Int.reduceGT, Int.reduceGE, Int.reduceToNat, Int.reducePow, Int.reduceNeg, Int.reduceBEq, Int.reduceBNe, Int.reduceEq, Int.reduceAdd, Int.reduceSub, Int.reduceMul, cellv, sc, flatv, refs, refsF, refsC, hF.not0, hF.not1, hF.up0, hF.up1, ac15, hw, hbg, hkn, htb, tsC_refs, tsC_cellv, tsC_sc, c0, c1, c2, c3, c4, c5, c6, c7, b4, w0, n1, hwr, hc8, tl, tb, ty, tn, tw, tsC_take hl, tsC_length hl]
                    · have n1 : (c.now == ((c.l.getD 257 0 : Nat) : Int)) = false := by rw [int_beq, decide_eq_false n0]
                      rw [decide_eq_false n0]
                      clear n0
                      simp (disch := (first | omega | (simp only [lnE] <;> omega) | (refine Fit.mono ‹Fit _ _ _› ?_ <;> (simp only [lnE] <;> omega)) | (refine Fit.draw ‹Fit _ _ _› ?_ ?_ <;> (simp only [lnE] <;> omega)) | (refine Fit.hid1 ‹Fit _ _ _› ?_ ?_ <;> (simp only [lnE] <;> omega)) | (refine Fit.hidc1 ‹Fit _ _ _› ?_ ?_ <;> (simp only [lnE] <;> omega)) | (refine Fit.hidc2 ‹Fit _ _ _› ?_ ?_ ?_ <;> (simp only [lnE] <;> omega)) | (refine Fit.draw1 ‹Fit _ _ _› ?_ ?_ ?_ <;> (simp only [lnE] <;> omega)) | (refine Fit.range0 ?_ ?_ <;> (simp only [lnE] <;> omega)) | fail)) only [syA, syB, argFr, D, E, T, C, undefv, eqF, aeq, sheqs, sheq, rdCells, cellsOf, fill, putAt, if_true, if_false, reduceIte, ↓reduceIte, reduceCtorEq, eq_self, Nat.reduceEqDiff, Nat.reduceAdd, Nat.reduceSub, Nat.reduceMul, Nat.reduceLT, Nat.reduceLeDiff, Nat.reducePow, Nat.reduceDiv, Nat.reduceMod, Int.reduceLT, Int.reduceLE, Int.reduceGT, Int.reduceGE, Int.reduceToNat, Int.reducePow, Int.reduceNeg, Int.reduceBEq, Int.reduceBNe, Int.reduceEq, Int.reduceAdd, Int.reduceSub, Int.reduceMul, cellv, sc, flatv, refs, refsF, refsC, hF.not0, hF.not1, hF.up0, hF.up1, ac15, hw, hbg, hkn, htb, tsC_refs, tsC_cellv, tsC_sc, c0, c1, c2, c3, c4, c5, c6, c7, b4, w0, n1, hwr, hc8, tl, tb, ty, tn, tw, tsC_take hl, tsC_length hl]
                  · simp (disch := (first | omega | (simp only [lnE] <;> omega) | (refine Fit.mono ‹Fit _ _ _› ?_ <;> (simp only [lnE] <;> omega)) | (refine Fit.draw ‹Fit _ _ _› ?_ ?_ <;> (simp only [lnE] <;> omega)) | (refine Fit.hid1 ‹Fit _ _ _› ?_ ?_ <;> (simp only [lnE] <;> omega)) | (refine Fit.hidc1 ‹Fit _ _ _› ?_ ?_ <;> (simp only [lnE] <;> omega)) | (refine Fit.hidc2 ‹Fit _ _ _› ?_ ?_ ?_ <;> (simp only [lnE] <;> omega)) | (refine Fit.draw1 ‹Fit _ _ _› ?_ ?_ ?_ <;> (simp only [lnE] <;> omega)) | (refine Fit.range0 ?_ ?_ <;> (simp only [lnE] <;> omega)) | fail)) only [syA, syB, argFr, D, E, T, C, undefv, eqF, aeq, sheqs, sheq, rdCells, cellsOf, fill, putAt, if_true, if_false, reduceIte, ↓reduceIte, reduceCtorEq, eq_self, Nat.reduceEqDiff, Nat.reduceAdd, Nat.reduceSub, Nat.reduceMul, Nat.reduceLT, Nat.reduceLeDiff, Nat.reducePow, Nat.reduceDiv, Nat.reduceMod, Int.reduceLT, Int.reduceLE, Int.reduceGT, Int.reduceGE, Int.reduceToNat, Int.reducePow, Int.reduceNeg, Int.reduceBEq, Int.reduceBNe, Int.reduceEq, Int.reduceAdd, Int.reduceSub, Int.reduceMul, cellv, sc, flatv, refs, refsF, refsC, hF.not0, hF.not1, hF.up0, hF.up1, ac15, hw, hbg, hkn, htb, tsC_refs, tsC_cellv, tsC_sc, c0, c1, c2, c3, c4, c5, c6, c7, b4, w0, hc8, tl, tb, ty, tn, tw, tsC_take hl, tsC_length hl]
                · simp (disch := (first | omega | (simp only [lnE] <;> omega) | (refine Fit.mono ‹Fit _ _ _› ?_ <;> (simp only [lnE] <;> omega)) | (refine Fit.draw ‹Fit _ _ _› ?_ ?_ <;> (simp only [lnE] <;> omega)) | (refine Fit.hid1 ‹Fit _ _ _› ?_ ?_ <;> (simp only [lnE] <;> omega)) | (refine Fit.hidc1 ‹Fit _ _ _› ?_ ?_ <;> (simp only [lnE] <;> omega)) | (refine Fit.hidc2 ‹Fit _ _ _› ?_ ?_ ?_ <;> (simp only [lnE] <;> omega)) | (refine Fit.draw1 ‹Fit _ _ _› ?_ ?_ ?_ <;> (simp only [lnE] <;> omega)) | (refine Fit.range0 ?_ ?_ <;> (simp only [lnE] <;> omega)) | fail)) only [syA, syB, argFr, D, E, T, C, undefv, eqF, aeq, sheqs, sheq, rdCells, cellsOf, fill, putAt, if_true, if_false, reduceIte, ↓reduceIte, reduceCtorEq, eq_self, Nat.reduceEqDiff, Nat.reduceAdd, Nat.reduceSub, Nat.reduceMul, Nat.reduceLT, Nat.reduceLeDiff, Nat.reducePow, Nat.reduceDiv, Nat.reduceMod, Int.reduceLT, Int.reduceLE, Int.reduceGT, Int.reduceGE, Int.reduceToNat, Int.reducePow, Int.reduceNeg, Int.reduceBEq, Int.reduceBNe, Int.reduceEq, Int.reduceAdd, Int.reduceSub, Int.reduceMul, cellv, sc, flatv, refs, refsF, refsC, hF.not0, hF.not1, hF.up0, hF.up1, ac15, hw, hbg, hkn, htb, tsC_refs, tsC_cellv, tsC_sc, c0, c1, c2, c3, c4, c5, c6, c7, b4, hc8, tl, tb, ty, tn, tw, tsC_take hl, tsC_length hl]
              · obtain ⟨k, hk⟩ : ∃ k : Nat, c.sym - 1 = (k : Nat) := ⟨(c.sym - 1).toNat, by omega⟩
                have k257 : k < 257 := by omega
                have hck : (tsC c)[k]? = some (.int .u8 (c.l.getD k 0 : Nat)) := by
                  unfold tsC
                  rw [List.getElem?_append_left (by rw [u8s_length]; omega), At258 (by omega), List.getD_eq_getElem?_getD, List.getElem?_eq_getElem (by omega)]; rfl
                have et : decide (TailF c) = decide (turnedP (c.l.getD k 0 : Nat) c.now c.way) := by
                  rw [decide_eq_decide]
                  unfold TailF
                  rw [if_neg c6, if_neg c7, show c.sym.toNat - 1 = k by omega]
                rw [et]
                have k0 : 0 ≤ (k : Int) ∧ (k : Int) < 258 := by omega
                have k261 : k ≤ 261 := by omega
                have hwr : IntKind.i64.wrap ((c.l.getD k 0 : Nat) : Int) = (c.l.getD k 0 : Nat) := by have := (c5 k (by omega)).1; exact w64 (by omega) (by omega)
                simp (disch := (first | omega | (simp only [lnE] <;> omega) | (refine Fit.mono ‹Fit _ _ _› ?_ <;> (simp only [lnE] <;> omega)) | (refine Fit.draw ‹Fit _ _ _› ?_ ?_ <;> (simp only [lnE] <;> omega)) | (refine Fit.hid1 ‹Fit _ _ _› ?_ ?_ <;> (simp only [lnE] <;> omega)) | (refine Fit.hidc1 ‹Fit _ _ _› ?_ ?_ <;> (simp only [lnE] <;> omega)) | (refine Fit.hidc2 ‹Fit _ _ _› ?_ ?_ ?_ <;> (simp only [lnE] <;> omega)) | (refine Fit.draw1 ‹Fit _ _ _› ?_ ?_ ?_ <;> (simp only [lnE] <;> omega)) | (refine Fit.range0 ?_ ?_ <;> (simp only [lnE] <;> omega)) | fail)) only [syA, syB, argFr, D, E, T, C, undefv, eqF, aeq, sheqs, sheq, rdCells, cellsOf, fill, putAt, if_true, if_false, reduceIte, ↓reduceIte, reduceCtorEq, eq_self, Nat.reduceEqDiff, Nat.reduceAdd, Nat.reduceSub, Nat.reduceMul, Nat.reduceLT, Nat.reduceLeDiff, Nat.reducePow, Nat.reduceDiv, Nat.reduceMod, Int.reduceLT, Int.reduceLE, Int.reduceGT, Int.reduceGE, Int.reduceToNat, Int.reducePow, Int.reduceNeg, Int.reduceBEq, Int.reduceBNe, Int.reduceEq, Int.reduceAdd, Int.reduceSub, Int.reduceMul, cellv, sc, flatv, refs, refsF, refsC, hF.not0, hF.not1, hF.up0, hF.up1, ac15, hw, hbg, hkn, htn, tsC_refs, tsC_cellv, tsC_sc, c0, c1, c2, c3, c4, c5, c6, c7, hk, k0, k261, hwr, hck, tb, ty, tn, tw, tsC_take hl, tsC_length hl]
          · rw [bad fun hh => c5 hh.2.1]
            simp (disch := (first | omega | (simp only [lnE] <;> omega) | (refine Fit.mono ‹Fit _ _ _› ?_ <;> (simp only [lnE] <;> omega)) | (refine Fit.draw ‹Fit _ _ _› ?_ ?_ <;> (simp only [lnE] <;> omega)) | (refine Fit.hid1 ‹Fit _ _ _› ?_ ?_ <;> (simp only [lnE] <;> omega)) | (refine Fit.hidc1 ‹Fit _ _ _› ?_ ?_ <;> (simp only [lnE] <;> omega)) | (refine Fit.hidc2 ‹Fit _ _ _› ?_ ?_ ?_ <;> (simp only [lnE] <;> omega)) | (refine Fit.draw1 ‹Fit _ _ _› ?_ ?_ ?_ <;> (simp only [lnE] <;> omega)) | (refine Fit.range0 ?_ ?_ <;> (simp only [lnE] <;> omega)) | fail)) only [syA, syB, argFr, D, E, T, C, undefv, eqF, aeq, sheqs, sheq, rdCells, cellsOf, fill, putAt, if_true, if_false, reduceIte, ↓reduceIte, reduceCtorEq, eq_self, Nat.reduceEqDiff, Nat.reduceAdd, Nat.reduceSub, Nat.reduceMul, Nat.reduceLT, Nat.reduceLeDiff, Nat.reducePow, Nat.reduceDiv, Nat.reduceMod, Int.reduceLT, Int.reduceLE, Int.reduceGT, Int.reduceGE, Int.reduceToNat, Int.reducePow, Int.reduceNeg, Int.reduceBEq, Int.reduceBNe, Int.reduceEq, Int.reduceAdd, Int.reduceSub, Int.reduceMul, cellv, sc, flatv, refs, refsF, refsC, hF.not0, hF.not1, hF.up0, hF.up1, ac15, hw, hbg, hkn, tsC_refs, tsC_cellv, tsC_sc, c0, c1, c2, c3, c4, c5, tb, ty, tn, tw, tsC_take hl, tsC_length hl]
        · rw [bad fun hh => c4 ⟨hh.1.way0, hh.1.way1⟩]
          simp (disch := (first | omega | (simp only [lnE] <;> omega) | (refine Fit.mono ‹Fit _ _ _› ?_ <;> (simp only [lnE] <;> omega)) | (refine Fit.draw ‹Fit _ _ _› ?_ ?_ <;> (simp only [lnE] <;> omega)) | (refine Fit.hid1 ‹Fit _ _ _› ?_ ?_ <;> (simp only [lnE] <;> omega)) | (refine Fit.hidc1 ‹Fit _ _ _› ?_ ?_ <;> (simp only [lnE] <;> omega)) | (refine Fit.hidc2 ‹Fit _ _ _› ?_ ?_ ?_ <;> (simp only [lnE] <;> omega)) | (refine Fit.draw1 ‹Fit _ _ _› ?_ ?_ ?_ <;> (simp only [lnE] <;> omega)) | (refine Fit.range0 ?_ ?_ <;> (simp only [lnE] <;> omega)) | fail)) only [syA, syB, argFr, D, E, T, C, undefv, eqF, aeq, sheqs, sheq, rdCells, cellsOf, fill, putAt, if_true, if_false, reduceIte, ↓reduceIte, reduceCtorEq, eq_self, Nat.reduceEqDiff, Nat.reduceAdd, Nat.reduceSub, Nat.reduceMul, Nat.reduceLT, Nat.reduceLeDiff, Nat.reducePow, Nat.reduceDiv, Nat.reduceMod, Int.reduceLT, Int.reduceLE, Int.reduceGT, Int.reduceGE, Int.reduceToNat, Int.reducePow, Int.reduceNeg, Int.reduceBEq, Int.reduceBNe, Int.reduceEq, Int.reduceAdd, Int.reduceSub, Int.reduceMul, cellv, sc, flatv, refs, refsF, refsC, hF.not0, hF.not1, hF.up0, hF.up1, ac15, hw, hbg, tsC_refs, tsC_cellv, tsC_sc, c0, c1, c2, c3, c4, tb, ty, tn, tw, tsC_take hl, tsC_length hl]
      · rw [bad fun hh => c3 ⟨hh.1.now0, hh.1.now1⟩]
        simp (disch := (first | omega | (simp only [lnE] <;> omega) | (refine Fit.mono ‹Fit _ _ _› ?_ <;> (simp only [lnE] <;> omega)) | (refine Fit.draw ‹Fit _ _ _› ?_ ?_ <;> (simp only [lnE] <;> omega)) | (refine Fit.hid1 ‹Fit _ _ _› ?_ ?_ <;> (simp only [lnE] <;> omega)) | (refine Fit.hidc1 ‹Fit _ _ _› ?_ ?_ <;> (simp only [lnE] <;> omega)) | (refine Fit.hidc2 ‹Fit _ _ _› ?_ ?_ ?_ <;> (simp only [lnE] <;> omega)) | (refine Fit.draw1 ‹Fit _ _ _› ?_ ?_ ?_ <;> (simp only [lnE] <;> omega)) | (refine Fit.range0 ?_ ?_ <;> (simp only [lnE] <;> omega)) | fail)) only [syA, syB, argFr, D, E, T, C, undefv, eqF, aeq, sheqs, sheq, rdCells, cellsOf, fill, putAt, if_true, if_false, reduceIte, ↓reduceIte, reduceCtorEq, eq_self, Nat.reduceEqDiff, Nat.reduceAdd, Nat.reduceSub, Nat.reduceMul, Nat.reduceLT, Nat.reduceLeDiff, Nat.reducePow, Nat.reduceDiv, Nat.reduceMod, Int.reduceLT, Int.reduceLE, Int.reduceGT, Int.reduceGE, Int.reduceToNat, Int.reducePow, Int.reduceNeg, Int.reduceBEq, Int.reduceBNe, Int.reduceEq, Int.reduceAdd, Int.reduceSub, Int.reduceMul, cellv, sc, flatv, refs, refsF, refsC, hF.not0, hF.not1, hF.up0, hF.up1, ac15, hw, hbg, tsC_refs, tsC_cellv, tsC_sc, c0, c1, c2, c3, tb, ty, tn, tw, tsC_take hl, tsC_length hl]
    · rw [bad fun hh => c2 ⟨hh.1.sym0, hh.1.sym1⟩]
      simp (disch := (first | omega | (simp only [lnE] <;> omega) | (refine Fit.mono ‹Fit _ _ _› ?_ <;> (simp only [lnE] <;> omega)) | (refine Fit.draw ‹Fit _ _ _› ?_ ?_ <;> (simp only [lnE] <;> omega)) | (refine Fit.hid1 ‹Fit _ _ _› ?_ ?_ <;> (simp only [lnE] <;> omega)) | (refine Fit.hidc1 ‹Fit _ _ _› ?_ ?_ <;> (simp only [lnE] <;> omega)) | (refine Fit.hidc2 ‹Fit _ _ _› ?_ ?_ ?_ <;> (simp only [lnE] <;> omega)) | (refine Fit.draw1 ‹Fit _ _ _› ?_ ?_ ?_ <;> (simp only [lnE] <;> omega)) | (refine Fit.range0 ?_ ?_ <;> (simp only [lnE] <;> omega)) | fail)) only [syA, syB, argFr, D, E, T, C, undefv, eqF, aeq, sheqs, sheq, rdCells, cellsOf, fill, putAt, if_true, if_false, reduceIte, ↓reduceIte, reduceCtorEq, eq_self, Nat.reduceEqDiff, Nat.reduceAdd, Nat.reduceSub, Nat.reduceMul, Nat.reduceLT, Nat.reduceLeDiff, Nat.reducePow, Nat.reduceDiv, Nat.reduceMod, Int.reduceLT, Int.reduceLE, Int.reduceGT, Int.reduceGE, Int.reduceToNat, Int.reducePow, Int.reduceNeg, Int.reduceBEq, Int.reduceBNe, Int.reduceEq, Int.reduceAdd, Int.reduceSub, Int.reduceMul, cellv, sc, flatv, refs, refsF, refsC, hF.not0, hF.not1, hF.up0, hF.up1, ac15, hw, hbg, tsC_refs, tsC_cellv, tsC_sc, c0, c1, c2, tb, ty, tn, tw, tsC_take hl, tsC_length hl]
  · rw [bad fun hh => c1 ⟨hh.1.bits0, hh.1.bits1⟩]
    simp (disch := (first | omega | (simp only [lnE] <;> omega) | (refine Fit.mono ‹Fit _ _ _› ?_ <;> (simp only [lnE] <;> omega)) | (refine Fit.draw ‹Fit _ _ _› ?_ ?_ <;> (simp only [lnE] <;> omega)) | (refine Fit.hid1 ‹Fit _ _ _› ?_ ?_ <;> (simp only [lnE] <;> omega)) | (refine Fit.hidc1 ‹Fit _ _ _› ?_ ?_ <;> (simp only [lnE] <;> omega)) | (refine Fit.hidc2 ‹Fit _ _ _› ?_ ?_ ?_ <;> (simp only [lnE] <;> omega)) | (refine Fit.draw1 ‹Fit _ _ _› ?_ ?_ ?_ <;> (simp only [lnE] <;> omega)) | (refine Fit.range0 ?_ ?_ <;> (simp only [lnE] <;> omega)) | fail)) only [syA, syB, argFr, D, E, T, C, undefv, eqF, aeq, sheqs, sheq, rdCells, cellsOf, fill, putAt, if_true, if_false, reduceIte, ↓reduceIte, reduceCtorEq, eq_self, Nat.reduceEqDiff, Nat.reduceAdd, Nat.reduceSub, Nat.reduceMul, Nat.reduceLT, Nat.reduceLeDiff, Nat.reducePow, Nat.reduceDiv, Nat.reduceMod, Int.reduceLT, Int.reduceLE, Int.reduceGT, Int.reduceGE, Int.reduceToNat, Int.reducePow, Int.reduceNeg, Int.reduceBEq, Int.reduceBNe, Int.reduceEq, Int.reduceAdd, Int.reduceSub, Int.reduceMul, cellv, sc, flatv, refs, refsF, refsC, hF.not0, hF.not1, hF.up0, hF.up1, ac15, hw, hbg, tsC_refs, tsC_cellv, tsC_sc, c0, c1, tb, ty, tn, tw, tsC_take hl, tsC_length hl]
theorem Vld.ok {c : Ts} (hl : c.l.length = 258) (h : Vld c) (hs : c.sym ≠ 258) : TsOk c := by
  obtain ⟨i, hi⟩ := h.come hl
  refine hi.ok ?_
  rcases hi with hh | ⟨f, hh⟩
  · have := hh.sym; omega
  · have := hh.sym1; omega
theorem step_walk {c : Ts} (h : Gs c) {bit : Int} (hF : Fit hp.length L H) : Lrun env (.func 14) [.agg (tsC c).toArray, .int .i64 bit] ⟨hp, L, H, d⟩ = some (.tuple #[.agg (tsC (stepF c bit).1).toArray, .bool (stepF c bit).2.1, .int .i64 (stepF c bit).2.2], ⟨hp, L, H, d⟩) := by
  rw [Lrun_sym 14 _ _ fn14]
  have hl := h.len
  have hv := fun hp L H d hF => valid_walk (hp := hp) (L := L) (H := H) (d := d) h hF
  have ty := tsC_sym hl
  have hz := zs_length
  have lz : (tsC z0).length = 262 := tsC_length (c := z0) hz
  have tkz : (tsC z0).take 262 = tsC z0 := tsC_take hz
  have pzz : putAt (tsC z0) 0 (tsC z0) = tsC z0 := putAt_full rfl
  have hfd : bit.fdiv 2 = bit / 2 := fdiv_pos _ (by decide)
  have h21 : (2 : Int) ^ (1 : Nat) = 2 := rfl
  by_cases c0 : Vld c
  · by_cases c1 : c.sym = 258
    · have e : stepF c bit = (z0, false, 2) := by unfold stepF; rw [if_neg fun hh => hh.2.1 c1]
      rw [e]
      simp (disch := (first | omega | (simp only [lnE] <;> omega) | (refine Fit.mono ‹Fit _ _ _› ?_ <;> (simp only [lnE] <;> omega)) | (refine Fit.draw ‹Fit _ _ _› ?_ ?_ <;> (simp only [lnE] <;> omega)) | (refine Fit.hid1 ‹Fit _ _ _› ?_ ?_ <;> (simp only [lnE] <;> omega)) | (refine Fit.hidc1 ‹Fit _ _ _› ?_ ?_ <;> (simp only [lnE] <;> omega)) | (refine Fit.hidc2 ‹Fit _ _ _› ?_ ?_ ?_ <;> (simp only [lnE] <;> omega)) | (refine Fit.draw1 ‹Fit _ _ _› ?_ ?_ ?_ <;> (simp only [lnE] <;> omega)) | (refine Fit.range0 ?_ ?_ <;> (simp only [lnE] <;> omega)) | fail)) only [syA, syB, argFr, D, E, T, C, undefv, eqF, aeq, sheqs, sheq, rdCells, cellsOf, fill, putAt, if_true, if_false, reduceIte, ↓reduceIte, reduceCtorEq, eq_self, Nat.reduceEqDiff, Nat.reduceAdd, Nat.reduceSub, Nat.reduceMul, Nat.reduceLT, Nat.reduceLeDiff, Nat.reducePow, Nat.reduceDiv, Nat.reduceMod, Int.reduceLT, Int.reduceLE, Int.reduceGT, Int.reduceGE, Int.reduceToNat, Int.reducePow, Int.reduceNeg, Int.reduceBEq, Int.reduceBNe, Int.reduceEq, Int.reduceAdd, Int.reduceSub, Int.reduceMul, cellv, sc, flatv, refs, refsF, refsC, hF.not0, hF.not1, hF.up0, hF.up1, ac14, hv, c0, c1, ty, z0_eq, tsC_refs, tsC_cellv, tsC_sc, tsC_take hl, tsC_length hl, lz, tkz, pzz]
    · by_cases c2 : bit = 0 ∨ bit = 1
      · obtain ⟨bn, rfl⟩ : ∃ bn : Nat, bit = (bn : Nat) := ⟨bit.toNat, by omega⟩
        have hb2 : bn < 2 := by omega
        have hq' : (bn : Int) / 2 = 0 := by omega
        have o := c0.ok hl c1
        have hnx := fun hp L H d hF => next_walk (hp := hp) (L := L) (H := H) (d := d) o hb2 hF
        have e : stepF c (bn : Int) = (if (nextF c bn).2 then ((nextF c bn).1, decide ((nextF c bn).1.sym = 258), 0) else (z0, false, 100)) := by
          unfold stepF; rw [if_pos ⟨c0, c1, c2⟩, Int.toNat_natCast]
        rw [e]
        have hln := nextF_len hl bn
        cases hf : (nextF c bn).2 with
        | false =>
          rw [hf] at hnx
          rw [if_neg (by simp)]
          generalize (nextF c bn).1 = c2 at *
          have pc : putAt (tsC c) 0 (tsC c2) = tsC c2 := putAt_full (by rw [tsC_length hln, tsC_length hl])
          simp (disch := (first | omega | (simp only [lnE] <;> omega) | (refine Fit.mono ‹Fit _ _ _› ?_ <;> (simp only [lnE] <;> omega)) | (refine Fit.draw ‹Fit _ _ _› ?_ ?_ <;> (simp only [lnE] <;> omega)) | (refine Fit.hid1 ‹Fit _ _ _› ?_ ?_ <;> (simp only [lnE] <;> omega)) | (refine Fit.hidc1 ‹Fit _ _ _› ?_ ?_ <;> (simp only [lnE] <;> omega)) | (refine Fit.hidc2 ‹Fit _ _ _› ?_ ?_ ?_ <;> (simp only [lnE] <;> omega)) | (refine Fit.draw1 ‹Fit _ _ _› ?_ ?_ ?_ <;> (simp only [lnE] <;> omega)) | (refine Fit.range0 ?_ ?_ <;> (simp only [lnE] <;> omega)) | fail)) only [syA, syB, argFr, D, E, T, C, undefv, eqF, aeq, sheqs, sheq, rdCells, cellsOf, fill, putAt, if_true, if_false, reduceIte, ↓reduceIte, reduceCtorEq, eq_self, Nat.reduceEqDiff, Nat.reduceAdd, Nat.reduceSub, Nat.reduceMul, Nat.reduceLT, Nat.reduceLeDiff, Nat.reducePow, Nat.reduceDiv, Nat.reduceMod, Int.reduceLT, Int.reduceLE, Int.reduceGT, Int.reduceGE, Int.reduceToNat, Int.reducePow, Int.reduceNeg, Int.reduceBEq, Int.reduceBNe, Int.reduceEq, Int.reduceAdd, Int.reduceSub, Int.reduceMul, cellv, sc, flatv, refs, refsF, refsC, hF.not0, hF.not1, hF.up0, hF.up1, ac14, hv, c0, c1, ty, h21, hfd, hq', hnx, z0_eq, tsC_refs, tsC_cellv, tsC_sc, tsC_take hl, tsC_length hl, tsC_take hln, tsC_length hln, pc, lz, tkz, pzz]
        | true =>
          rw [hf] at hnx
          rw [if_pos rfl]
          generalize (nextF c bn).1 = c2 at *
          have pc : putAt (tsC c) 0 (tsC c2) = tsC c2 := putAt_full (by rw [tsC_length hln, tsC_length hl])
          have pz : putAt (tsC z0) 0 (tsC c2) = tsC c2 := putAt_full (by rw [tsC_length hln, lz])
          have ty2 := tsC_sym hln
          simp (disch := (first | omega | (simp only [lnE] <;> omega) | (refine Fit.mono ‹Fit _ _ _› ?_ <;> (simp only [lnE] <;> omega)) | (refine Fit.draw ‹Fit _ _ _› ?_ ?_ <;> (simp only [lnE] <;> omega)) | (refine Fit.hid1 ‹Fit _ _ _› ?_ ?_ <;> (simp only [lnE] <;> omega)) | (refine Fit.hidc1 ‹Fit _ _ _› ?_ ?_ <;> (simp only [lnE] <;> omega)) | (refine Fit.hidc2 ‹Fit _ _ _› ?_ ?_ ?_ <;> (simp only [lnE] <;> omega)) | (refine Fit.draw1 ‹Fit _ _ _› ?_ ?_ ?_ <;> (simp only [lnE] <;> omega)) | (refine Fit.range0 ?_ ?_ <;> (simp only [lnE] <;> omega)) | fail)) only [syA, syB, argFr, D, E, T, C, undefv, eqF, aeq, sheqs, sheq, rdCells, cellsOf, fill, putAt, if_true, if_false, reduceIte, ↓reduceIte, reduceCtorEq, eq_self, Nat.reduceEqDiff, Nat.reduceAdd, Nat.reduceSub, Nat.reduceMul, Nat.reduceLT, Nat.reduceLeDiff, Nat.reducePow, Nat.reduceDiv, Nat.reduceMod, Int.reduceLT, Int.reduceLE, Int.reduceGT, Int.reduceGE, Int.reduceToNat, Int.reducePow, Int.reduceNeg, Int.reduceBEq, Int.reduceBNe, Int.reduceEq, Int.reduceAdd, Int.reduceSub, Int.reduceMul, cellv, sc, flatv, refs, refsF, refsC, hF.not0, hF.not1, hF.up0, hF.up1, ac14, hv, c0, c1, ty, ty2, h21, hfd, hq', hnx, z0_eq, tsC_refs, tsC_cellv, tsC_sc, tsC_take hl, tsC_length hl, tsC_take hln, tsC_length hln, pc, pz, lz, tkz, pzz]
          rw [int_beq]
      · have e : stepF c bit = (z0, false, 2) := by unfold stepF; rw [if_neg fun hh => c2 hh.2.2]
        have hq' : ¬ bit / 2 = 0 := by omega
        rw [e]
        simp (disch := (first | omega | (simp only [lnE] <;> omega) | (refine Fit.mono ‹Fit _ _ _› ?_ <;> (simp only [lnE] <;> omega)) | (refine Fit.draw ‹Fit _ _ _› ?_ ?_ <;> (simp only [lnE] <;> omega)) | (refine Fit.hid1 ‹Fit _ _ _› ?_ ?_ <;> (simp only [lnE] <;> omega)) | (refine Fit.hidc1 ‹Fit _ _ _› ?_ ?_ <;> (simp only [lnE] <;> omega)) | (refine Fit.hidc2 ‹Fit _ _ _› ?_ ?_ ?_ <;> (simp only [lnE] <;> omega)) | (refine Fit.draw1 ‹Fit _ _ _› ?_ ?_ ?_ <;> (simp only [lnE] <;> omega)) | (refine Fit.range0 ?_ ?_ <;> (simp only [lnE] <;> omega)) | fail)) only [syA, syB, argFr, D, E, T, C, undefv, eqF, aeq, sheqs, sheq, rdCells, cellsOf, fill, putAt, if_true, if_false, reduceIte, ↓reduceIte, reduceCtorEq, eq_self, Nat.reduceEqDiff, Nat.reduceAdd, Nat.reduceSub, Nat.reduceMul, Nat.reduceLT, Nat.reduceLeDiff, Nat.reducePow, Nat.reduceDiv, Nat.reduceMod, Int.reduceLT, Int.reduceLE, Int.reduceGT, Int.reduceGE, Int.reduceToNat, Int.reducePow, Int.reduceNeg, Int.reduceBEq, Int.reduceBNe, Int.reduceEq, Int.reduceAdd, Int.reduceSub, Int.reduceMul, cellv, sc, flatv, refs, refsF, refsC, hF.not0, hF.not1, hF.up0, hF.up1, ac14, hv, c0, c1, ty, h21, hfd, hq', z0_eq, tsC_refs, tsC_cellv, tsC_sc, tsC_take hl, tsC_length hl, lz, tkz, pzz]
  · have e : stepF c bit = (z0, false, 2) := by unfold stepF; rw [if_neg fun hh => c0 hh.1]
    rw [e]
    simp (disch := (first | omega | (simp only [lnE] <;> omega) | (refine Fit.mono ‹Fit _ _ _› ?_ <;> (simp only [lnE] <;> omega)) | (refine Fit.draw ‹Fit _ _ _› ?_ ?_ <;> (simp only [lnE] <;> omega)) | (refine Fit.hid1 ‹Fit _ _ _› ?_ ?_ <;> (simp only [lnE] <;> omega)) | (refine Fit.hidc1 ‹Fit _ _ _› ?_ ?_ <;> (simp only [lnE] <;> omega)) | (refine Fit.hidc2 ‹Fit _ _ _› ?_ ?_ ?_ <;> (simp only [lnE] <;> omega)) | (refine Fit.draw1 ‹Fit _ _ _› ?_ ?_ ?_ <;> (simp only [lnE] <;> omega)) | (refine Fit.range0 ?_ ?_ <;> (simp only [lnE] <;> omega)) | fail)) only [syA, syB, argFr, D, E, T, C, undefv, eqF, aeq, sheqs, sheq, rdCells, cellsOf, fill, putAt, if_true, if_false, reduceIte, ↓reduceIte, reduceCtorEq, eq_self, Nat.reduceEqDiff, Nat.reduceAdd, Nat.reduceSub, Nat.reduceMul, Nat.reduceLT, Nat.reduceLeDiff, Nat.reducePow, Nat.reduceDiv, Nat.reduceMod, Int.reduceLT, Int.reduceLE, Int.reduceGT, Int.reduceGE, Int.reduceToNat, Int.reducePow, Int.reduceNeg, Int.reduceBEq, Int.reduceBNe, Int.reduceEq, Int.reduceAdd, Int.reduceSub, Int.reduceMul, cellv, sc, flatv, refs, refsF, refsC, hF.not0, hF.not1, hF.up0, hF.up1, ac14, hv, c0, z0_eq, tsC_refs, tsC_cellv, tsC_sc, tsC_take hl, tsC_length hl, lz, tkz, pzz]
end LtA
end Go.Proofs.Ytlphmnhkkhcjfaa
end
