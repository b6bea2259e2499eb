/-
  WALKS WITH A TABLE: Valid, New, Next, Valid of a walk, on the abstract machine. Conditions: none.
-/
import Derived.Test.YtlbdgbfblgjjgaaWkPlain
import Derived.Test.YtlbdgbfblgjjgaaSufTurn
set_option linter.all false
namespace Go.Proofs.Ytlbdgbfblgjjgaa
namespace ArA
open Go Go.RowKit AM ArEnv
/-- What the row w of the table says. -/
def tv (x : List Nat) (ix w : Nat) : Nat := if w = ix then 0 else nxR x ix w
theorem tv_le {x : List Nat} {ix w : Nat} (hw : w ≤ x.length) (hix : ix ≤ x.length) : tv x ix w ≤ x.length := by
  unfold tv; split
  · omega
  · rename_i h; exact nxR_le hw hix h
/-- B is A, but for the first n words from t on, which are the table's. -/
structure Tabled (A B : Arn) (t : Nat) (x : List Nat) (ix n : Nat) : Prop where
  live : B.live = A.live
  peak : B.peak = A.peak
  len : B.bs.length = A.bs.length
  by_ : By B.bs
  out : ∀ p, p < t ∨ t + 4 * n ≤ p → B.bs[p]? = A.bs[p]?
  word : ∀ w, w < n → ∀ j, j < 4 → B.bs[t + 4 * w + j]? = (split4 (tv x ix w))[j]?
theorem Tabled.zero {A : Arn} (h : By A.bs) (t : Nat) (x : List Nat) (ix : Nat) : Tabled A A t x ix 0 := ⟨rfl, rfl, rfl, h, fun _ _ => rfl, fun w hw => by omega⟩
theorem Tabled.ok {A B : Arn} {t : Nat} {x : List Nat} {ix n m r q : Nat} {H : List Nat} (h : Tabled A B t x ix n) (o : ArOk m r q H A) : ArOk m r q H B where
  r_lt := o.r_lt
  q_lt := o.q_lt
  ne := o.ne
  by_ := h.by_
  live0 := by rw [h.live]; exact o.live0
  live1 := by rw [h.live, h.len]; exact o.live1
  peak0 := by rw [h.peak]; exact o.peak0
  peak1 := by rw [h.peak, h.len]; exact o.peak1
  size := by rw [h.len]; exact o.size
  hr := o.hr
  hq := o.hq
theorem Tabled.next {A B : Arn} {t z : Nat} {x : List Nat} {ix n : Nat} (h : Tabled A B t x ix n) (hz : (t : Int) + z ≤ A.live) (h1 : A.live ≤ A.bs.length) (hn : 4 * n + 4 ≤ z) (hs : z ≤ 1048576) :
    B.wpart t z n = true ∧ Tabled A (B.setWord t z n (tv x ix n)) t x ix (n + 1) := by
  have hw : B.wpart t z n = true := by
    unfold Arn.wpart
    rw [Bool.and_eq_true, decide_eq_true_eq, Arn.part_iff, h.live]
    omega
  refine ⟨hw, ?_⟩
  have e : B.setWord t z n (tv x ix n) = ⟨putN B.bs (t + 4 * n) (split4 (tv x ix n)), B.live, B.peak⟩ := by
    unfold Arn.setWord
    rw [if_pos hw]
    unfold Arn.setAt
    rw [show ((t : Int) + 4 * (n : Int)).toNat = t + 4 * n by omega]
  have hl4 : (split4 (tv x ix n)).length = 4 := rfl
  have hfit : t + 4 * n + (split4 (tv x ix n)).length ≤ B.bs.length := by rw [hl4, h.len]; omega
  rw [e]
  refine ⟨h.live, h.peak, by show (putN _ _ _).length = _; rw [putN_length hfit, h.len], putN_by h.by_ (split4_by _), fun p hp => ?_, fun w hw2 j hj => ?_⟩
  · show (putN _ _ _)[p]? = _
    rw [putN_get hfit, if_neg (by rw [hl4]; omega)]
    exact h.out p (by omega)
  · show (putN _ _ _)[t + 4 * w + j]? = _
    rw [putN_get hfit, hl4]
    by_cases hwn : w = n
    · subst hwn
      rw [if_pos (by omega), show t + 4 * w + j - (t + 4 * w) = j by omega]
    · rw [if_neg (by omega)]
      exact h.word w (by omega) j hj
theorem Tabled.wordV {A B : Arn} {t z : Nat} {x : List Nat} {ix n w : Nat} (h : Tabled A B t x ix n) (hz : (t : Int) + z ≤ A.live) (hn : 4 * n ≤ z) (hs : z ≤ 1048576) (hw : w < n) (hx : x.length ≤ 65536) (hwx : w ≤ x.length) (hix : ix ≤ x.length) : B.wpart t z w = true ∧ B.wordV t z w = tv x ix w := by
  have hp : B.wpart t z w = true := by
    unfold Arn.wpart
    rw [Bool.and_eq_true, decide_eq_true_eq, Arn.part_iff, h.live]
    omega
  refine ⟨hp, ?_⟩
  have sl : ∀ j, j < 4 → B.slot t (4 * (w : Int) + (j : Nat)) = ((split4 (tv x ix w))[j]?).getD 0 := fun j hj => by
    unfold Arn.slot
    rw [show ((t : Int) + (4 * (w : Int) + (j : Nat))).toNat = t + 4 * w + j by omega, List.getD_eq_getElem?_getD, h.word w hw j hj]
  have s0 := sl 0 (by omega); have s1 := sl 1 (by omega); have s2 := sl 2 (by omega); have s3 := sl 3 (by omega)
  have hv := tv_le hwx hix
  unfold Arn.wordV
  rw [if_pos hp]
  simp only [Int.natCast_zero, Int.add_zero, Int.natCast_one, Int.cast_ofNat_Int] at s0 s1 s2 s3
  rw [s0, s1, s2, s3]
  exact le4_split (by omega)
theorem Tabled.holds {A B : Arn} {s t : Nat} {x : List Nat} {ix n : Nat} (h : Tabled A B t x ix n) (hx : Holds A s x) (hap : ∀ i, i < x.length → s + i < t ∨ t + 4 * n ≤ s + i) : Holds B s x :=
  ⟨by rw [h.live]; exact hx.live, fun i hi => by rw [h.out _ (hap i hi)]; exact hx.get i hi⟩
def tValid (A : Arn) (s m t z : Int) : Bool := A.has s m && A.has t z && decide (1 ≤ m ∧ m ≤ 65536) && decide (4 * (m + 1) ≤ z) && decide (s + m ≤ t ∨ t + z ≤ s)
theorem tValid_live {A B : Arn} (h : B.live = A.live) (s m t z : Int) : tValid B s m t z = tValid A s m t z := by
  unfold tValid; rw [has_live h, has_live h]
theorem tValid_parts {A : Arn} {s m t z : Int} (h : tValid A s m t z = true) : A.has s m = true ∧ A.has t z = true ∧ (1 ≤ m ∧ m ≤ 65536) ∧ 4 * (m + 1) ≤ z ∧ (s + m ≤ t ∨ t + z ≤ s) := by
  unfold tValid at h
  simp only [Bool.and_eq_true, decide_eq_true_eq] at h
  exact ⟨h.1.1.1.1, h.1.1.1.2, h.1.1.2, h.1.2, h.2⟩
/-- A walk's cells. -/
def fB (r s t z ix m row told steps : Nat) : Blk := .cells 0 false [arP r, .int .i64 s, .int .i64 m, .int .i64 t, .int .i64 z, .int .i64 ix, .int .i64 row, .int .i64 told, .int .i64 steps]
section
variable {hp : List Blk} {L : Nat} {H d : List Nat} {r q f : Nat} {A B : Arn} {s t z ix : Nat} {x : List Nat} {row told steps : Nat}
set_option maxRecDepth 20000 in
theorem tvalid_walk (hF : Fit hp.length L H) (k : ArOk hp.length r q H A) (s m t z : Int) :
    Lrun env (.func 19) [arP r, .agg #[.int .i64 s, .int .i64 m], .agg #[.int .i64 t, .int .i64 z]] ⟨put hp r q A, L, H, d⟩ = some (.bool (tValid A s m t z), ⟨put hp r q A, L, H, d⟩) := by
  have h1 := k.r_lt
  have h2 := k.q_lt
  have h3 := k.live0
  have h4 := k.live1
  have h5 := k.size
  rw [Lrun_sym 19 _ _ fn19]
  cases c1 : A.has s m with
  | false =>
    have e : tValid A s m t z = false := by unfold tValid; simp [c1]
    rw [e]
    simp (disch := (first | omega | (simp only [lnE, put_length] <;> omega) | (refine Fit.mono ‹Fit _ _ _› ?_ <;> (simp only [lnE, put_length] <;> omega)) | (refine Fit.draw ‹Fit _ _ _› ?_ ?_ <;> (simp only [lnE, put_length] <;> omega)) | (refine Fit.hid1 ‹Fit _ _ _› ?_ ?_ <;> (simp only [lnE, put_length] <;> omega)) | (refine Fit.draw1 ‹Fit _ _ _› ?_ ?_ ?_ <;> (simp only [lnE, put_length] <;> omega)) | (refine Fit.range0 ?_ ?_ <;> (simp only [lnE, put_length] <;> omega)) | (refine ArOk.mono ‹ArOk _ _ _ _ _› ?_ <;> (simp only [lnE, put_length] <;> omega)) | (refine ArOk.hid ‹ArOk _ _ _ _ _› ?_ ?_ <;> (simp only [lnE, put_length] <;> omega)) | (refine ArOk.hid0 ‹ArOk _ _ _ _ _› ?_ ?_ <;> (simp only [lnE, put_length] <;> omega)) | ((intro xr hxr; simp [AM.refs, refsF, refsC] at hxr) <;> (simp only [lnE, put_length] <;> omega)) | fail)) only [syA, syB, argFr, D, E, T, C, undefv, eqF, aeq, sheqs, sheq, rdCells, cellsOf, fill, putAt, if_true, if_false, reduceIte, ↓reduceIte, reduceCtorEq, eq_self, Nat.reduceEqDiff, Nat.reduceAdd, Nat.reduceSub, Nat.reduceMul, Nat.reduceLT, Nat.reduceLeDiff, Nat.reducePow, Nat.reduceDiv, Nat.reduceMod, Int.reduceLT, Int.reduceLE, Int.reduceGT, Int.reduceGE, Int.reduceToNat, Int.reducePow, Int.reduceNeg, Int.reduceBEq, Int.reduceBNe, Int.reduceEq, Int.reduceAdd, Int.reduceSub, Int.reduceMul, cellv, sc, flatv, refs, refsF, refsC, syR, Int.le_refl, hF.not0, hF.not1, hF.up0, hF.up1, k.hr, k.hq, ac19, has_walk, c1]
  | true =>
    cases c2 : A.has t z with
    | false =>
      have e : tValid A s m t z = false := by unfold tValid; simp [c2]
      rw [e]
      simp (disch := (first | omega | (simp only [lnE, put_length] <;> omega) | (refine Fit.mono ‹Fit _ _ _› ?_ <;> (simp only [lnE, put_length] <;> omega)) | (refine Fit.draw ‹Fit _ _ _› ?_ ?_ <;> (simp only [lnE, put_length] <;> omega)) | (refine Fit.hid1 ‹Fit _ _ _› ?_ ?_ <;> (simp only [lnE, put_length] <;> omega)) | (refine Fit.draw1 ‹Fit _ _ _› ?_ ?_ ?_ <;> (simp only [lnE, put_length] <;> omega)) | (refine Fit.range0 ?_ ?_ <;> (simp only [lnE, put_length] <;> omega)) | (refine ArOk.mono ‹ArOk _ _ _ _ _› ?_ <;> (simp only [lnE, put_length] <;> omega)) | (refine ArOk.hid ‹ArOk _ _ _ _ _› ?_ ?_ <;> (simp only [lnE, put_length] <;> omega)) | (refine ArOk.hid0 ‹ArOk _ _ _ _ _› ?_ ?_ <;> (simp only [lnE, put_length] <;> omega)) | ((intro xr hxr; simp [AM.refs, refsF, refsC] at hxr) <;> (simp only [lnE, put_length] <;> omega)) | fail)) only [syA, syB, argFr, D, E, T, C, undefv, eqF, aeq, sheqs, sheq, rdCells, cellsOf, fill, putAt, if_true, if_false, reduceIte, ↓reduceIte, reduceCtorEq, eq_self, Nat.reduceEqDiff, Nat.reduceAdd, Nat.reduceSub, Nat.reduceMul, Nat.reduceLT, Nat.reduceLeDiff, Nat.reducePow, Nat.reduceDiv, Nat.reduceMod, Int.reduceLT, Int.reduceLE, Int.reduceGT, Int.reduceGE, Int.reduceToNat, Int.reducePow, Int.reduceNeg, Int.reduceBEq, Int.reduceBNe, Int.reduceEq, Int.reduceAdd, Int.reduceSub, Int.reduceMul, cellv, sc, flatv, refs, refsF, refsC, syR, Int.le_refl, hF.not0, hF.not1, hF.up0, hF.up1, k.hr, k.hq, ac19, has_walk, c1, c2]
    | true =>
      have b1 := Arn.has_iff.1 c1
      have b2 := Arn.has_iff.1 c2
      by_cases c3 : m < 1
      · have e : tValid A s m t z = false := by unfold tValid; rw [decide_eq_false (p := 1 ≤ m ∧ m ≤ 65536) (by omega)]; simp
        rw [e]
        simp (disch := (first | omega | (simp only [lnE, put_length] <;> omega) | (refine Fit.mono ‹Fit _ _ _› ?_ <;> (simp only [lnE, put_length] <;> omega)) | (refine Fit.draw ‹Fit _ _ _› ?_ ?_ <;> (simp only [lnE, put_length] <;> omega)) | (refine Fit.hid1 ‹Fit _ _ _› ?_ ?_ <;> (simp only [lnE, put_length] <;> omega)) | (refine Fit.draw1 ‹Fit _ _ _› ?_ ?_ ?_ <;> (simp only [lnE, put_length] <;> omega)) | (refine Fit.range0 ?_ ?_ <;> (simp only [lnE, put_length] <;> omega)) | (refine ArOk.mono ‹ArOk _ _ _ _ _› ?_ <;> (simp only [lnE, put_length] <;> omega)) | (refine ArOk.hid ‹ArOk _ _ _ _ _› ?_ ?_ <;> (simp only [lnE, put_length] <;> omega)) | (refine ArOk.hid0 ‹ArOk _ _ _ _ _› ?_ ?_ <;> (simp only [lnE, put_length] <;> omega)) | ((intro xr hxr; simp [AM.refs, refsF, refsC] at hxr) <;> (simp only [lnE, put_length] <;> omega)) | fail)) only [syA, syB, argFr, D, E, T, C, undefv, eqF, aeq, sheqs, sheq, rdCells, cellsOf, fill, putAt, if_true, if_false, reduceIte, ↓reduceIte, reduceCtorEq, eq_self, Nat.reduceEqDiff, Nat.reduceAdd, Nat.reduceSub, Nat.reduceMul, Nat.reduceLT, Nat.reduceLeDiff, Nat.reducePow, Nat.reduceDiv, Nat.reduceMod, Int.reduceLT, Int.reduceLE, Int.reduceGT, Int.reduceGE, Int.reduceToNat, Int.reducePow, Int.reduceNeg, Int.reduceBEq, Int.reduceBNe, Int.reduceEq, Int.reduceAdd, Int.reduceSub, Int.reduceMul, cellv, sc, flatv, refs, refsF, refsC, syR, Int.le_refl, hF.not0, hF.not1, hF.up0, hF.up1, k.hr, k.hq, ac19, has_walk, c1, c2, c3]
      by_cases c4 : m > 65536
      · have e : tValid A s m t z = false := by unfold tValid; rw [decide_eq_false (p := 1 ≤ m ∧ m ≤ 65536) (by omega)]; simp
        rw [e]
        simp (disch := (first | omega | (simp only [lnE, put_length] <;> omega) | (refine Fit.mono ‹Fit _ _ _› ?_ <;> (simp only [lnE, put_length] <;> omega)) | (refine Fit.draw ‹Fit _ _ _› ?_ ?_ <;> (simp only [lnE, put_length] <;> omega)) | (refine Fit.hid1 ‹Fit _ _ _› ?_ ?_ <;> (simp only [lnE, put_length] <;> omega)) | (refine Fit.draw1 ‹Fit _ _ _› ?_ ?_ ?_ <;> (simp only [lnE, put_length] <;> omega)) | (refine Fit.range0 ?_ ?_ <;> (simp only [lnE, put_length] <;> omega)) | (refine ArOk.mono ‹ArOk _ _ _ _ _› ?_ <;> (simp only [lnE, put_length] <;> omega)) | (refine ArOk.hid ‹ArOk _ _ _ _ _› ?_ ?_ <;> (simp only [lnE, put_length] <;> omega)) | (refine ArOk.hid0 ‹ArOk _ _ _ _ _› ?_ ?_ <;> (simp only [lnE, put_length] <;> omega)) | ((intro xr hxr; simp [AM.refs, refsF, refsC] at hxr) <;> (simp only [lnE, put_length] <;> omega)) | fail)) only [syA, syB, argFr, D, E, T, C, undefv, eqF, aeq, sheqs, sheq, rdCells, cellsOf, fill, putAt, if_true, if_false, reduceIte, ↓reduceIte, reduceCtorEq, eq_self, Nat.reduceEqDiff, Nat.reduceAdd, Nat.reduceSub, Nat.reduceMul, Nat.reduceLT, Nat.reduceLeDiff, Nat.reducePow, Nat.reduceDiv, Nat.reduceMod, Int.reduceLT, Int.reduceLE, Int.reduceGT, Int.reduceGE, Int.reduceToNat, Int.reducePow, Int.reduceNeg, Int.reduceBEq, Int.reduceBNe, Int.reduceEq, Int.reduceAdd, Int.reduceSub, Int.reduceMul, cellv, sc, flatv, refs, refsF, refsC, syR, Int.le_refl, hF.not0, hF.not1, hF.up0, hF.up1, k.hr, k.hq, ac19, has_walk, c1, c2, c3, c4]
      by_cases c5 : z < 4 * (m + 1)
      · have e : tValid A s m t z = false := by unfold tValid; rw [decide_eq_false (p := 4 * (m + 1) ≤ z) (by omega)]; simp
        rw [e]
        simp (disch := (first | omega | (simp only [lnE, put_length] <;> omega) | (refine Fit.mono ‹Fit _ _ _› ?_ <;> (simp only [lnE, put_length] <;> omega)) | (refine Fit.draw ‹Fit _ _ _› ?_ ?_ <;> (simp only [lnE, put_length] <;> omega)) | (refine Fit.hid1 ‹Fit _ _ _› ?_ ?_ <;> (simp only [lnE, put_length] <;> omega)) | (refine Fit.draw1 ‹Fit _ _ _› ?_ ?_ ?_ <;> (simp only [lnE, put_length] <;> omega)) | (refine Fit.range0 ?_ ?_ <;> (simp only [lnE, put_length] <;> omega)) | (refine ArOk.mono ‹ArOk _ _ _ _ _› ?_ <;> (simp only [lnE, put_length] <;> omega)) | (refine ArOk.hid ‹ArOk _ _ _ _ _› ?_ ?_ <;> (simp only [lnE, put_length] <;> omega)) | (refine ArOk.hid0 ‹ArOk _ _ _ _ _› ?_ ?_ <;> (simp only [lnE, put_length] <;> omega)) | ((intro xr hxr; simp [AM.refs, refsF, refsC] at hxr) <;> (simp only [lnE, put_length] <;> omega)) | fail)) only [syA, syB, argFr, D, E, T, C, undefv, eqF, aeq, sheqs, sheq, rdCells, cellsOf, fill, putAt, if_true, if_false, reduceIte, ↓reduceIte, reduceCtorEq, eq_self, Nat.reduceEqDiff, Nat.reduceAdd, Nat.reduceSub, Nat.reduceMul, Nat.reduceLT, Nat.reduceLeDiff, Nat.reducePow, Nat.reduceDiv, Nat.reduceMod, Int.reduceLT, Int.reduceLE, Int.reduceGT, Int.reduceGE, Int.reduceToNat, Int.reducePow, Int.reduceNeg, Int.reduceBEq, Int.reduceBNe, Int.reduceEq, Int.reduceAdd, Int.reduceSub, Int.reduceMul, cellv, sc, flatv, refs, refsF, refsC, syR, Int.le_refl, hF.not0, hF.not1, hF.up0, hF.up1, k.hr, k.hq, ac19, has_walk, c1, c2, c3, c4, c5]
      have e : tValid A s m t z = decide (s + m ≤ t ∨ t + z ≤ s) := by
        unfold tValid; rw [c1, c2, decide_eq_true (p := 1 ≤ m ∧ m ≤ 65536) (by omega), decide_eq_true (p := 4 * (m + 1) ≤ z) (by omega)]; simp
      rw [e]
      by_cases c6 : s + m ≤ t
      · have e6 : decide (s + m ≤ t ∨ t + z ≤ s) = true := by simp [c6]
        rw [e6]
        simp (disch := (first | omega | (simp only [lnE, put_length] <;> omega) | (refine Fit.mono ‹Fit _ _ _› ?_ <;> (simp only [lnE, put_length] <;> omega)) | (refine Fit.draw ‹Fit _ _ _› ?_ ?_ <;> (simp only [lnE, put_length] <;> omega)) | (refine Fit.hid1 ‹Fit _ _ _› ?_ ?_ <;> (simp only [lnE, put_length] <;> omega)) | (refine Fit.draw1 ‹Fit _ _ _› ?_ ?_ ?_ <;> (simp only [lnE, put_length] <;> omega)) | (refine Fit.range0 ?_ ?_ <;> (simp only [lnE, put_length] <;> omega)) | (refine ArOk.mono ‹ArOk _ _ _ _ _› ?_ <;> (simp only [lnE, put_length] <;> omega)) | (refine ArOk.hid ‹ArOk _ _ _ _ _› ?_ ?_ <;> (simp only [lnE, put_length] <;> omega)) | (refine ArOk.hid0 ‹ArOk _ _ _ _ _› ?_ ?_ <;> (simp only [lnE, put_length] <;> omega)) | ((intro xr hxr; simp [AM.refs, refsF, refsC] at hxr) <;> (simp only [lnE, put_length] <;> omega)) | fail)) only [syA, syB, argFr, D, E, T, C, undefv, eqF, aeq, sheqs, sheq, rdCells, cellsOf, fill, putAt, if_true, if_false, reduceIte, ↓reduceIte, reduceCtorEq, eq_self, Nat.reduceEqDiff, Nat.reduceAdd, Nat.reduceSub, Nat.reduceMul, Nat.reduceLT, Nat.reduceLeDiff, Nat.reducePow, Nat.reduceDiv, Nat.reduceMod, Int.reduceLT, Int.reduceLE, Int.reduceGT, Int.reduceGE, Int.reduceToNat, Int.reducePow, Int.reduceNeg, Int.reduceBEq, Int.reduceBNe, Int.reduceEq, Int.reduceAdd, Int.reduceSub, Int.reduceMul, cellv, sc, flatv, refs, refsF, refsC, syR, Int.le_refl, hF.not0, hF.not1, hF.up0, hF.up1, k.hr, k.hq, ac19, has_walk, c1, c2, c3, c4, c5, c6]
      · by_cases c7 : t + z ≤ s
        · have e6 : decide (s + m ≤ t ∨ t + z ≤ s) = true := by simp [c7]
          rw [e6]
          simp (disch := (first | omega | (simp only [lnE, put_length] <;> omega) | (refine Fit.mono ‹Fit _ _ _› ?_ <;> (simp only [lnE, put_length] <;> omega)) | (refine Fit.draw ‹Fit _ _ _› ?_ ?_ <;> (simp only [lnE, put_length] <;> omega)) | (refine Fit.hid1 ‹Fit _ _ _› ?_ ?_ <;> (simp only [lnE, put_length] <;> omega)) | (refine Fit.draw1 ‹Fit _ _ _› ?_ ?_ ?_ <;> (simp only [lnE, put_length] <;> omega)) | (refine Fit.range0 ?_ ?_ <;> (simp only [lnE, put_length] <;> omega)) | (refine ArOk.mono ‹ArOk _ _ _ _ _› ?_ <;> (simp only [lnE, put_length] <;> omega)) | (refine ArOk.hid ‹ArOk _ _ _ _ _› ?_ ?_ <;> (simp only [lnE, put_length] <;> omega)) | (refine ArOk.hid0 ‹ArOk _ _ _ _ _› ?_ ?_ <;> (simp only [lnE, put_length] <;> omega)) | ((intro xr hxr; simp [AM.refs, refsF, refsC] at hxr) <;> (simp only [lnE, put_length] <;> omega)) | fail)) only [syA, syB, argFr, D, E, T, C, undefv, eqF, aeq, sheqs, sheq, rdCells, cellsOf, fill, putAt, if_true, if_false, reduceIte, ↓reduceIte, reduceCtorEq, eq_self, Nat.reduceEqDiff, Nat.reduceAdd, Nat.reduceSub, Nat.reduceMul, Nat.reduceLT, Nat.reduceLeDiff, Nat.reducePow, Nat.reduceDiv, Nat.reduceMod, Int.reduceLT, Int.reduceLE, Int.reduceGT, Int.reduceGE, Int.reduceToNat, Int.reducePow, Int.reduceNeg, Int.reduceBEq, Int.reduceBNe, Int.reduceEq, Int.reduceAdd, Int.reduceSub, Int.reduceMul, cellv, sc, flatv, refs, refsF, refsC, syR, Int.le_refl, hF.not0, hF.not1, hF.up0, hF.up1, k.hr, k.hq, ac19, has_walk, c1, c2, c3, c4, c5, c6, c7]
        · have e6 : decide (s + m ≤ t ∨ t + z ≤ s) = false := by simp [c6, c7]
          rw [e6]
          simp (disch := (first | omega | (simp only [lnE, put_length] <;> omega) | (refine Fit.mono ‹Fit _ _ _› ?_ <;> (simp only [lnE, put_length] <;> omega)) | (refine Fit.draw ‹Fit _ _ _› ?_ ?_ <;> (simp only [lnE, put_length] <;> omega)) | (refine Fit.hid1 ‹Fit _ _ _› ?_ ?_ <;> (simp only [lnE, put_length] <;> omega)) | (refine Fit.draw1 ‹Fit _ _ _› ?_ ?_ ?_ <;> (simp only [lnE, put_length] <;> omega)) | (refine Fit.range0 ?_ ?_ <;> (simp only [lnE, put_length] <;> omega)) | (refine ArOk.mono ‹ArOk _ _ _ _ _› ?_ <;> (simp only [lnE, put_length] <;> omega)) | (refine ArOk.hid ‹ArOk _ _ _ _ _› ?_ ?_ <;> (simp only [lnE, put_length] <;> omega)) | (refine ArOk.hid0 ‹ArOk _ _ _ _ _› ?_ ?_ <;> (simp only [lnE, put_length] <;> omega)) | ((intro xr hxr; simp [AM.refs, refsF, refsC] at hxr) <;> (simp only [lnE, put_length] <;> omega)) | fail)) only [syA, syB, argFr, D, E, T, C, undefv, eqF, aeq, sheqs, sheq, rdCells, cellsOf, fill, putAt, if_true, if_false, reduceIte, ↓reduceIte, reduceCtorEq, eq_self, Nat.reduceEqDiff, Nat.reduceAdd, Nat.reduceSub, Nat.reduceMul, Nat.reduceLT, Nat.reduceLeDiff, Nat.reducePow, Nat.reduceDiv, Nat.reduceMod, Int.reduceLT, Int.reduceLE, Int.reduceGT, Int.reduceGE, Int.reduceToNat, Int.reducePow, Int.reduceNeg, Int.reduceBEq, Int.reduceBNe, Int.reduceEq, Int.reduceAdd, Int.reduceSub, Int.reduceMul, cellv, sc, flatv, refs, refsF, refsC, syR, Int.le_refl, hF.not0, hF.not1, hF.up0, hF.up1, k.hr, k.hq, ac19, has_walk, c1, c2, c3, c4, c5, c6, c7]
theorem tbyte_none (hF : Fit hp.length L H) (k : ArOk hp.length r q H A) (hfr : r ≠ f) (hfq : q ≠ f) (hid : H.contains f = false) (hb : hp[f]? = some (fB r s t z ix x.length row told steps)) :
    Lrun env (.func 48) [.pointer (some ⟨f, 0, some 0⟩), .int .i64 ix] ⟨put hp r q A, L, H, d⟩ = some (.tuple #[.int .u8 0, .bool false], ⟨put hp r q A, L, H, d⟩) := by
  unfold fB at hb
  rw [Lrun_sym 48 _ _ fn48]
  simp (disch := (first | omega | (simp only [lnE, put_length] <;> omega) | (refine Fit.mono ‹Fit _ _ _› ?_ <;> (simp only [lnE, put_length] <;> omega)) | (refine Fit.draw ‹Fit _ _ _› ?_ ?_ <;> (simp only [lnE, put_length] <;> omega)) | (refine Fit.hid1 ‹Fit _ _ _› ?_ ?_ <;> (simp only [lnE, put_length] <;> omega)) | (refine Fit.draw1 ‹Fit _ _ _› ?_ ?_ ?_ <;> (simp only [lnE, put_length] <;> omega)) | (refine Fit.range0 ?_ ?_ <;> (simp only [lnE, put_length] <;> omega)) | (refine ArOk.mono ‹ArOk _ _ _ _ _› ?_ <;> (simp only [lnE, put_length] <;> omega)) | (refine ArOk.hid ‹ArOk _ _ _ _ _› ?_ ?_ <;> (simp only [lnE, put_length] <;> omega)) | (refine ArOk.hid0 ‹ArOk _ _ _ _ _› ?_ ?_ <;> (simp only [lnE, put_length] <;> omega)) | ((intro xr hxr; simp [AM.refs, refsF, refsC] at hxr) <;> (simp only [lnE, put_length] <;> omega)) | fail)) only [syA, syB, argFr, D, E, T, C, undefv, eqF, aeq, sheqs, sheq, rdCells, cellsOf, fill, putAt, if_true, if_false, reduceIte, ↓reduceIte, reduceCtorEq, eq_self, Nat.reduceEqDiff, Nat.reduceAdd, Nat.reduceSub, Nat.reduceMul, Nat.reduceLT, Nat.reduceLeDiff, Nat.reducePow, Nat.reduceDiv, Nat.reduceMod, Int.reduceLT, Int.reduceLE, Int.reduceGT, Int.reduceGE, Int.reduceToNat, Int.reducePow, Int.reduceNeg, Int.reduceBEq, Int.reduceBNe, Int.reduceEq, Int.reduceAdd, Int.reduceSub, Int.reduceMul, cellv, sc, flatv, refs, refsF, refsC, syR, Int.le_refl, hF.not0, hF.not1, hF.up0, hF.up1, k.hr, k.hq, ac48, hb, hfr, hfq, hid]
theorem tbyte_walk (hF : Fit hp.length L H) (k : ArOk hp.length r q H A) (hx : Holds A s x) (hfr : r ≠ f) (hfq : q ≠ f) (hid : H.contains f = false) (hb : hp[f]? = some (fB r s t z ix x.length row told steps)) {p : Nat} (hne : p ≠ ix) (ha : atR ix p < x.length) :
    Lrun env (.func 48) [.pointer (some ⟨f, 0, some 0⟩), .int .i64 p] ⟨put hp r q A, L, H, d⟩ = some (.tuple #[.int .u8 (x[atR ix p] : Nat), .bool true], ⟨put hp r q A, L, H, d⟩) := by
  have hbd : Fit hp.length hp.length H := ⟨Nat.le_refl _, hF.2⟩
  have hby := fun L' hF' d => byte_walk (d := d) (hp := hp) (L := L') (H := H) hF' k s x.length (atR ix p : Nat)
  have b1 := hx.byte ha
  have b2 := hx.part ha
  simp only [b1, b2] at hby
  have hsz := k.size
  have hl1 := k.live1
  have hlx := hx.live
  have c1 : ¬ (p : Int) = ix := by omega
  unfold fB at hb
  rw [Lrun_sym 48 _ _ fn48]
  by_cases c2 : p > ix
  · have c3 : (p : Int) > ix := by omega
    have c4 : (p : Int) - 1 = (atR ix p : Nat) := by have : atR ix p = p - 1 := if_neg (by omega)
                                                     omega
    have c5 : p ≤ x.length := by unfold atR at ha; split at ha <;> omega
    generalize atR ix p = a at *
    simp (disch := (first | omega | (simp only [lnE, put_length] <;> omega) | (refine Fit.mono ‹Fit _ _ _› ?_ <;> (simp only [lnE, put_length] <;> omega)) | (refine Fit.draw ‹Fit _ _ _› ?_ ?_ <;> (simp only [lnE, put_length] <;> omega)) | (refine Fit.hid1 ‹Fit _ _ _› ?_ ?_ <;> (simp only [lnE, put_length] <;> omega)) | (refine Fit.draw1 ‹Fit _ _ _› ?_ ?_ ?_ <;> (simp only [lnE, put_length] <;> omega)) | (refine Fit.range0 ?_ ?_ <;> (simp only [lnE, put_length] <;> omega)) | (refine ArOk.mono ‹ArOk _ _ _ _ _› ?_ <;> (simp only [lnE, put_length] <;> omega)) | (refine ArOk.hid ‹ArOk _ _ _ _ _› ?_ ?_ <;> (simp only [lnE, put_length] <;> omega)) | (refine ArOk.hid0 ‹ArOk _ _ _ _ _› ?_ ?_ <;> (simp only [lnE, put_length] <;> omega)) | ((intro xr hxr; simp [AM.refs, refsF, refsC] at hxr) <;> (simp only [lnE, put_length] <;> omega)) | fail)) only [syA, syB, argFr, D, E, T, C, undefv, eqF, aeq, sheqs, sheq, rdCells, cellsOf, fill, putAt, if_true, if_false, reduceIte, ↓reduceIte, reduceCtorEq, eq_self, Nat.reduceEqDiff, Nat.reduceAdd, Nat.reduceSub, Nat.reduceMul, Nat.reduceLT, Nat.reduceLeDiff, Nat.reducePow, Nat.reduceDiv, Nat.reduceMod, Int.reduceLT, Int.reduceLE, Int.reduceGT, Int.reduceGE, Int.reduceToNat, Int.reducePow, Int.reduceNeg, Int.reduceBEq, Int.reduceBNe, Int.reduceEq, Int.reduceAdd, Int.reduceSub, Int.reduceMul, cellv, sc, flatv, refs, refsF, refsC, syR, Int.le_refl, hF.not0, hF.not1, hF.up0, hF.up1, k.hr, k.hq, ac48, hb, hfr, hfq, hid, c1, c3, c4, hby]
  · have c3 : ¬ (p : Int) > ix := by omega
    have hat : atR ix p = p := if_pos (by omega)
    generalize hap : atR ix p = a at *
    subst hat
    simp (disch := (first | omega | (simp only [lnE, put_length] <;> omega) | (refine Fit.mono ‹Fit _ _ _› ?_ <;> (simp only [lnE, put_length] <;> omega)) | (refine Fit.draw ‹Fit _ _ _› ?_ ?_ <;> (simp only [lnE, put_length] <;> omega)) | (refine Fit.hid1 ‹Fit _ _ _› ?_ ?_ <;> (simp only [lnE, put_length] <;> omega)) | (refine Fit.draw1 ‹Fit _ _ _› ?_ ?_ ?_ <;> (simp only [lnE, put_length] <;> omega)) | (refine Fit.range0 ?_ ?_ <;> (simp only [lnE, put_length] <;> omega)) | (refine ArOk.mono ‹ArOk _ _ _ _ _› ?_ <;> (simp only [lnE, put_length] <;> omega)) | (refine ArOk.hid ‹ArOk _ _ _ _ _› ?_ ?_ <;> (simp only [lnE, put_length] <;> omega)) | (refine ArOk.hid0 ‹ArOk _ _ _ _ _› ?_ ?_ <;> (simp only [lnE, put_length] <;> omega)) | ((intro xr hxr; simp [AM.refs, refsF, refsC] at hxr) <;> (simp only [lnE, put_length] <;> omega)) | fail)) only [syA, syB, argFr, D, E, T, C, undefv, eqF, aeq, sheqs, sheq, rdCells, cellsOf, fill, putAt, if_true, if_false, reduceIte, ↓reduceIte, reduceCtorEq, eq_self, Nat.reduceEqDiff, Nat.reduceAdd, Nat.reduceSub, Nat.reduceMul, Nat.reduceLT, Nat.reduceLeDiff, Nat.reducePow, Nat.reduceDiv, Nat.reduceMod, Int.reduceLT, Int.reduceLE, Int.reduceGT, Int.reduceGE, Int.reduceToNat, Int.reducePow, Int.reduceNeg, Int.reduceBEq, Int.reduceBNe, Int.reduceEq, Int.reduceAdd, Int.reduceSub, Int.reduceMul, cellv, sc, flatv, refs, refsF, refsC, syR, Int.le_refl, hF.not0, hF.not1, hF.up0, hF.up1, k.hr, k.hq, ac48, hb, hfr, hfq, hid, c1, c3, hby]
end
end ArA
end Go.Proofs.Ytlbdgbfblgjjgaa
