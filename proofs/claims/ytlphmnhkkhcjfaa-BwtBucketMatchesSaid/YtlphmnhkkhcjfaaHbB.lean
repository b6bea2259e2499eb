/-
  THE TRANSFORM BY BUCKETS: the words of the heap, and the order of suffixes, on the abstract machine. Conditions: none.
  THE TRANSFORM BY BUCKETS: the comparison of suffixes, on the abstract machine. Conditions: none.
-/
import Derived.Test.YtlphmnhkkhcjfaaHpPlain
import Derived.Test.YtlphmnhkkhcjfaaSufWalk
import Derived.Test.YtlphmnhkkhcjfaaRkB
set_option linter.all false
section
set_option linter.all false
namespace Go.Proofs.Ytlphmnhkkhcjfaa
namespace ArA
open Go Go.RowKit AM ArEnv
/-- B is A, but for the words from t on, which are W's. -/
structure Words (A B : Arn) (t n : Nat) (W : Nat → Nat) : Prop where
  live : B.live = A.live
  peak : B.peak = A.peak
  len : B.bs.length = A.bs.length
  by_ : By B.bs
  out : ∀ p, p < t ∨ t + 4 * n ≤ p → B.bs[p]? = A.bs[p]?
  word : ∀ w, w < n → ∀ j, j < 4 → B.bs[t + 4 * w + j]? = (split4 (W w))[j]?
theorem Words.ok {A B : Arn} {t n m r q : Nat} {W : Nat → Nat} {H : List Nat} (h : Words A B t n W) (o : ArOk m r q H A) : ArOk m r q H B where
  r_lt := o.r_lt
  q_lt := o.q_lt
  ne := o.ne
  by_ := h.by_
  live0 := by rw [h.live]; exact o.live0
  live1 := by rw [h.live, h.len]; exact o.live1
  peak0 := by rw [h.peak]; exact o.peak0
  peak1 := by rw [h.peak, h.len]; exact o.peak1
  size := by rw [h.len]; exact o.size
  hr := o.hr
  hq := o.hq
theorem Words.set {A B : Arn} {t z n : Nat} {W : Nat → Nat} (h : Words A B t n W) (hz : (t : Int) + z ≤ A.live) (h1 : A.live ≤ A.bs.length) (hn : 4 * n ≤ z) (hs : z ≤ 1048576) {w v : Nat} (hw : w < n) :
    Words A (B.setWord t z w v) t n (upd W w v) := by
  have hp : B.wpart t z w = true := by
    unfold Arn.wpart
    rw [Bool.and_eq_true, decide_eq_true_eq, Arn.part_iff, h.live]
    omega
  have e : B.setWord t z w v = ⟨putN B.bs (t + 4 * w) (split4 v), B.live, B.peak⟩ := by
    unfold Arn.setWord
    rw [if_pos hp]
    unfold Arn.setAt
    rw [show ((t : Int) + 4 * (w : Int)).toNat = t + 4 * w by omega]
  have hl4 : (split4 v).length = 4 := rfl
  have hfit : t + 4 * w + (split4 v).length ≤ B.bs.length := by rw [hl4, h.len]; omega
  rw [e]
  refine ⟨h.live, h.peak, by show (putN _ _ _).length = _; rw [putN_length hfit, h.len], putN_by h.by_ (split4_by _), fun p hp => ?_, fun u hu j hj => ?_⟩
  · show (putN _ _ _)[p]? = _
    rw [putN_get hfit, if_neg (by rw [hl4]; omega)]
    exact h.out p hp
  · show (putN _ _ _)[t + 4 * u + j]? = _
    rw [putN_get hfit, hl4]
    unfold upd
    by_cases c : u = w
    · subst c
      rw [if_pos (by omega), if_pos rfl, show t + 4 * u + j - (t + 4 * u) = j by omega]
    · rw [if_neg (by omega), if_neg c]
      exact h.word u hu j hj
theorem Words.get {A B : Arn} {t z n : Nat} {W : Nat → Nat} (h : Words A B t n W) (hz : (t : Int) + z ≤ A.live) (hn : 4 * n ≤ z) (hs : z ≤ 1048576) {w : Nat} (hw : w < n) (hv : W w < 4294967296) : B.wordV t z w = W w := by
  have hp : B.wpart t z w = true := by
    unfold Arn.wpart
    rw [Bool.and_eq_true, decide_eq_true_eq, Arn.part_iff, h.live]
    omega
  have sl : ∀ j, j < 4 → B.slot t (4 * (w : Int) + (j : Nat)) = ((split4 (W w))[j]?).getD 0 := fun j hj => by
    unfold Arn.slot
    rw [show ((t : Int) + (4 * (w : Int) + (j : Nat))).toNat = t + 4 * w + j by omega, List.getD_eq_getElem?_getD, h.word w hw j hj]
  have s0 := sl 0 (by omega); have s1 := sl 1 (by omega); have s2 := sl 2 (by omega); have s3 := sl 3 (by omega)
  unfold Arn.wordV
  rw [if_pos hp]
  simp only [Int.natCast_zero, Int.add_zero, Int.natCast_one, Int.cast_ofNat_Int] at s0 s1 s2 s3
  rw [s0, s1, s2, s3]
  exact le4_split (by omega)
theorem Words.holds {A B : Arn} {s t n : Nat} {W : Nat → Nat} {x : List Nat} (h : Words A B t n W) (hx : Holds A s x) (hap : ∀ i, i < x.length → s + i < t ∨ t + 4 * n ≤ s + i) : Holds B s x :=
  ⟨by rw [h.live]; exact hx.live, fun i hi => by rw [h.out _ (hap i hi)]; exact hx.get i hi⟩
/-- The words that stand there. -/
theorem Words.self {A : Arn} {t n : Nat} (h : By A.bs) (hl : t + 4 * n ≤ A.bs.length) : Words A A t n (fun w => le4 (A.bs.getD (t + 4 * w) 0) (A.bs.getD (t + 4 * w + 1) 0) (A.bs.getD (t + 4 * w + 2) 0) (A.bs.getD (t + 4 * w + 3) 0)) := by
  refine ⟨rfl, rfl, rfl, h, fun _ _ => rfl, fun w hw j hj => ?_⟩
  have g : ∀ i, i < A.bs.length → A.bs[i]? = some (A.bs.getD i 0) ∧ A.bs.getD i 0 < 256 := fun i hi => by
    rw [List.getD_eq_getElem?_getD, List.getElem?_eq_getElem hi]
    exact ⟨rfl, h.get hi⟩
  have g0 := g (t + 4 * w) (by omega)
  have g1 := g (t + 4 * w + 1) (by omega)
  have g2 := g (t + 4 * w + 2) (by omega)
  have g3 := g (t + 4 * w + 3) (by omega)
  unfold le4 split4
  have : j = 0 ∨ j = 1 ∨ j = 2 ∨ j = 3 := by omega
  rcases this with rfl | rfl | rfl | rfl
  · rw [Nat.add_zero, g0.1]; simp only [List.getElem?_cons_zero]; congr 1; omega
  · rw [g1.1]; simp only [List.getElem?_cons_succ, List.getElem?_cons_zero]; congr 1; omega
  · rw [g2.1]; simp only [List.getElem?_cons_succ, List.getElem?_cons_zero]; congr 1; omega
  · rw [g3.1]; simp only [List.getElem?_cons_succ, List.getElem?_cons_zero]; congr 1; omega
/-- The order of a text's suffixes. -/
def slt (x : List Nat) (i k : Nat) : Bool := decide (x.drop i < x.drop k)
theorem slt_tot (x : List Nat) : Tot (slt x) := by
  refine ⟨fun a b h => ?_, fun a b c h1 h2 => ?_⟩
  · simp only [slt, decide_eq_true_eq, decide_eq_false_iff_not] at *
    exact suf_asy h
  · simp only [slt, decide_eq_false_iff_not] at *
    intro h3
    rcases suf_tri (x.drop a) (x.drop b) with h | h | h
    · exact h2 (suf_tra h3 h)
    · exact h2 (h ▸ h3)
    · exact h1 h
theorem slt_tri (x : List Nat) : Tri (slt x) (x.length + 1) := by
  intro a b ha hb h1 h2
  simp only [slt, decide_eq_true_eq, decide_eq_false_iff_not] at *
  rcases suf_tri (x.drop a) (x.drop b) with h | h | h
  · exact absurd h h1
  · have := congrArg List.length h
    simp only [List.length_drop] at this
    omega
  · exact h
theorem wordV_lt {A : Arn} (h : By A.bs) (s z i : Int) : A.wordV s z i < 4294967296 := by
  unfold Arn.wordV
  split
  · have h0 := Arn.slot_lt h s (4 * i)
    have h1 := Arn.slot_lt h s (4 * i + 1)
    have h2 := Arn.slot_lt h s (4 * i + 2)
    have h3 := Arn.slot_lt h s (4 * i + 3)
    unfold le4; omega
  · decide
/-- The sorter's cells. -/
def hB (r s m t z many : Nat) : Blk := .cells 0 false [arP r, .int .i64 s, .int .i64 m, .int .i64 t, .int .i64 z, .int .i64 many]
section
variable {hp : List Blk} {L : Nat} {H d : List Nat} {r q f : Nat} {A B : Arn} {s t z m many : Nat} {x : List Nat}
theorem hget_walk (hF : Fit hp.length L H) (k : ArOk hp.length r q H A) (hf : hp[f]? = some (hB r s m t z many)) (hr : r ≠ f) (hq : q ≠ f) (hid : H.contains f = false) (i : Int) :
    Lrun env (.func 64) [.pointer (some ⟨f, 0, some 0⟩), .int .i64 i] ⟨put hp r q A, L, H, d⟩ = some (.int .i64 (A.wordV t z i), ⟨put hp r q A, L, H, d⟩) := by
  have h1 := k.r_lt
  have h2 := k.q_lt
  have hfl : f < hp.length := (List.getElem?_eq_some_iff.1 hf).1
  have hne := k.ne
  have hlt := wordV_lt k.by_ t z i
  rw [Lrun_sym 64 _ _ fn64]
  simp (disch := (first | omega | (simp only [lnE, put_length] <;> omega) | (refine Fit.mono ‹Fit _ _ _› ?_ <;> (simp only [lnE, put_length] <;> omega)) | (refine Fit.draw ‹Fit _ _ _› ?_ ?_ <;> (simp only [lnE, put_length] <;> omega)) | (refine Fit.hid1 ‹Fit _ _ _› ?_ ?_ <;> (simp only [lnE, put_length] <;> omega)) | (refine Fit.draw1 ‹Fit _ _ _› ?_ ?_ ?_ <;> (simp only [lnE, put_length] <;> omega)) | (refine Fit.range0 ?_ ?_ <;> (simp only [lnE, put_length] <;> omega)) | (refine ArOk.mono ‹ArOk _ _ _ _ _› ?_ <;> (simp only [lnE, put_length] <;> omega)) | (refine ArOk.hid ‹ArOk _ _ _ _ _› ?_ ?_ <;> (simp only [lnE, put_length] <;> omega)) | (refine ArOk.hid0 ‹ArOk _ _ _ _ _› ?_ ?_ <;> (simp only [lnE, put_length] <;> omega)) | ((intro xr hxr; simp [AM.refs, refsF, refsC] at hxr) <;> (simp only [lnE, put_length] <;> omega)) | fail)) only [syA, syB, argFr, D, E, T, C, undefv, eqF, aeq, sheqs, sheq, rdCells, cellsOf, fill, putAt, if_true, if_false, reduceIte, ↓reduceIte, reduceCtorEq, eq_self, Nat.reduceEqDiff, Nat.reduceAdd, Nat.reduceSub, Nat.reduceMul, Nat.reduceLT, Nat.reduceLeDiff, Nat.reducePow, Nat.reduceDiv, Nat.reduceMod, Int.reduceLT, Int.reduceLE, Int.reduceGT, Int.reduceGE, Int.reduceToNat, Int.reducePow, Int.reduceNeg, Int.reduceBEq, Int.reduceBNe, Int.reduceEq, Int.reduceAdd, Int.reduceSub, Int.reduceMul, cellv, sc, flatv, refs, refsF, refsC, syR, Int.le_refl, hF.not0, hF.not1, hF.up0, hF.up1, k.hr, k.hq, ac64, hf, hid, hB, word_walk]
theorem hset_walk (hF : Fit hp.length L H) (k : ArOk hp.length r q H A) (hw : L ≤ r ∧ L ≤ q) (hf : hp[f]? = some (hB r s m t z many)) (hr : r ≠ f) (hq : q ≠ f) (hid : H.contains f = false) (i : Int) {v : Nat} (hv : v < 4294967296) :
    Lrun env (.func 82) [.pointer (some ⟨f, 0, some 0⟩), .int .i64 i, .int .i64 v] ⟨put hp r q A, L, H, d⟩ = some (.tuple #[], ⟨put hp r q (A.setWord t z i v), L, H, d⟩) := by
  have h1 := k.r_lt
  have h2 := k.q_lt
  have hfl : f < hp.length := (List.getElem?_eq_some_iff.1 hf).1
  have hne := k.ne
  rw [Lrun_sym 82 _ _ fn82]
  simp (disch := (first | omega | (simp only [lnE, put_length] <;> omega) | (refine Fit.mono ‹Fit _ _ _› ?_ <;> (simp only [lnE, put_length] <;> omega)) | (refine Fit.draw ‹Fit _ _ _› ?_ ?_ <;> (simp only [lnE, put_length] <;> omega)) | (refine Fit.hid1 ‹Fit _ _ _› ?_ ?_ <;> (simp only [lnE, put_length] <;> omega)) | (refine Fit.draw1 ‹Fit _ _ _› ?_ ?_ ?_ <;> (simp only [lnE, put_length] <;> omega)) | (refine Fit.range0 ?_ ?_ <;> (simp only [lnE, put_length] <;> omega)) | (refine ArOk.mono ‹ArOk _ _ _ _ _› ?_ <;> (simp only [lnE, put_length] <;> omega)) | (refine ArOk.hid ‹ArOk _ _ _ _ _› ?_ ?_ <;> (simp only [lnE, put_length] <;> omega)) | (refine ArOk.hid0 ‹ArOk _ _ _ _ _› ?_ ?_ <;> (simp only [lnE, put_length] <;> omega)) | ((intro xr hxr; simp [AM.refs, refsF, refsC] at hxr) <;> (simp only [lnE, put_length] <;> omega)) | fail)) only [syA, syB, argFr, D, E, T, C, undefv, eqF, aeq, sheqs, sheq, rdCells, cellsOf, fill, putAt, if_true, if_false, reduceIte, ↓reduceIte, reduceCtorEq, eq_self, Nat.reduceEqDiff, Nat.reduceAdd, Nat.reduceSub, Nat.reduceMul, Nat.reduceLT, Nat.reduceLeDiff, Nat.reducePow, Nat.reduceDiv, Nat.reduceMod, Int.reduceLT, Int.reduceLE, Int.reduceGT, Int.reduceGE, Int.reduceToNat, Int.reducePow, Int.reduceNeg, Int.reduceBEq, Int.reduceBNe, Int.reduceEq, Int.reduceAdd, Int.reduceSub, Int.reduceMul, cellv, sc, flatv, refs, refsF, refsC, syR, Int.le_refl, hF.not0, hF.not1, hF.up0, hF.up1, k.hr, k.hq, ac82, hf, hid, hB, setWord_walk, hv]
end
end ArA
end Go.Proofs.Ytlphmnhkkhcjfaa
end
section
set_option linter.all false
namespace Go.Proofs.Ytlphmnhkkhcjfaa
namespace ArA
open Go Go.RowKit AM ArEnv
section
variable {hp : List Blk} {L : Nat} {H d : List Nat} {r q f : Nat} {A B : Arn} {s t z m many : Nat} {x : List Nat}
theorem Holds.byteE {A : Arn} {s : Nat} {x : List Nat} (h : Holds A s x) : A.byteV s x.length x.length = 0 ∧ A.part s x.length x.length 1 = false := by
  have : A.part s x.length x.length 1 = false := by rw [Bool.eq_false_iff, ne_eq, Arn.part_iff]; omega
  refine ⟨?_, this⟩
  unfold Arn.byteV; rw [if_neg (by rw [this]; decide)]
theorem slt_self (x : List Nat) (i : Nat) : slt x i i = false := by simp only [slt, decide_eq_false_iff_not]; exact suf_irr _
theorem slt_end (x : List Nat) {i : Nat} (h : i < x.length) : slt x i x.length = false ∧ slt x x.length i = true := by
  have := drop_end h
  simp only [slt, decide_eq_true_eq, decide_eq_false_iff_not]
  exact ⟨suf_asy this, this⟩
theorem hless_loop (hF : Fit hp.length L H) (k : ArOk hp.length r q H A) (hx : Holds A s x) (hm : x.length ≤ 65536) (hf : hp[f]? = some (hB r s x.length t z many)) (hr : r ≠ f) (hq : q ≠ f) (hid : H.contains f = false) :
    ∀ (n i j : Nat), i + n = x.length → j ≤ x.length → ∀ v : Value, ∃ fr,
    Liter env lb62_0 [0, 2, 1] hp.length [(0, .pointer (some ⟨f, 0, some 0⟩)), (2, .int .i64 j), (1, .int .i64 i)] ⟨put hp r q A, L, H, []⟩ =
      some (.ret, fr, ⟨put hp r q A, L, H, []⟩) ∧ fr.get 6 = some (.bool (slt x i j)) := by
  intro n
  have h1 := k.r_lt
  have h2 := k.q_lt
  have hfl : f < hp.length := (List.getElem?_eq_some_iff.1 hf).1
  have hne := k.ne
  have hE := hx.byteE
  induction n with
  | zero =>
    intro i j hi hj v
    have ei : i = x.length := by omega
    subst ei
    rw [iter_by lb62_0.eq_1]
    by_cases c : j = x.length
    · subst c
      rw [slt_self]
      simp (disch := (first | omega | (simp only [lnE, put_length] <;> omega) | (refine Fit.mono ‹Fit _ _ _› ?_ <;> (simp only [lnE, put_length] <;> omega)) | (refine Fit.draw ‹Fit _ _ _› ?_ ?_ <;> (simp only [lnE, put_length] <;> omega)) | (refine Fit.hid1 ‹Fit _ _ _› ?_ ?_ <;> (simp only [lnE, put_length] <;> omega)) | (refine Fit.draw1 ‹Fit _ _ _› ?_ ?_ ?_ <;> (simp only [lnE, put_length] <;> omega)) | (refine Fit.range0 ?_ ?_ <;> (simp only [lnE, put_length] <;> omega)) | (refine ArOk.mono ‹ArOk _ _ _ _ _› ?_ <;> (simp only [lnE, put_length] <;> omega)) | (refine ArOk.hid ‹ArOk _ _ _ _ _› ?_ ?_ <;> (simp only [lnE, put_length] <;> omega)) | (refine ArOk.hid0 ‹ArOk _ _ _ _ _› ?_ ?_ <;> (simp only [lnE, put_length] <;> omega)) | ((intro xr hxr; simp [AM.refs, refsF, refsC] at hxr) <;> (simp only [lnE, put_length] <;> omega)) | fail)) only [syA, syB, argFr, D, E, T, C, undefv, eqF, aeq, sheqs, sheq, rdCells, cellsOf, fill, putAt, if_true, if_false, reduceIte, ↓reduceIte, reduceCtorEq, eq_self, Nat.reduceEqDiff, Nat.reduceAdd, Nat.reduceSub, Nat.reduceMul, Nat.reduceLT, Nat.reduceLeDiff, Nat.reducePow, Nat.reduceDiv, Nat.reduceMod, Int.reduceLT, Int.reduceLE, Int.reduceGT, Int.reduceGE, Int.reduceToNat, Int.reducePow, Int.reduceNeg, Int.reduceBEq, Int.reduceBNe, Int.reduceEq, Int.reduceAdd, Int.reduceSub, Int.reduceMul, cellv, sc, flatv, refs, refsF, refsC, syR, Int.le_refl, hF.not0, hF.not1, hF.up0, hF.up1, k.hr, k.hq, hf, hid, hB, byte_walk, hE.1, hE.2]
      exact ⟨_, rfl, rfl⟩
    · have hj2 : j < x.length := by omega
      rw [(slt_end x hj2).2]
      simp (disch := (first | omega | (simp only [lnE, put_length] <;> omega) | (refine Fit.mono ‹Fit _ _ _› ?_ <;> (simp only [lnE, put_length] <;> omega)) | (refine Fit.draw ‹Fit _ _ _› ?_ ?_ <;> (simp only [lnE, put_length] <;> omega)) | (refine Fit.hid1 ‹Fit _ _ _› ?_ ?_ <;> (simp only [lnE, put_length] <;> omega)) | (refine Fit.draw1 ‹Fit _ _ _› ?_ ?_ ?_ <;> (simp only [lnE, put_length] <;> omega)) | (refine Fit.range0 ?_ ?_ <;> (simp only [lnE, put_length] <;> omega)) | (refine ArOk.mono ‹ArOk _ _ _ _ _› ?_ <;> (simp only [lnE, put_length] <;> omega)) | (refine ArOk.hid ‹ArOk _ _ _ _ _› ?_ ?_ <;> (simp only [lnE, put_length] <;> omega)) | (refine ArOk.hid0 ‹ArOk _ _ _ _ _› ?_ ?_ <;> (simp only [lnE, put_length] <;> omega)) | ((intro xr hxr; simp [AM.refs, refsF, refsC] at hxr) <;> (simp only [lnE, put_length] <;> omega)) | fail)) only [syA, syB, argFr, D, E, T, C, undefv, eqF, aeq, sheqs, sheq, rdCells, cellsOf, fill, putAt, if_true, if_false, reduceIte, ↓reduceIte, reduceCtorEq, eq_self, Nat.reduceEqDiff, Nat.reduceAdd, Nat.reduceSub, Nat.reduceMul, Nat.reduceLT, Nat.reduceLeDiff, Nat.reducePow, Nat.reduceDiv, Nat.reduceMod, Int.reduceLT, Int.reduceLE, Int.reduceGT, Int.reduceGE, Int.reduceToNat, Int.reducePow, Int.reduceNeg, Int.reduceBEq, Int.reduceBNe, Int.reduceEq, Int.reduceAdd, Int.reduceSub, Int.reduceMul, cellv, sc, flatv, refs, refsF, refsC, syR, Int.le_refl, hF.not0, hF.not1, hF.up0, hF.up1, k.hr, k.hq, hf, hid, hB, byte_walk, hE.1, hE.2, hx.byte hj2, hx.part hj2]
      exact ⟨_, rfl, rfl⟩
  | succ n ih =>
    intro i j hi hj v
    have hi2 : i < x.length := by omega
    have hbi := k.by_.get (i := s + i)
    rw [iter_by lb62_0.eq_1]
    by_cases c : j = x.length
    · subst c
      rw [(slt_end x hi2).1]
      simp (disch := (first | omega | (simp only [lnE, put_length] <;> omega) | (refine Fit.mono ‹Fit _ _ _› ?_ <;> (simp only [lnE, put_length] <;> omega)) | (refine Fit.draw ‹Fit _ _ _› ?_ ?_ <;> (simp only [lnE, put_length] <;> omega)) | (refine Fit.hid1 ‹Fit _ _ _› ?_ ?_ <;> (simp only [lnE, put_length] <;> omega)) | (refine Fit.draw1 ‹Fit _ _ _› ?_ ?_ ?_ <;> (simp only [lnE, put_length] <;> omega)) | (refine Fit.range0 ?_ ?_ <;> (simp only [lnE, put_length] <;> omega)) | (refine ArOk.mono ‹ArOk _ _ _ _ _› ?_ <;> (simp only [lnE, put_length] <;> omega)) | (refine ArOk.hid ‹ArOk _ _ _ _ _› ?_ ?_ <;> (simp only [lnE, put_length] <;> omega)) | (refine ArOk.hid0 ‹ArOk _ _ _ _ _› ?_ ?_ <;> (simp only [lnE, put_length] <;> omega)) | ((intro xr hxr; simp [AM.refs, refsF, refsC] at hxr) <;> (simp only [lnE, put_length] <;> omega)) | fail)) only [syA, syB, argFr, D, E, T, C, undefv, eqF, aeq, sheqs, sheq, rdCells, cellsOf, fill, putAt, if_true, if_false, reduceIte, ↓reduceIte, reduceCtorEq, eq_self, Nat.reduceEqDiff, Nat.reduceAdd, Nat.reduceSub, Nat.reduceMul, Nat.reduceLT, Nat.reduceLeDiff, Nat.reducePow, Nat.reduceDiv, Nat.reduceMod, Int.reduceLT, Int.reduceLE, Int.reduceGT, Int.reduceGE, Int.reduceToNat, Int.reducePow, Int.reduceNeg, Int.reduceBEq, Int.reduceBNe, Int.reduceEq, Int.reduceAdd, Int.reduceSub, Int.reduceMul, cellv, sc, flatv, refs, refsF, refsC, syR, Int.le_refl, hF.not0, hF.not1, hF.up0, hF.up1, k.hr, k.hq, hf, hid, hB, byte_walk, hE.1, hE.2, hx.byte hi2, hx.part hi2]
      exact ⟨_, rfl, rfl⟩
    · have hj2 : j < x.length := by omega
      by_cases c2 : x[i] = x[j]
      · by_cases c3 : i = j
        · subst c3
          rw [slt_self]
          simp (disch := (first | omega | (simp only [lnE, put_length] <;> omega) | (refine Fit.mono ‹Fit _ _ _› ?_ <;> (simp only [lnE, put_length] <;> omega)) | (refine Fit.draw ‹Fit _ _ _› ?_ ?_ <;> (simp only [lnE, put_length] <;> omega)) | (refine Fit.hid1 ‹Fit _ _ _› ?_ ?_ <;> (simp only [lnE, put_length] <;> omega)) | (refine Fit.draw1 ‹Fit _ _ _› ?_ ?_ ?_ <;> (simp only [lnE, put_length] <;> omega)) | (refine Fit.range0 ?_ ?_ <;> (simp only [lnE, put_length] <;> omega)) | (refine ArOk.mono ‹ArOk _ _ _ _ _› ?_ <;> (simp only [lnE, put_length] <;> omega)) | (refine ArOk.hid ‹ArOk _ _ _ _ _› ?_ ?_ <;> (simp only [lnE, put_length] <;> omega)) | (refine ArOk.hid0 ‹ArOk _ _ _ _ _› ?_ ?_ <;> (simp only [lnE, put_length] <;> omega)) | ((intro xr hxr; simp [AM.refs, refsF, refsC] at hxr) <;> (simp only [lnE, put_length] <;> omega)) | fail)) only [syA, syB, argFr, D, E, T, C, undefv, eqF, aeq, sheqs, sheq, rdCells, cellsOf, fill, putAt, if_true, if_false, reduceIte, ↓reduceIte, reduceCtorEq, eq_self, Nat.reduceEqDiff, Nat.reduceAdd, Nat.reduceSub, Nat.reduceMul, Nat.reduceLT, Nat.reduceLeDiff, Nat.reducePow, Nat.reduceDiv, Nat.reduceMod, Int.reduceLT, Int.reduceLE, Int.reduceGT, Int.reduceGE, Int.reduceToNat, Int.reducePow, Int.reduceNeg, Int.reduceBEq, Int.reduceBNe, Int.reduceEq, Int.reduceAdd, Int.reduceSub, Int.reduceMul, cellv, sc, flatv, refs, refsF, refsC, syR, Int.le_refl, hF.not0, hF.not1, hF.up0, hF.up1, k.hr, k.hq, hf, hid, hB, byte_walk, hx.byte hi2, hx.part hi2]
          exact ⟨_, rfl, rfl⟩
        · have c4 : ¬ (i : Int) = j := by omega
          have c5 : (x[i] : Int) = (x[j] : Nat) := by rw [c2]
          obtain ⟨fr, e1, e2⟩ := ih (i + 1) (j + 1) (by omega) (by omega) v
          have e3 : slt x i j = slt x (i + 1) (j + 1) := by
            unfold slt
            rw [decide_eq_decide]
            exact drop_step hi2 hj2 c2
          rw [e3]
          simp (disch := (first | omega | (simp only [lnE, put_length] <;> omega) | (refine Fit.mono ‹Fit _ _ _› ?_ <;> (simp only [lnE, put_length] <;> omega)) | (refine Fit.draw ‹Fit _ _ _› ?_ ?_ <;> (simp only [lnE, put_length] <;> omega)) | (refine Fit.hid1 ‹Fit _ _ _› ?_ ?_ <;> (simp only [lnE, put_length] <;> omega)) | (refine Fit.draw1 ‹Fit _ _ _› ?_ ?_ ?_ <;> (simp only [lnE, put_length] <;> omega)) | (refine Fit.range0 ?_ ?_ <;> (simp only [lnE, put_length] <;> omega)) | (refine ArOk.mono ‹ArOk _ _ _ _ _› ?_ <;> (simp only [lnE, put_length] <;> omega)) | (refine ArOk.hid ‹ArOk _ _ _ _ _› ?_ ?_ <;> (simp only [lnE, put_length] <;> omega)) | (refine ArOk.hid0 ‹ArOk _ _ _ _ _› ?_ ?_ <;> (simp only [lnE, put_length] <;> omega)) | ((intro xr hxr; simp [AM.refs, refsF, refsC] at hxr) <;> (simp only [lnE, put_length] <;> omega)) | fail)) only [syA, syB, argFr, D, E, T, C, undefv, eqF, aeq, sheqs, sheq, rdCells, cellsOf, fill, putAt, if_true, if_false, reduceIte, ↓reduceIte, reduceCtorEq, eq_self, Nat.reduceEqDiff, Nat.reduceAdd, Nat.reduceSub, Nat.reduceMul, Nat.reduceLT, Nat.reduceLeDiff, Nat.reducePow, Nat.reduceDiv, Nat.reduceMod, Int.reduceLT, Int.reduceLE, Int.reduceGT, Int.reduceGE, Int.reduceToNat, Int.reducePow, Int.reduceNeg, Int.reduceBEq, Int.reduceBNe, Int.reduceEq, Int.reduceAdd, Int.reduceSub, Int.reduceMul, cellv, sc, flatv, refs, refsF, refsC, syR, Int.le_refl, hF.not0, hF.not1, hF.up0, hF.up1, k.hr, k.hq, hf, hid, hB, byte_walk, hx.byte hi2, hx.part hi2, hx.byte hj2, hx.part hj2, c5, c4]
          exact ⟨fr, e1, e2⟩
      · have c5 : ¬ (x[i] : Int) = (x[j] : Nat) := by omega
        have e3 : slt x i j = decide ((x[i] : Int) < (x[j] : Nat)) := by
          unfold slt
          rw [decide_eq_decide, drop_lt hi2 hj2 c2]
          omega
        rw [e3]
        simp (disch := (first | omega | (simp only [lnE, put_length] <;> omega) | (refine Fit.mono ‹Fit _ _ _› ?_ <;> (simp only [lnE, put_length] <;> omega)) | (refine Fit.draw ‹Fit _ _ _› ?_ ?_ <;> (simp only [lnE, put_length] <;> omega)) | (refine Fit.hid1 ‹Fit _ _ _› ?_ ?_ <;> (simp only [lnE, put_length] <;> omega)) | (refine Fit.draw1 ‹Fit _ _ _› ?_ ?_ ?_ <;> (simp only [lnE, put_length] <;> omega)) | (refine Fit.range0 ?_ ?_ <;> (simp only [lnE, put_length] <;> omega)) | (refine ArOk.mono ‹ArOk _ _ _ _ _› ?_ <;> (simp only [lnE, put_length] <;> omega)) | (refine ArOk.hid ‹ArOk _ _ _ _ _› ?_ ?_ <;> (simp only [lnE, put_length] <;> omega)) | (refine ArOk.hid0 ‹ArOk _ _ _ _ _› ?_ ?_ <;> (simp only [lnE, put_length] <;> omega)) | ((intro xr hxr; simp [AM.refs, refsF, refsC] at hxr) <;> (simp only [lnE, put_length] <;> omega)) | fail)) only [syA, syB, argFr, D, E, T, C, undefv, eqF, aeq, sheqs, sheq, rdCells, cellsOf, fill, putAt, if_true, if_false, reduceIte, ↓reduceIte, reduceCtorEq, eq_self, Nat.reduceEqDiff, Nat.reduceAdd, Nat.reduceSub, Nat.reduceMul, Nat.reduceLT, Nat.reduceLeDiff, Nat.reducePow, Nat.reduceDiv, Nat.reduceMod, Int.reduceLT, Int.reduceLE, Int.reduceGT, Int.reduceGE, Int.reduceToNat, Int.reducePow, Int.reduceNeg, Int.reduceBEq, Int.reduceBNe, Int.reduceEq, Int.reduceAdd, Int.reduceSub, Int.reduceMul, cellv, sc, flatv, refs, refsF, refsC, syR, Int.le_refl, hF.not0, hF.not1, hF.up0, hF.up1, k.hr, k.hq, hf, hid, hB, byte_walk, hx.byte hi2, hx.part hi2, hx.byte hj2, hx.part hj2, c5]
        exact ⟨_, rfl, rfl⟩
theorem hless_walk (hF : Fit hp.length L H) (k : ArOk hp.length r q H A) (hx : Holds A s x) (hm : x.length ≤ 65536) (hf : hp[f]? = some (hB r s x.length t z many)) (hr : r ≠ f) (hq : q ≠ f) (hid : H.contains f = false) {i j : Nat} (hi : i ≤ x.length) (hj : j ≤ x.length) :
    Lrun env (.func 62) [.pointer (some ⟨f, 0, some 0⟩), .int .i64 i, .int .i64 j] ⟨put hp r q A, L, H, d⟩ = some (.bool (slt x i j), ⟨put hp r q A, L, H, d⟩) := by
  have h1 := k.r_lt
  have h2 := k.q_lt
  have hne := k.ne
  obtain ⟨fr, e1, e2⟩ := hless_loop (hF := hF.mono (Nat.le_refl _)) k hx hm hf hr hq hid (x.length - i) i j (by omega) hj (.bool false)
  rw [Lrun_sym 62 _ _ fn62]
  simp (disch := (first | omega | (simp only [lnE, put_length] <;> omega) | (refine Fit.mono ‹Fit _ _ _› ?_ <;> (simp only [lnE, put_length] <;> omega)) | (refine Fit.draw ‹Fit _ _ _› ?_ ?_ <;> (simp only [lnE, put_length] <;> omega)) | (refine Fit.hid1 ‹Fit _ _ _› ?_ ?_ <;> (simp only [lnE, put_length] <;> omega)) | (refine Fit.draw1 ‹Fit _ _ _› ?_ ?_ ?_ <;> (simp only [lnE, put_length] <;> omega)) | (refine Fit.range0 ?_ ?_ <;> (simp only [lnE, put_length] <;> omega)) | (refine ArOk.mono ‹ArOk _ _ _ _ _› ?_ <;> (simp only [lnE, put_length] <;> omega)) | (refine ArOk.hid ‹ArOk _ _ _ _ _› ?_ ?_ <;> (simp only [lnE, put_length] <;> omega)) | (refine ArOk.hid0 ‹ArOk _ _ _ _ _› ?_ ?_ <;> (simp only [lnE, put_length] <;> omega)) | ((intro xr hxr; simp [AM.refs, refsF, refsC] at hxr) <;> (simp only [lnE, put_length] <;> omega)) | fail)) only [syA, syB, argFr, D, E, T, C, undefv, eqF, aeq, sheqs, sheq, rdCells, cellsOf, fill, putAt, if_true, if_false, reduceIte, ↓reduceIte, reduceCtorEq, eq_self, Nat.reduceEqDiff, Nat.reduceAdd, Nat.reduceSub, Nat.reduceMul, Nat.reduceLT, Nat.reduceLeDiff, Nat.reducePow, Nat.reduceDiv, Nat.reduceMod, Int.reduceLT, Int.reduceLE, Int.reduceGT, Int.reduceGE, Int.reduceToNat, Int.reducePow, Int.reduceNeg, Int.reduceBEq, Int.reduceBNe, Int.reduceEq, Int.reduceAdd, Int.reduceSub, Int.reduceMul, cellv, sc, flatv, refs, refsF, refsC, syR, Int.le_refl, hF.not0, hF.not1, hF.up0, hF.up1, k.hr, k.hq, ac62, e1, e2]
end
end ArA
end Go.Proofs.Ytlphmnhkkhcjfaa
end
