/-
  RANKS: Make on the abstract machine. Conditions: none.
-/
import Derived.Test.YtlphmnhkkhcjfaaRkD
set_option linter.all false
namespace Go.Proofs.Ytlphmnhkkhcjfaa
namespace ArA
open Go Go.RowKit AM ArEnv

/-- What the word w of the marks says. -/
def wval (x : List Nat) (k w : Nat) : Nat := (x.take ((w / 256 + 1) * k)).count (w % 256)
/-- B is A, but for the first n words from t on, which are the marks'. -/
structure Marked (A B : Arn) (t : Nat) (x : List Nat) (k n : Nat) : Prop where
  live : B.live = A.live
  peak : B.peak = A.peak
  len : B.bs.length = A.bs.length
  by_ : By B.bs
  out : ∀ p, p < t ∨ t + 4 * n ≤ p → B.bs[p]? = A.bs[p]?
  word : ∀ w, w < n → ∀ j, j < 4 → B.bs[t + 4 * w + j]? = (split4 (wval x k w))[j]?
theorem Marked.zero {A : Arn} (h : By A.bs) (t : Nat) (x : List Nat) (k : Nat) : Marked A A t x k 0 := ⟨rfl, rfl, rfl, h, fun _ _ => rfl, fun w hw => by omega⟩
theorem Marked.ok {A B : Arn} {t : Nat} {x : List Nat} {k n m r q : Nat} {H : List Nat} (h : Marked A B t x k n) (o : ArOk m r q H A) : ArOk m r q H B where
  r_lt := o.r_lt
  q_lt := o.q_lt
  ne := o.ne
  by_ := h.by_
  live0 := by rw [h.live]; exact o.live0
  live1 := by rw [h.live, h.len]; exact o.live1
  peak0 := by rw [h.peak]; exact o.peak0
  peak1 := by rw [h.peak, h.len]; exact o.peak1
  size := by rw [h.len]; exact o.size
  hr := o.hr
  hq := o.hq
theorem split4_by (v : Nat) : By (split4 v) := fun b hb => by
  simp only [split4, List.mem_cons, List.not_mem_nil, or_false] at hb
  rcases hb with rfl | rfl | rfl | rfl <;> omega
theorem wval_le (x : List Nat) (k w : Nat) : wval x k w ≤ x.length := Nat.le_trans List.count_le_length (by simp; omega)
theorem Marked.next {A B : Arn} {t z : Nat} {x : List Nat} {k n : Nat} (h : Marked A B t x k n) (hz : (t : Int) + z ≤ A.live) (h1 : A.live ≤ A.bs.length) (hn : 4 * n + 4 ≤ z) (hs : z ≤ 1048576) :
    B.wpart t z n = true ∧ Marked A (B.setWord t z n (wval x k n)) t x k (n + 1) := by
  have hw : B.wpart t z n = true := by
    unfold Arn.wpart
    rw [Bool.and_eq_true, decide_eq_true_eq, Arn.part_iff, h.live]
    omega
  refine ⟨hw, ?_⟩
  have e : B.setWord t z n (wval x k n) = ⟨putN B.bs (t + 4 * n) (split4 (wval x k n)), B.live, B.peak⟩ := by
    unfold Arn.setWord
    rw [if_pos hw]
    unfold Arn.setAt
    rw [show ((t : Int) + 4 * (n : Int)).toNat = t + 4 * n by omega]
  have hl4 : (split4 (wval x k n)).length = 4 := rfl
  have hfit : t + 4 * n + (split4 (wval x k n)).length ≤ B.bs.length := by rw [hl4, h.len]; omega
  rw [e]
  refine ⟨h.live, h.peak, by show (putN _ _ _).length = _; rw [putN_length hfit, h.len], putN_by h.by_ (split4_by _), fun p hp => ?_, fun w hw2 j hj => ?_⟩
  · show (putN _ _ _)[p]? = _
    rw [putN_get hfit, if_neg (by rw [hl4]; omega)]
    exact h.out p (by omega)
  · show (putN _ _ _)[t + 4 * w + j]? = _
    rw [putN_get hfit, hl4]
    by_cases hwn : w = n
    · subst hwn
      rw [if_pos (by omega), show t + 4 * w + j - (t + 4 * w) = j by omega]
    · rw [if_neg (by omega)]
      exact h.word w (by omega) j hj
theorem Marked.wordV {A B : Arn} {t z : Nat} {x : List Nat} {k n w : Nat} (h : Marked A B t x k n) (hz : (t : Int) + z ≤ A.live) (hn : 4 * n ≤ z) (hs : z ≤ 1048576) (hw : w < n) (hx : x.length ≤ 65536) : B.wordV t z w = wval x k w := by
  have hp : B.wpart t z w = true := by
    unfold Arn.wpart
    rw [Bool.and_eq_true, decide_eq_true_eq, Arn.part_iff, h.live]
    omega
  have sl : ∀ j, j < 4 → B.slot t (4 * (w : Int) + (j : Nat)) = ((split4 (wval x k w))[j]?).getD 0 := fun j hj => by
    unfold Arn.slot
    rw [show ((t : Int) + (4 * (w : Int) + (j : Nat))).toNat = t + 4 * w + j by omega, List.getD_eq_getElem?_getD, h.word w hw j hj]
  have s0 := sl 0 (by omega); have s1 := sl 1 (by omega); have s2 := sl 2 (by omega); have s3 := sl 3 (by omega)
  have hv := wval_le x k w
  unfold Arn.wordV
  rw [if_pos hp]
  simp only [Int.natCast_zero, Int.add_zero, Int.natCast_one, Int.cast_ofNat_Int] at s0 s1 s2 s3
  rw [s0, s1, s2, s3]
  exact le4_split (by omega)
theorem Marked.holds {A B : Arn} {s t : Nat} {x : List Nat} {k n : Nat} (h : Marked A B t x k n) (hx : Holds A s x) (hap : ∀ i, i < x.length → s + i < t ∨ t + 4 * n ≤ s + i) : Holds B s x :=
  ⟨by rw [h.live]; exact hx.live, fun i hi => by rw [h.out _ (hap i hi)]; exact hx.get i hi⟩
section
variable {hp : List Blk} {L : Nat} {H d : List Nat} {r q : Nat} {A : Arn}
end
end ArA
end Go.Proofs.Ytlphmnhkkhcjfaa
