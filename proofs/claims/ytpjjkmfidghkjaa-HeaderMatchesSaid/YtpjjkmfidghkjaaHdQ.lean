/-
  HEADERS: the plain laws of markers. Conditions: none.
-/
import Derived.Test.YtpjjkmfidghkjaaHdP
set_option linter.all false
namespace Go.Proofs.Ytpjjkmfidghkjaa
namespace VarA
open Go Go.RowKit AM ArEnv

/-- What comes behind a number. -/
def mThen (n : Int) (f : Int → MS) : Int × Option (List Nat) × Int → MS × Option (List Nat) × Int
  | (x, some r, _) => mTake n (f x) r
  | (_, none, e) => (mNone, none, e)
theorem mstep_go {n : Int} {t : MS} {c : Nat} (hv : mValid n t = true) (h4 : ¬ t.a = 4) (h6 : ¬ t.a = 6) : mStep n t c = if (mGo n t c).2 = false then (mNone, false, 242) else ((mGo n t c).1, decide ((mGo n t c).1.a = 4 ∨ (mGo n t c).1.a = 6), 0) := by
  unfold mStep
  rw [if_neg (by rw [hv]; simp [h4, h6])]
theorem mvalid_n0 {n : Int} (hn : inR n 1 65536 = true) : mValid n mNone = true := by simp [mValid, hn, mRight, mNone]
theorem mstep_00 {n : Int} (hn : inR n 1 65536 = true) : mStep n mNone 0 = (⟨5, 0, 0, 0, 0, 0, 0⟩, false, 0) := by
  rw [mstep_go (mvalid_n0 hn) (by decide) (by decide)]; rfl
theorem mstep_01 {n : Int} (hn : inR n 1 65536 = true) : mStep n mNone 1 = (⟨1, 0, 0, 0, 0, 0, 0⟩, false, 0) := by
  rw [mstep_go (mvalid_n0 hn) (by decide) (by decide)]; rfl
theorem mstep_0n {n : Int} {c : Nat} (hn : inR n 1 65536 = true) (hc : ¬ c ≤ 1) : mStep n mNone c = (mNone, false, 242) := by
  rw [mstep_go (mvalid_n0 hn) (by decide) (by decide)]
  have : (mGo n mNone c).2 = false := by simp [mGo, mNone]; omega
  rw [if_pos this]
theorem mgo_1 {n v k m p y : Int} {s c : Nat} : mGo n ⟨1, v, k, m, p, s, y⟩ c = (if (gStep v k c n).2.2.1 = true then ⟨2, 0, 0, (gStep v k c n).1, 0, 0, 0⟩ else ⟨1, (gStep v k c n).1, (gStep v k c n).2.1, m, p, s, y⟩, (gStep v k c n).2.2.2) := by
  unfold mGo; rw [if_neg (by simp), if_pos rfl]
theorem mgo_2 {n v k m p y : Int} {s c : Nat} : mGo n ⟨2, v, k, m, p, s, y⟩ c = (if (gStep v k c m).2.2.1 = true then ⟨3, 0, 0, m, (gStep v k c m).1, 0, 0⟩ else ⟨2, (gStep v k c m).1, (gStep v k c m).2.1, m, p, s, y⟩, (gStep v k c m).2.2.2) := by
  unfold mGo; rw [if_neg (by simp), if_neg (by simp), if_pos rfl]
theorem mgo_3 {n a v k m p y : Int} {s c : Nat} (h0 : ¬ a = 0) (h1 : ¬ a = 1) (h2 : ¬ a = 2) : mGo n ⟨a, v, k, m, p, s, y⟩ c = (⟨if y + 1 = 4 then a + 1 else a, v, k, m, p, s * 256 + c, y + 1⟩, true) := by
  unfold mGo; rw [if_neg h0, if_neg h1, if_neg h2]
theorem mstep_1 {n v k : Int} {c : Nat} (hn : inR n 1 65536 = true) (hv : comes v k n = true) : mStep n ⟨1, v, k, 0, 0, 0, 0⟩ c = if (gStep v k c n).2.2.2 = false then (mNone, false, 242) else if (gStep v k c n).2.2.1 = true then (⟨2, 0, 0, (gStep v k c n).1, 0, 0, 0⟩, false, 0) else (⟨1, (gStep v k c n).1, (gStep v k c n).2.1, 0, 0, 0, 0⟩, false, 0) := by
  rw [mstep_go (by simp [mValid, hn, mRight, hv]) (by simp) (by simp)]
  rw [mgo_1]
  simp only []
  split
  · rfl
  · split <;> simp
theorem mstep_2 {n v k m : Int} {c : Nat} (hn : inR n 1 65536 = true) (hm : inR m 1 n = true) (hv : comes v k m = true) : mStep n ⟨2, v, k, m, 0, 0, 0⟩ c = if (gStep v k c m).2.2.2 = false then (mNone, false, 242) else if (gStep v k c m).2.2.1 = true then (⟨3, 0, 0, m, (gStep v k c m).1, 0, 0⟩, false, 0) else (⟨2, (gStep v k c m).1, (gStep v k c m).2.1, m, 0, 0, 0⟩, false, 0) := by
  rw [mstep_go (by simp [mValid, hn, mRight, hv, hm]) (by simp) (by simp)]
  rw [mgo_2]
  simp only []
  split
  · rfl
  · split <;> simp
/-- Where a checksum is read. -/
def Base (n a m p : Int) : Prop := (a = 3 ∧ inR m 1 n = true ∧ inR p 1 m = true) ∨ (a = 5 ∧ m = 0 ∧ p = 0)
theorem mvalid_sum {n a m p y : Int} {s : Nat} (hn : inR n 1 65536 = true) (hb : Base n a m p) (hs : sums s y = true) : mValid n ⟨a, 0, 0, m, p, s, y⟩ = true := by
  rcases hb with ⟨rfl, h1, h2⟩ | ⟨rfl, rfl, rfl⟩
  · simp [mValid, hn, mRight, h1, h2, hs]
  · simp [mValid, hn, mRight, hs]
theorem mstep_sum {n a m p y : Int} {s c : Nat} (hn : inR n 1 65536 = true) (hb : Base n a m p) (hs : sums s y = true) : mStep n ⟨a, 0, 0, m, p, s, y⟩ c = (⟨if y + 1 = 4 then a + 1 else a, 0, 0, m, p, s * 256 + c, y + 1⟩, decide (y + 1 = 4), 0) := by
  have ha : a = 3 ∨ a = 5 := by rcases hb with ⟨h, _⟩ | ⟨h, _⟩ <;> simp [h]
  rw [mstep_go (mvalid_sum hn hb hs) (by show ¬ a = 4; omega) (by show ¬ a = 6; omega)]
  rw [mgo_3 (by omega) (by omega) (by omega)]
  simp only [Bool.true_eq_false, if_false, Prod.mk.injEq, true_and, and_true]
  rw [decide_eq_decide]
  split <;> omega
theorem sums_ok {s : Nat} {y : Int} (h0 : 0 ≤ y) (h3 : y ≤ 3) (hs : s < 256 ^ y.toNat) : sums s y = true := by simp [sums, inR, h0, h3, hs]
/-- A step leads to a valid state. -/
theorem mstep_valid {n : Int} {t : MS} {c : Nat} (hc : c < 256) (h : (mStep n t c).2.2 = 0) : mValid n (mStep n t c).1 = true := by
  obtain ⟨a, v, k, m, p, s, y⟩ := t
  cases hv : mValid n ⟨a, v, k, m, p, s, y⟩ with
  | false => unfold mStep at h; rw [if_pos (.inl hv)] at h; simp at h
  | true =>
    by_cases h46 : a = 4 ∨ a = 6
    · unfold mStep at h; rw [if_pos (.inr h46)] at h; simp at h
    have hv' := hv
    simp only [mValid, Bool.and_eq_true] at hv'
    obtain ⟨hn, hr⟩ := hv'
    by_cases h0 : a = 0
    · subst h0
      have e : (⟨0, v, k, m, p, s, y⟩ : MS) = mNone := by simp [mRight] at hr; simp [mNone, hr]
      rw [e] at h ⊢
      by_cases hc0 : c = 0
      · subst hc0; rw [mstep_00 hn]; simp [mValid, hn, mRight]; decide
      by_cases hc1 : c = 1
      · subst hc1; rw [mstep_01 hn]; simp [mValid, hn, mRight]; exact comes_zero (by rw [inR_true] at hn; omega)
      · rw [mstep_0n hn (by omega)] at h; simp at h
    by_cases h1 : a = 1
    · subst h1
      simp [mRight] at hr
      obtain ⟨hcm, rfl, rfl, rfl, rfl⟩ := hr
      have hv1 : vValid v k = true := by simp only [comes, Bool.and_eq_true] at hcm; exact hcm.1
      rw [mstep_1 hn hcm] at h ⊢
      rcases gstep_cases (most := n) hv1 hc with g | ⟨h1, h2, h3, g⟩ | ⟨h1, h2, h3, g, h5⟩
      · rw [if_pos g] at h; simp at h
      · simp [g, mValid, hn, mRight, inR_true, comes_zero (show (0 : Int) ≤ v * 128 + c by omega)]; omega
      · simp [g, mValid, hn, mRight, comes, h5, h3]
    by_cases h2 : a = 2
    · subst h2
      simp [mRight] at hr
      obtain ⟨⟨him, hcm⟩, rfl, rfl, rfl⟩ := hr
      have hv1 : vValid v k = true := by simp only [comes, Bool.and_eq_true] at hcm; exact hcm.1
      rw [mstep_2 hn him hcm] at h ⊢
      rcases gstep_cases (most := m) hv1 hc with g | ⟨h1, h2, h3, g⟩ | ⟨h1, h2, h3, g, h5⟩
      · rw [if_pos g] at h; simp at h
      · simp [g, mValid, hn, mRight, him, sums, inR_true]; omega
      · simp [g, mValid, hn, mRight, comes, h5, h3, him]
    have hb : Base n a m p ∧ v = 0 ∧ k = 0 ∧ sums s y = true := by
      by_cases h3 : a = 3
      · subst h3; simp [mRight] at hr; exact ⟨.inl ⟨rfl, hr.1.1.1, hr.1.1.2⟩, hr.2.1, hr.2.2, hr.1.2⟩
      by_cases h5 : a = 5
      · subst h5; simp [mRight] at hr; exact ⟨.inr ⟨rfl, hr.2.2.2.1, hr.2.2.2.2⟩, hr.2.1, hr.2.2.1, hr.1⟩
      · simp only [mRight] at hr
        rw [if_neg h0, if_neg h1, if_neg h2, if_neg h3, if_neg (by omega), if_neg h5, if_neg (by omega)] at hr
        cases hr
    obtain ⟨hb, rfl, rfl, hs⟩ := hb
    rw [mstep_sum hn hb hs]
    have hs' := hs
    simp only [sums, Bool.and_eq_true, inR_true, decide_eq_true_eq] at hs'
    by_cases h4 : y + 1 = 4
    · rw [if_pos h4, h4]
      rcases hb with ⟨rfl, b1, b2⟩ | ⟨rfl, rfl, rfl⟩
      · simp [mValid, hn, mRight, b1, b2]
      · simp [mValid, hn, mRight]
    · rw [if_neg h4]
      refine mvalid_sum hn hb (sums_ok (by omega) (by omega) ?_)
      rw [show (y + 1).toNat = y.toNat + 1 by omega, Nat.pow_succ]
      omega
end VarA
end Go.Proofs.Ytpjjkmfidghkjaa
