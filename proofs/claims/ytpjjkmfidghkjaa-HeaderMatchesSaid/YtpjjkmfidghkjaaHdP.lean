/-
  HEADERS: the plain laws of reading and writing. Conditions: none.
-/
import Derived.Test.YtpjjkmfidghkjaaHdH
set_option linter.all false
namespace Go.Proofs.Ytpjjkmfidghkjaa
namespace VarA
open Go Go.RowKit AM ArEnv

/-! ### Numbers with a bound -/
theorem gstep_cases {v m most : Int} {c : Nat} (hv : vValid v m = true) (hc : c < 256) :
    ((gStep v m c most).2.2.2 = false) ∨
    (c < 128 ∧ 1 ≤ v * 128 + c ∧ v * 128 + c ≤ most ∧ gStep v m c most = (v * 128 + c, m + 1, true, true)) ∨
    (128 ≤ c ∧ 0 < v * 128 + ((c : Int) - 128) ∧ v * 128 + ((c : Int) - 128) ≤ most ∧ gStep v m c most = (v * 128 + ((c : Int) - 128), m + 1, false, true) ∧ vValid (v * 128 + ((c : Int) - 128)) (m + 1) = true) := by
  unfold gStep
  rcases step_cases hv (c := (c : Int)) (by omega) (by omega) with h | h | ⟨h1, h2, h⟩ | ⟨h1, h2, h3, h, h5⟩
  · left; rw [h]; rfl
  · left; rw [h]; rfl
  · rw [h]
    by_cases hm : v * 128 + c ≤ most
    · by_cases hp : 0 < v * 128 + (c : Int)
      · right; left; exact ⟨by omega, by omega, hm, by simp [hm, hp]⟩
      · left; simp [hp]
    · left; simp [hm]
  · rw [h]
    by_cases hm : v * 128 + ((c : Int) - 128) ≤ most
    · right; right; exact ⟨by omega, h3, hm, by simp [hm], h5⟩
    · left; simp [hm]
/-- Reading a number with a bound: the number, the rest, the error. -/
def gTake (most v m : Int) : List Nat → Int × Option (List Nat) × Int
  | [] => (0, none, 50)
  | c :: l => if (gStep v m c most).2.2.2 = false then (0, none, 242) else if (gStep v m c most).2.2.1 = true then ((gStep v m c most).1, some l, 0) else gTake most (gStep v m c most).1 (gStep v m c most).2.1 l
theorem gstep_on {v most : Nat} (h0 : v ≠ 0) (h : v ≤ most) (hm : most ≤ 65536) : gStep (v / 128 : Nat) (leTail (v / 128)).length ((128 + v % 128 : Nat) : Int) most = ((v : Int), ((leTail v).length : Int), false, true) := by
  unfold gStep
  rw [step_on h0 (by omega)]
  simp [h]
theorem gstep_last {n most : Nat} (h0 : 1 ≤ n) (h : n ≤ most) (hm : most ≤ 65536) : gStep (n / 128 : Nat) (leTail (n / 128)).length ((n % 128 : Nat) : Int) most = ((n : Int), ((leTail (n / 128)).length : Int) + 1, true, true) := by
  unfold gStep
  rw [step_last (by omega)]
  simp [h]
  omega
/-! ### Stream headers -/
theorem comes_zero {most : Int} (h : 0 ≤ most) : comes 0 0 most = true := by simp [comes, vValid_zero, h]
theorem hstep_3 {v m : Int} {c : Nat} (hv : comes v m 65536 = true) : hStep ⟨3, v, m, 0⟩ c = if (gStep v m c 65536).2.2.2 = false then (⟨0, 0, 0, 0⟩, false, 242) else if (gStep v m c 65536).2.2.1 = true then (⟨4, 0, 0, (gStep v m c 65536).1⟩, true, 0) else (⟨3, (gStep v m c 65536).1, (gStep v m c 65536).2.1, 0⟩, false, 0) := by
  unfold hStep
  rw [if_neg (by simp [hValid, hv]), if_neg (by simp)]
theorem hstep_first {a : Int} {c : Nat} (ha : a = 0 ∨ a = 1 ∨ a = 2) : hStep ⟨a, 0, 0, 0⟩ c = if (c : Int) = magicAt a then (⟨a + 1, 0, 0, 0⟩, false, 0) else (⟨0, 0, 0, 0⟩, false, if a < 2 then 240 else 241) := by
  unfold hStep
  have hv : hValid ⟨a, 0, 0, 0⟩ = true := by rcases ha with rfl | rfl | rfl <;> rfl
  rw [if_neg (by rw [hv]; simp; omega), if_pos (by show a < 3; omega)]
/-- A step leads to a valid state. -/
theorem hstep_valid {s : HS} {c : Nat} (hc : c < 256) (h : (hStep s c).2.2 = 0) : hValid (hStep s c).1 = true ∧ (hStep s c).2.1 = decide ((hStep s c).1.a = 4) := by
  obtain ⟨a, v, m, n⟩ := s
  cases hv : hValid ⟨a, v, m, n⟩ with
  | false => unfold hStep at h; rw [if_pos (.inl hv)] at h; simp at h
  | true =>
    by_cases h4 : a = 4
    · unfold hStep at h; rw [if_pos (.inr h4)] at h; simp at h
    by_cases h3 : a = 3
    · subst h3
      have hh : comes v m 65536 = true ∧ n = 0 := by simpa [hValid] using hv
      obtain ⟨hcm, rfl⟩ := hh
      have hv1 : vValid v m = true := by simp only [comes, Bool.and_eq_true] at hcm; exact hcm.1
      rw [hstep_3 hcm] at h ⊢
      rcases gstep_cases (most := 65536) hv1 hc with g | ⟨h1, h2, h3, g⟩ | ⟨h1, h2, h3, g, h5⟩
      · rw [if_pos g] at h; simp at h
      · simp [g, hValid, inR_true]; omega
      · simp [g, hValid, comes, h5, h3]
    · have ha : (a = 0 ∨ a = 1 ∨ a = 2) ∧ v = 0 ∧ m = 0 ∧ n = 0 := by
        simp [hValid, h3, h4, inR_true] at hv; omega
      obtain ⟨ha, rfl, rfl, rfl⟩ := ha
      rw [hstep_first ha] at h ⊢
      split at h
      · rename_i hm
        rw [if_pos hm]
        rcases ha with rfl | rfl | rfl <;> simp [hValid, inR, comes_zero]
      · split at h <;> simp at h
end VarA
end Go.Proofs.Ytpjjkmfidghkjaa
