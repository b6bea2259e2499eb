/-
  HEADERS: the plain laws of reading and writing. Conditions: none.
-/
import Derived.Test.YtpjjkmfidghkjaaHdH
set_option linter.all false
namespace Go.Proofs.Ytpjjkmfidghkjaa
namespace VarA
open Go Go.RowKit AM ArEnv

/-! ### Numbers with a bound -/
theorem gstep_cases {v m most : Int} {c : Nat} (hv : vValid v m = true) (hc : c < 256) :
    ((gStep v m c most).2.2.2 = false) ∨
    (c < 128 ∧ 1 ≤ v * 128 + c ∧ v * 128 + c ≤ most ∧ gStep v m c most = (v * 128 + c, m + 1, true, true)) ∨
    (128 ≤ c ∧ 0 < v * 128 + ((c : Int) - 128) ∧ v * 128 + ((c : Int) - 128) ≤ most ∧ gStep v m c most = (v * 128 + ((c : Int) - 128), m + 1, false, true) ∧ vValid (v * 128 + ((c : Int) - 128)) (m + 1) = true) := by
  unfold gStep
  rcases step_cases hv (c := (c : Int)) (by omega) (by omega) with h | h | ⟨h1, h2, h⟩ | ⟨h1, h2, h3, h, h5⟩
  · left; rw [h]; rfl
  · left; rw [h]; rfl
  · rw [h]
    by_cases hm : v * 128 + c ≤ most
    · by_cases hp : 0 < v * 128 + (c : Int)
      · right; left; exact ⟨by omega, by omega, hm, by simp [hm, hp]⟩
      · left; simp [hp]
    · left; simp [hm]
  · rw [h]
    by_cases hm : v * 128 + ((c : Int) - 128) ≤ most
    · right; right; exact ⟨by omega, h3, hm, by simp [hm], h5⟩
    · left; simp [hm]
/-- Reading a number with a bound: the number, the rest, the error. -/
def gTake (most v m : Int) : List Nat → Int × Option (List Nat) × Int
  | [] => (0, none, 50)
  | c :: l => if (gStep v m c most).2.2.2 = false then (0, none, 242) else if (gStep v m c most).2.2.1 = true then ((gStep v m c most).1, some l, 0) else gTake most (gStep v m c most).1 (gStep v m c most).2.1 l
theorem gstep_on {v most : Nat} (h0 : v ≠ 0) (h : v ≤ most) (hm : most ≤ 65536) : gStep (v / 128 : Nat) (leTail (v / 128)).length ((128 + v % 128 : Nat) : Int) most = ((v : Int), ((leTail v).length : Int), false, true) := by
  unfold gStep
  rw [step_on h0 (by omega)]
  simp [h]
theorem gstep_last {n most : Nat} (h0 : 1 ≤ n) (h : n ≤ most) (hm : most ≤ 65536) : gStep (n / 128 : Nat) (leTail (n / 128)).length ((n % 128 : Nat) : Int) most = ((n : Int), ((leTail (n / 128)).length : Int) + 1, true, true) := by
  unfold gStep
  rw [step_last (by omega)]
  simp [h]
  omega
theorem g_tail {most : Nat} (hm : most ≤ 65536) : ∀ (v : Nat) (l : List Nat), v ≤ most → gTake most 0 0 ((leTail v).reverse ++ l) = gTake most v (leTail v).length l := by
  intro v
  induction v using Nat.strongRecOn with
  | _ v ih =>
    intro l h
    by_cases h0 : v = 0
    · subst h0; rw [leTail_zero]; rfl
    · have e : (leTail v).reverse ++ l = (leTail (v / 128)).reverse ++ ((128 + v % 128) :: l) := by rw [leTail_pos h0]; simp
      rw [e, ih (v / 128) (by omega) _ (by omega)]
      simp only [gTake, gstep_on h0 h hm, Bool.true_eq_false, Bool.false_eq_true, if_false]
theorem g_back {most n : Nat} (hm : most ≤ 65536) (h1 : 1 ≤ n) (h2 : n ≤ most) (l : List Nat) : gTake most 0 0 (enc n ++ l) = ((n : Int), some l, 0) := by
  have e : enc n ++ l = (leTail (n / 128)).reverse ++ ((n % 128) :: l) := by simp [enc]
  rw [e, g_tail hm _ _ (by omega)]
  simp only [gTake, gstep_last h1 h2 hm, Bool.true_eq_false, if_true, if_false]
theorem g_short {most n : Nat} (hm : most ≤ 65536) (h1 : 1 ≤ n) (h2 : n ≤ most) : gTake most 0 0 ((enc n).take ((enc n).length - 1)) = (0, none, 50) := by
  have e : (enc n).take ((enc n).length - 1) = (leTail (n / 128)).reverse ++ [] := by
    rw [enc_len]; simp [enc]
  rw [e, g_tail hm _ _ (by omega)]; rfl
theorem g_only {most : Int} : ∀ (l : List Nat) (v m : Int), By l → vValid v m = true →
    (∃ x : Nat, ∃ r used, gTake most v m l = ((x : Int), some r, 0) ∧ 1 ≤ x ∧ (x : Int) ≤ most ∧ l = used ++ r ∧ enc x = (leTail v.toNat).reverse ++ used) ∨
    (∃ x, gTake most v m l = (0, none, x) ∧ (x = 50 ∨ x = 242))
  | [], v, m, hb, hv => .inr ⟨50, rfl, .inl rfl⟩
  | c :: l, v, m, hb, hv => by
    have hc := hb.head
    obtain ⟨a1, a2, a3, a4⟩ := vValid_range hv
    rcases gstep_cases (most := most) hv hc with h | ⟨h1, h2, h3, h⟩ | ⟨h1, h2, h3, h, h5⟩
    · exact .inr ⟨242, by simp [gTake, h], .inr rfl⟩
    · refine .inl ⟨(v * 128 + c).toNat, l, [c], ?_, by omega, by omega, rfl, ?_⟩
      · simp only [gTake, h, if_true, Bool.true_eq_false, if_false, Prod.mk.injEq, and_true]; omega
      · have e1 : (v * 128 + (c : Int)).toNat % 128 = c := by omega
        have e2 : (v * 128 + (c : Int)).toNat / 128 = v.toNat := by omega
        simp [enc, e1, e2]
    · have ht : gTake most v m (c :: l) = gTake most (v * 128 + ((c : Int) - 128)) (m + 1) l := by simp [gTake, h]
      rw [ht]
      rcases g_only l _ _ hb.tail h5 with ⟨x, r, used, g1, g2, g3, g4, g5⟩ | g
      · refine .inl ⟨x, r, c :: used, g1, g2, g3, by rw [g4]; rfl, ?_⟩
        rw [g5, leTail_pos (by omega)]
        have e1 : 128 + (v * 128 + ((c : Int) - 128)).toNat % 128 = c := by omega
        have e2 : (v * 128 + ((c : Int) - 128)).toNat / 128 = v.toNat := by omega
        simp [e1, e2]
      · exact .inr g
theorem g_only0 {most : Int} {l : List Nat} (hb : By l) : (∃ x : Nat, ∃ r, gTake most 0 0 l = ((x : Int), some r, 0) ∧ 1 ≤ x ∧ (x : Int) ≤ most ∧ l = enc x ++ r) ∨ (∃ x, gTake most 0 0 l = (0, none, x) ∧ (x = 50 ∨ x = 242)) := by
  rcases g_only (most := most) l 0 0 hb vValid_zero with ⟨x, r, used, g1, g2, g3, g4, g5⟩ | g
  · refine .inl ⟨x, r, g1, g2, g3, ?_⟩
    rw [g4, g5, show (0 : Int).toNat = 0 from rfl, leTail_zero]; rfl
  · exact .inr g

/-! ### Stream headers -/
theorem comes_zero {most : Int} (h : 0 ≤ most) : comes 0 0 most = true := by simp [comes, vValid_zero, h]
theorem hstep_3 {v m : Int} {c : Nat} (hv : comes v m 65536 = true) : hStep ⟨3, v, m, 0⟩ c = if (gStep v m c 65536).2.2.2 = false then (⟨0, 0, 0, 0⟩, false, 242) else if (gStep v m c 65536).2.2.1 = true then (⟨4, 0, 0, (gStep v m c 65536).1⟩, true, 0) else (⟨3, (gStep v m c 65536).1, (gStep v m c 65536).2.1, 0⟩, false, 0) := by
  unfold hStep
  rw [if_neg (by simp [hValid, hv]), if_neg (by simp)]
theorem h_num : ∀ (l : List Nat) (v m : Int), By l → comes v m 65536 = true → hTake ⟨3, v, m, 0⟩ l = gTake 65536 v m l
  | [], v, m, hb, hv => rfl
  | c :: l, v, m, hb, hv => by
    have hv1 : vValid v m = true := by simp only [comes, Bool.and_eq_true] at hv; exact hv.1
    rw [hTake, gTake, hstep_3 hv]
    rcases gstep_cases (most := 65536) hv1 hb.head with h | ⟨h1, h2, h3, h⟩ | ⟨h1, h2, h3, h, h5⟩
    · simp [h]
    · simp [h]
    · simp only [h, Bool.true_eq_false, Bool.false_eq_true, if_false, if_true]
      exact h_num l _ _ hb.tail (by simp [comes, h5, h3])
theorem hstep_first {a : Int} {c : Nat} (ha : a = 0 ∨ a = 1 ∨ a = 2) : hStep ⟨a, 0, 0, 0⟩ c = if (c : Int) = magicAt a then (⟨a + 1, 0, 0, 0⟩, false, 0) else (⟨0, 0, 0, 0⟩, false, if a < 2 then 240 else 241) := by
  unfold hStep
  have hv : hValid ⟨a, 0, 0, 0⟩ = true := by rcases ha with rfl | rfl | rfl <;> rfl
  rw [if_neg (by rw [hv]; simp; omega), if_pos (by show a < 3; omega)]
theorem hs_0 : hStep ⟨0, 0, 0, 0⟩ ((87 : Nat) : Int) = (⟨1, 0, 0, 0⟩, false, 0) := by rw [hstep_first (.inl rfl)]; rfl
theorem hs_1 : hStep ⟨1, 0, 0, 0⟩ ((80 : Nat) : Int) = (⟨2, 0, 0, 0⟩, false, 0) := by rw [hstep_first (.inr (.inl rfl))]; rfl
theorem hs_2 : hStep ⟨2, 0, 0, 0⟩ ((1 : Nat) : Int) = (⟨3, 0, 0, 0⟩, false, 0) := by rw [hstep_first (.inr (.inr rfl))]; rfl
theorem hs_no {a : Int} {c : Nat} (ha : a = 0 ∨ a = 1 ∨ a = 2) (h : ¬ (c : Int) = magicAt a) : hStep ⟨a, 0, 0, 0⟩ c = (⟨0, 0, 0, 0⟩, false, if a < 2 then 240 else 241) := by rw [hstep_first ha, if_neg h]
theorem h_magic (l : List Nat) (hb : By l) : hTake ⟨0, 0, 0, 0⟩ ([87, 80, 1] ++ l) = gTake 65536 0 0 l := by
  rw [← h_num l 0 0 hb (comes_zero (by omega))]
  simp only [List.cons_append, List.nil_append, hTake, hs_0, hs_1, hs_2, if_true, Bool.false_eq_true, if_false]
theorem h_back {n : Nat} (h1 : 1 ≤ n) (h2 : n ≤ 65536) {l : List Nat} (hb : By l) : hTake ⟨0, 0, 0, 0⟩ (headOf n ++ l) = ((n : Int), some l, 0) := by
  rw [headOf, List.append_assoc, h_magic _ ((enc_by n).append hb)]
  exact g_back (most := 65536) (by omega) h1 h2 l
theorem h_short {n : Nat} (h1 : 1 ≤ n) (h2 : n ≤ 65536) : hTake ⟨0, 0, 0, 0⟩ ((headOf n).take ((headOf n).length - 1)) = (0, none, 50) := by
  have h6 := enc_len n
  have e : (headOf n).take ((headOf n).length - 1) = [87, 80, 1] ++ (enc n).take ((enc n).length - 1) := by
    rw [headOf_len, show (enc n).length + 3 - 1 = ((enc n).length - 1) + 3 by omega]
    rfl
  rw [e, h_magic _ ((enc_by n).take _)]
  exact g_short (most := 65536) (by omega) h1 h2
theorem h_only {l : List Nat} (hb : By l) : (∃ x : Nat, ∃ r, hTake ⟨0, 0, 0, 0⟩ l = ((x : Int), some r, 0) ∧ 1 ≤ x ∧ x ≤ 65536 ∧ l = headOf x ++ r) ∨ (∃ x, hTake ⟨0, 0, 0, 0⟩ l = (0, none, x) ∧ (x = 50 ∨ x = 240 ∨ x = 241 ∨ x = 242)) := by
  have z : (⟨0, 0, 0, 0⟩ : HS) = ⟨0, 0, 0, 0⟩ := rfl
  cases l with
  | nil => exact .inr ⟨50, rfl, .inl rfl⟩
  | cons c l =>
    by_cases h1 : (c : Int) = 87
    · obtain rfl : c = 87 := by omega
      cases l with
      | nil => exact .inr ⟨50, by simp only [hTake, hs_0, hs_1, hs_2, if_true, Bool.false_eq_true, if_false], .inl rfl⟩
      | cons c l =>
        by_cases h2 : (c : Int) = 80
        · obtain rfl : c = 80 := by omega
          cases l with
          | nil => exact .inr ⟨50, by simp only [hTake, hs_0, hs_1, hs_2, if_true, Bool.false_eq_true, if_false], .inl rfl⟩
          | cons c l =>
            by_cases h3 : (c : Int) = 1
            · obtain rfl : c = 1 := by omega
              have := h_magic l hb.tail.tail.tail
              rw [show (87 :: 80 :: 1 :: l) = [87, 80, 1] ++ l from rfl, this]
              rcases g_only0 (most := 65536) hb.tail.tail.tail with ⟨x, r, g1, g2, g3, g4⟩ | ⟨x, g1, g2⟩
              · exact .inl ⟨x, r, g1, g2, by omega, by rw [g4, headOf, List.append_assoc]⟩
              · exact .inr ⟨x, g1, by omega⟩
            · exact .inr ⟨241, by simp only [hTake, hs_0, hs_1, hs_no (.inr (.inr rfl)) (show ¬ (c : Int) = magicAt 2 from h3), if_true, Bool.false_eq_true, if_false]; rfl, by simp⟩
        · exact .inr ⟨240, by simp only [hTake, hs_0, hs_no (.inr (.inl rfl)) (show ¬ (c : Int) = magicAt 1 from h2), if_true, Bool.false_eq_true, if_false]; rfl, by simp⟩
    · exact .inr ⟨240, by simp only [hTake, hs_no (.inl rfl) (show ¬ (c : Int) = magicAt 0 from h1), if_true, Bool.false_eq_true, if_false]; rfl, by simp⟩
/-- A step leads to a valid state. -/
theorem hstep_valid {s : HS} {c : Nat} (hc : c < 256) (h : (hStep s c).2.2 = 0) : hValid (hStep s c).1 = true ∧ (hStep s c).2.1 = decide ((hStep s c).1.a = 4) := by
  obtain ⟨a, v, m, n⟩ := s
  cases hv : hValid ⟨a, v, m, n⟩ with
  | false => unfold hStep at h; rw [if_pos (.inl hv)] at h; simp at h
  | true =>
    by_cases h4 : a = 4
    · unfold hStep at h; rw [if_pos (.inr h4)] at h; simp at h
    by_cases h3 : a = 3
    · subst h3
      have hh : comes v m 65536 = true ∧ n = 0 := by simpa [hValid] using hv
      obtain ⟨hcm, rfl⟩ := hh
      have hv1 : vValid v m = true := by simp only [comes, Bool.and_eq_true] at hcm; exact hcm.1
      rw [hstep_3 hcm] at h ⊢
      rcases gstep_cases (most := 65536) hv1 hc with g | ⟨h1, h2, h3, g⟩ | ⟨h1, h2, h3, g, h5⟩
      · rw [if_pos g] at h; simp at h
      · simp [g, hValid, inR_true]; omega
      · simp [g, hValid, comes, h5, h3]
    · have ha : (a = 0 ∨ a = 1 ∨ a = 2) ∧ v = 0 ∧ m = 0 ∧ n = 0 := by
        simp [hValid, h3, h4, inR_true] at hv; omega
      obtain ⟨ha, rfl, rfl, rfl⟩ := ha
      rw [hstep_first ha] at h ⊢
      split at h
      · rename_i hm
        rw [if_pos hm]
        rcases ha with rfl | rfl | rfl <;> simp [hValid, inR, comes_zero]
      · split at h <;> simp at h
end VarA
end Go.Proofs.Ytpjjkmfidghkjaa
