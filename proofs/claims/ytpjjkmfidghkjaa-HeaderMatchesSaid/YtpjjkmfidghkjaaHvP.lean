/-
  VARINT: the plain laws of encodings. Conditions: none.
-/
import Derived.Test.YtpjjkmfidghkjaaHvC
set_option linter.all false
namespace Go.Proofs.Ytpjjkmfidghkjaa
namespace VarA
open Go Go.RowKit AM ArEnv

theorem leTail_len_eq : ∀ (k v : Nat), 128 ^ k ≤ v → v < 128 ^ (k + 1) → (leTail v).length = k + 1
  | 0, v, h, h' => by
    have h0 : v ≠ 0 := by simp at h; omega
    have h1 : v / 128 = 0 := by simp at h'; omega
    rw [leTail_pos h0, h1, leTail_zero]; rfl
  | k + 1, v, h, h' => by
    have hp : 0 < 128 ^ k := Nat.pow_pos (by omega)
    rw [Nat.pow_succ] at h h'
    have h0 : v ≠ 0 := by omega
    rw [leTail_pos h0, List.length_cons, leTail_len_eq k (v / 128) (by omega) (by rw [Nat.pow_succ] at h' ⊢; omega)]
theorem leTail_by (v : Nat) : By (leTail v) := by
  induction v using Nat.strongRecOn with
  | _ v ih =>
    by_cases h : v = 0
    · subst h; rw [leTail_zero]; exact By.nil
    · rw [leTail_pos h]; exact (ih (v / 128) (by omega)).cons (by omega)
theorem enc_by (n : Nat) : By (enc n) := fun x hx => by
  simp only [enc, List.mem_reverse, List.mem_cons] at hx
  rcases hx with rfl | hx
  · omega
  · exact leTail_by _ x hx
theorem enc_len (n : Nat) : (enc n).length = (leTail (n / 128)).length + 1 := by simp [enc]
theorem enc_len_le (n : Nat) (h : n ≤ 2147483647) : (enc n).length ≤ 5 := by
  rw [enc_len]
  have := leTail_len 4 (n / 128) (Nat.lt_of_lt_of_le (show n / 128 < 268435456 by omega) (by decide))
  omega
theorem valid_tail {v : Nat} (h : v < 268435456) : vValid v (leTail v).length = true := by
  have e2 : (128 : Nat) ^ 2 = 16384 := by decide
  have e3 : (128 : Nat) ^ 3 = 2097152 := by decide
  have e4 : (128 : Nat) ^ 4 = 268435456 := by decide
  by_cases h0 : v = 0
  · subst h0; rw [leTail_zero]; decide
  by_cases h1 : v < 128
  · rw [leTail_len_eq 0 v (by simp; omega) (by simpa using h1)]; simp [vValid]; omega
  by_cases h2 : v < 16384
  · rw [leTail_len_eq 1 v (by omega) (by omega)]; simp [vValid]; omega
  by_cases h3 : v < 2097152
  · rw [leTail_len_eq 2 v (by omega) (by omega)]; simp [vValid]; omega
  · rw [leTail_len_eq 3 v (by omega) (by omega)]; simp [vValid]; omega
theorem tail_len4 {v : Nat} (h : v < 2097152) : (leTail v).length ≤ 3 := leTail_len 3 v (Nat.lt_of_lt_of_le h (by decide))

/-- A step that goes on. -/
theorem step_on {v : Nat} (h0 : v ≠ 0) (h : v < 268435456) : vStep (v / 128 : Nat) (leTail (v / 128)).length ((128 + v % 128 : Nat) : Int) = ((v : Int), ((leTail v).length : Int), false, 0) := by
  have hv := valid_tail (v := v / 128) (by omega)
  have hl := tail_len4 (v := v / 128) (by omega)
  have hz : v / 128 = 0 ∨ 1 ≤ (leTail (v / 128)).length := by
    by_cases e : v / 128 = 0
    · exact .inl e
    · rw [leTail_pos e]; exact .inr (by simp)
  rw [leTail_pos h0, List.length_cons]
  unfold vStep
  rw [hv, if_neg (by decide), if_neg (by omega), if_neg (by omega)]
  simp only [Prod.mk.injEq]
  refine ⟨by omega, by omega, by simp; omega, trivial⟩
theorem step_last {n : Nat} (h : n ≤ 2147483647) : vStep (n / 128 : Nat) (leTail (n / 128)).length ((n % 128 : Nat) : Int) = ((n : Int), ((leTail (n / 128)).length : Int) + 1, true, 0) := by
  have hv := valid_tail (v := n / 128) (by omega)
  unfold vStep
  rw [hv, if_neg (by decide), if_neg (by omega), if_neg (by omega)]
  simp only [Prod.mk.injEq]
  refine ⟨by omega, trivial, by simp; omega, trivial⟩
/-- What a step says. -/
theorem step_cases {v m c : Int} (hv : vValid v m = true) (h0 : 0 ≤ c) (h1 : c ≤ 255) :
    (vStep v m c = (0, 0, false, 51)) ∨ (vStep v m c = (0, 0, false, 52)) ∨
    (c < 128 ∧ v * 128 + c ≤ 2147483647 ∧ vStep v m c = (v * 128 + c, m + 1, true, 0)) ∨
    (128 ≤ c ∧ v * 128 + (c - 128) ≤ 2147483647 ∧ 0 < v * 128 + (c - 128) ∧ vStep v m c = (v * 128 + (c - 128), m + 1, false, 0) ∧ vValid (v * 128 + (c - 128)) (m + 1) = true) := by
  obtain ⟨a1, a2, a3, a4⟩ := vValid_range hv
  unfold vStep
  rw [hv, if_neg (by decide)]
  split
  · exact .inl rfl
  split
  · exact .inr (.inl rfl)
  by_cases hc : c < 128
  · refine .inr (.inr (.inl ⟨hc, by omega, ?_⟩))
    have : c % 128 = c := by omega
    rw [this]; simp [hc]
  · have e : c % 128 = c - 128 := by omega
    have hpos : 0 < v * 128 + (c - 128) ∧ vValid (v * 128 + (c - 128)) (m + 1) = true := by
      obtain rfl | rfl | rfl | rfl : m = 0 ∨ m = 1 ∨ m = 2 ∨ m = 3 := by omega
      all_goals simp [vValid] at hv ⊢; omega
    refine .inr (.inr (.inr ⟨by omega, by omega, hpos.1, ?_, hpos.2⟩))
    rw [e]; simp; omega
end VarA
end Go.Proofs.Ytpjjkmfidghkjaa
