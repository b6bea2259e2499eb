/-
  VARINT: the plain laws of encodings. Conditions: none.
-/
import Derived.Test.YtpjjkmfidghkjaaHvC
set_option linter.all false
namespace Go.Proofs.Ytpjjkmfidghkjaa
namespace VarA
open Go Go.RowKit AM ArEnv

theorem leTail_len_eq : ∀ (k v : Nat), 128 ^ k ≤ v → v < 128 ^ (k + 1) → (leTail v).length = k + 1
  | 0, v, h, h' => by
    have h0 : v ≠ 0 := by simp at h; omega
    have h1 : v / 128 = 0 := by simp at h'; omega
    rw [leTail_pos h0, h1, leTail_zero]; rfl
  | k + 1, v, h, h' => by
    have hp : 0 < 128 ^ k := Nat.pow_pos (by omega)
    rw [Nat.pow_succ] at h h'
    have h0 : v ≠ 0 := by omega
    rw [leTail_pos h0, List.length_cons, leTail_len_eq k (v / 128) (by omega) (by rw [Nat.pow_succ] at h' ⊢; omega)]
theorem leTail_by (v : Nat) : By (leTail v) := by
  induction v using Nat.strongRecOn with
  | _ v ih =>
    by_cases h : v = 0
    · subst h; rw [leTail_zero]; exact By.nil
    · rw [leTail_pos h]; exact (ih (v / 128) (by omega)).cons (by omega)
theorem enc_by (n : Nat) : By (enc n) := fun x hx => by
  simp only [enc, List.mem_reverse, List.mem_cons] at hx
  rcases hx with rfl | hx
  · omega
  · exact leTail_by _ x hx
theorem enc_len (n : Nat) : (enc n).length = (leTail (n / 128)).length + 1 := by simp [enc]
theorem enc_len_le (n : Nat) (h : n ≤ 2147483647) : (enc n).length ≤ 5 := by
  rw [enc_len]
  have := leTail_len 4 (n / 128) (Nat.lt_of_lt_of_le (show n / 128 < 268435456 by omega) (by decide))
  omega
theorem valid_tail {v : Nat} (h : v < 268435456) : vValid v (leTail v).length = true := by
  have e2 : (128 : Nat) ^ 2 = 16384 := by decide
  have e3 : (128 : Nat) ^ 3 = 2097152 := by decide
  have e4 : (128 : Nat) ^ 4 = 268435456 := by decide
  by_cases h0 : v = 0
  · subst h0; rw [leTail_zero]; decide
  by_cases h1 : v < 128
  · rw [leTail_len_eq 0 v (by simp; omega) (by simpa using h1)]; simp [vValid]; omega
  by_cases h2 : v < 16384
  · rw [leTail_len_eq 1 v (by omega) (by omega)]; simp [vValid]; omega
  by_cases h3 : v < 2097152
  · rw [leTail_len_eq 2 v (by omega) (by omega)]; simp [vValid]; omega
  · rw [leTail_len_eq 3 v (by omega) (by omega)]; simp [vValid]; omega
theorem tail_len4 {v : Nat} (h : v < 2097152) : (leTail v).length ≤ 3 := leTail_len 3 v (Nat.lt_of_lt_of_le h (by decide))

/-- A step that goes on. -/
theorem step_on {v : Nat} (h0 : v ≠ 0) (h : v < 268435456) : vStep (v / 128 : Nat) (leTail (v / 128)).length ((128 + v % 128 : Nat) : Int) = ((v : Int), ((leTail v).length : Int), false, 0) := by
  have hv := valid_tail (v := v / 128) (by omega)
  have hl := tail_len4 (v := v / 128) (by omega)
  have hz : v / 128 = 0 ∨ 1 ≤ (leTail (v / 128)).length := by
    by_cases e : v / 128 = 0
    · exact .inl e
    · rw [leTail_pos e]; exact .inr (by simp)
  rw [leTail_pos h0, List.length_cons]
  unfold vStep
  rw [hv, if_neg (by decide), if_neg (by omega), if_neg (by omega)]
  simp only [Prod.mk.injEq]
  refine ⟨by omega, by omega, by simp; omega, trivial⟩
theorem step_last {n : Nat} (h : n ≤ 2147483647) : vStep (n / 128 : Nat) (leTail (n / 128)).length ((n % 128 : Nat) : Int) = ((n : Int), ((leTail (n / 128)).length : Int) + 1, true, 0) := by
  have hv := valid_tail (v := n / 128) (by omega)
  unfold vStep
  rw [hv, if_neg (by decide), if_neg (by omega), if_neg (by omega)]
  simp only [Prod.mk.injEq]
  refine ⟨by omega, trivial, by simp; omega, trivial⟩
theorem take_tail : ∀ (v : Nat) (l : List Nat), v < 268435456 → vTake 0 0 ((leTail v).reverse ++ l) = vTake v (leTail v).length l := by
  intro v
  induction v using Nat.strongRecOn with
  | _ v ih =>
    intro l h
    by_cases h0 : v = 0
    · subst h0; rw [leTail_zero]; rfl
    · have e : (leTail v).reverse ++ l = (leTail (v / 128)).reverse ++ ((128 + v % 128) :: l) := by rw [leTail_pos h0]; simp
      rw [e, ih (v / 128) (by omega) _ (by omega)]
      simp only [vTake, step_on h0 h, if_true, Bool.false_eq_true, if_false]
/-- Reading what was written, whatever follows. -/
theorem take_enc (n : Nat) (l : List Nat) (h : n ≤ 2147483647) : vTake 0 0 (enc n ++ l) = ((n : Int), some l, 0) := by
  have e : enc n ++ l = (leTail (n / 128)).reverse ++ ((n % 128) :: l) := by simp [enc]
  rw [e, take_tail _ _ (by omega)]
  simp only [vTake, step_last h, if_true]
theorem take_short (n : Nat) (h : n ≤ 2147483647) : vTake 0 0 ((enc n).take ((enc n).length - 1)) = (0, none, 50) := by
  have e : (enc n).take ((enc n).length - 1) = (leTail (n / 128)).reverse ++ [] := by
    rw [enc_len]; simp [enc]
  rw [e, take_tail _ _ (by omega)]; rfl
/-- What a step says. -/
theorem step_cases {v m c : Int} (hv : vValid v m = true) (h0 : 0 ≤ c) (h1 : c ≤ 255) :
    (vStep v m c = (0, 0, false, 51)) ∨ (vStep v m c = (0, 0, false, 52)) ∨
    (c < 128 ∧ v * 128 + c ≤ 2147483647 ∧ vStep v m c = (v * 128 + c, m + 1, true, 0)) ∨
    (128 ≤ c ∧ v * 128 + (c - 128) ≤ 2147483647 ∧ 0 < v * 128 + (c - 128) ∧ vStep v m c = (v * 128 + (c - 128), m + 1, false, 0) ∧ vValid (v * 128 + (c - 128)) (m + 1) = true) := by
  obtain ⟨a1, a2, a3, a4⟩ := vValid_range hv
  unfold vStep
  rw [hv, if_neg (by decide)]
  split
  · exact .inl rfl
  split
  · exact .inr (.inl rfl)
  by_cases hc : c < 128
  · refine .inr (.inr (.inl ⟨hc, by omega, ?_⟩))
    have : c % 128 = c := by omega
    rw [this]; simp [hc]
  · have e : c % 128 = c - 128 := by omega
    have hpos : 0 < v * 128 + (c - 128) ∧ vValid (v * 128 + (c - 128)) (m + 1) = true := by
      obtain rfl | rfl | rfl | rfl : m = 0 ∨ m = 1 ∨ m = 2 ∨ m = 3 := by omega
      all_goals simp [vValid] at hv ⊢; omega
    refine .inr (.inr (.inr ⟨by omega, by omega, hpos.1, ?_, hpos.2⟩))
    rw [e]; simp; omega
/-- What reading finds, was written. -/
theorem take_only : ∀ (l : List Nat) (v m : Int), By l → vValid v m = true →
    (∃ x : Nat, ∃ r used, vTake v m l = ((x : Int), some r, 0) ∧ x ≤ 2147483647 ∧ l = used ++ r ∧ enc x = (leTail v.toNat).reverse ++ used) ∨
    (∃ x, vTake v m l = (0, none, x) ∧ (x = 50 ∨ x = 51 ∨ x = 52))
  | [], v, m, hb, hv => .inr ⟨50, rfl, .inl rfl⟩
  | c :: l, v, m, hb, hv => by
    have hc := hb.head
    obtain ⟨a1, a2, a3, a4⟩ := vValid_range hv
    rcases step_cases hv (c := (c : Int)) (by omega) (by omega) with h | h | ⟨h1, h2, h⟩ | ⟨h1, h2, h3, h, h5⟩
    · exact .inr ⟨51, by simp [vTake, h], by simp⟩
    · exact .inr ⟨52, by simp [vTake, h], by simp⟩
    · refine .inl ⟨(v * 128 + c).toNat, l, [c], ?_, by omega, rfl, ?_⟩
      · simp only [vTake, h, if_true, Prod.mk.injEq, and_true]; omega
      · have e1 : (v * 128 + (c : Int)).toNat % 128 = c := by omega
        have e2 : (v * 128 + (c : Int)).toNat / 128 = v.toNat := by omega
        simp [enc, e1, e2]
    · have ht : vTake v m (c :: l) = vTake (v * 128 + ((c : Int) - 128)) (m + 1) l := by simp [vTake, h]
      rw [ht]
      rcases take_only l _ _ hb.tail h5 with ⟨x, r, used, g1, g2, g3, g4⟩ | g
      · refine .inl ⟨x, r, c :: used, g1, g2, by rw [g3]; rfl, ?_⟩
        rw [g4, leTail_pos (by omega)]
        have e1 : 128 + (v * 128 + ((c : Int) - 128)).toNat % 128 = c := by omega
        have e2 : (v * 128 + ((c : Int) - 128)).toNat / 128 = v.toNat := by omega
        simp [e1, e2]
      · exact .inr g
theorem take_only0 {l : List Nat} (hb : By l) : (∃ x : Nat, ∃ r, vTake 0 0 l = ((x : Int), some r, 0) ∧ x ≤ 2147483647 ∧ l = enc x ++ r) ∨ (∃ x, vTake 0 0 l = (0, none, x) ∧ (x = 50 ∨ x = 51 ∨ x = 52)) := by
  rcases take_only l 0 0 hb vValid_zero with ⟨x, r, used, g1, g2, g3, g4⟩ | g
  · refine .inl ⟨x, r, g1, g2, ?_⟩
    rw [g3, g4, show (0 : Int).toNat = 0 from rfl, leTail_zero]; rfl
  · exact .inr g
theorem b8_one {x y : Nat} (h : x < y) (hy : y < 256) : bless (b8 [x]) (b8 [y]) = true := by
  simp only [b8, List.map_cons, List.map_nil, bless, Bool.or_eq_true, decide_eq_true_eq]
  left
  rw [UInt8.lt_iff_toNat_lt]
  simp only [UInt8.toNat_ofNat']
  omega
theorem tail_order (b : Nat) : ∀ a, a < b → (leTail a).length < (leTail b).length ∨ ((leTail a).length = (leTail b).length ∧ bless (b8 (leTail a).reverse) (b8 (leTail b).reverse) = true) := by
  induction b using Nat.strongRecOn with
  | _ b ih =>
    intro a h
    have hb : b ≠ 0 := by omega
    rw [leTail_pos hb]
    by_cases ha : a = 0
    · subst ha; rw [leTail_zero]; left; simp
    rw [leTail_pos ha]
    simp only [List.length_cons, List.reverse_cons, ← b8_append]
    by_cases e : a / 128 = b / 128
    · right
      rw [e]
      exact ⟨rfl, bless_same _ (b8_one (by omega) (by omega))⟩
    · rcases ih (b / 128) (by omega) (a / 128) (by omega) with h1 | ⟨h1, h2⟩
      · left; omega
      · right
        exact ⟨by omega, bless_left h2 (by simp [b8_length, h1])⟩
theorem enc_order {a b : Nat} (h : a < b) : (enc a).length < (enc b).length ∨ ((enc a).length = (enc b).length ∧ bless (b8 (enc a)) (b8 (enc b)) = true) := by
  rw [enc_len, enc_len]
  simp only [enc, List.reverse_cons, ← b8_append]
  by_cases e : a / 128 = b / 128
  · right
    rw [e]
    exact ⟨rfl, bless_same _ (b8_one (by omega) (by omega))⟩
  · rcases tail_order (b / 128) (a / 128) (by omega) with h1 | ⟨h1, h2⟩
    · left; omega
    · right
      exact ⟨by omega, bless_left h2 (by simp [b8_length, h1])⟩
end VarA
end Go.Proofs.Ytpjjkmfidghkjaa
