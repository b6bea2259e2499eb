/-
  THE TRANSFORM IN PLACE: its plain law. Conditions: none.
-/
import Derived.Test.YtlphmnhkkhcjfaaArPlain
set_option linter.all false
namespace Go.Proofs.Ytlphmnhkkhcjfaa
namespace AM
open Go Go.RowKit

/-- A byte put into the column at the index. -/
def pushC (col : List Nat) (ix c : Nat) : List Nat := col.take ix ++ c :: col.drop ix
/-- How many bytes, from position k on, come before. -/
def cnt (c ix : Nat) : Nat → List Nat → Nat
  | _, [] => 0
  | k, b :: l => (if b < c ∨ (b = c ∧ k < ix) then 1 else 0) + cnt c ix (k + 1) l
def rowN (col : List Nat) (ix c : Nat) : Nat := 1 + cnt c ix 0 col
/-- The column, the index and the steps. -/
def turnR : List Nat → List Nat × Nat × Nat
  | [] => ([], 0, 0)
  | c :: t => (pushC (turnR t).1 (turnR t).2.1 c, rowN (turnR t).1 (turnR t).2.1 c, (turnR t).2.2 + (turnR t).1.length + (turnR t).2.1)
theorem pushC_length {col : List Nat} {ix c : Nat} : (pushC col ix c).length = col.length + 1 := by
  simp only [pushC, List.length_append, List.length_cons, List.length_take, List.length_drop]; omega
theorem pushC_by {col : List Nat} {ix c : Nat} (h : By col) (hc : c < 256) : By (pushC col ix c) := fun x hx => by
  simp only [pushC, List.mem_append, List.mem_cons] at hx
  rcases hx with h1 | rfl | h1
  · exact h x (List.mem_of_mem_take h1)
  · exact hc
  · exact h x (List.mem_of_mem_drop h1)
theorem cnt_le {c ix : Nat} : ∀ (l : List Nat) (k : Nat), cnt c ix k l ≤ l.length
  | [], _ => Nat.le_refl _
  | b :: l, k => by
    have := cnt_le (c := c) (ix := ix) l (k + 1)
    simp only [cnt, List.length_cons]
    split <;> omega
theorem rowN_le {col : List Nat} {ix c : Nat} : 1 ≤ rowN col ix c ∧ rowN col ix c ≤ col.length + 1 := by
  have := cnt_le (c := c) (ix := ix) col 0
  unfold rowN; omega
theorem turnR_len : ∀ t : List Nat, (turnR t).1.length = t.length ∧ (turnR t).2.1 ≤ t.length
  | [] => ⟨rfl, Nat.le_refl _⟩
  | c :: t => by
    have h := turnR_len t
    refine ⟨by simp only [turnR, pushC_length, h.1, List.length_cons], ?_⟩
    have := (rowN_le (col := (turnR t).1) (ix := (turnR t).2.1) (c := c)).2
    rw [h.1] at this
    exact this
theorem turnR_by : ∀ t : List Nat, By t → By (turnR t).1
  | [], _ => fun x hx => by simp [turnR] at hx
  | c :: t, h => pushC_by (turnR_by t fun x hx => h x (List.mem_cons_of_mem _ hx)) (h c (List.mem_cons_self))
/-- The rows, counted as the reference counts them. -/
def less (c : Nat) : List Nat → Nat
  | [] => 0
  | b :: l => (if b < c then 1 else 0) + less c l
def same (c : Nat) : List Nat → Nat
  | [] => 0
  | b :: l => (if b = c then 1 else 0) + same c l
theorem cnt_split {c ix : Nat} : ∀ (l : List Nat) (k : Nat), cnt c ix k l = less c l + same c (l.take (ix - k))
  | [], k => by simp [cnt, less, same]
  | b :: l, k => by
    have h := cnt_split (c := c) (ix := ix) l (k + 1)
    simp only [cnt, less]
    rw [h]
    by_cases hk : k < ix
    · rw [show ix - k = (ix - (k + 1)) + 1 by omega, List.take_succ_cons]
      simp only [same]
      by_cases h1 : b < c
      · rw [if_pos (.inl h1), if_pos h1, if_neg (by omega)]; omega
      · by_cases h2 : b = c
        · rw [if_pos (.inr ⟨h2, hk⟩), if_neg h1, if_pos h2]; omega
        · rw [if_neg (by omega), if_neg h1, if_neg h2]; omega
    · rw [show ix - k = 0 by omega, show ix - (k + 1) = 0 by omega]
      simp only [List.take_zero, same]
      by_cases h1 : b < c
      · rw [if_pos (.inl h1), if_pos h1]; omega
      · rw [if_neg (by omega), if_neg h1]; omega
theorem rowN_split (col : List Nat) (ix c : Nat) : rowN col ix c = 1 + (less c col + same c (col.take ix)) := by
  unfold rowN; rw [cnt_split]; rfl
/-- The bytes while they are moved: k of them are. -/
def mid (col : List Nat) (c k : Nat) : List Nat := col.take k ++ (c :: col).drop k
end AM
end Go.Proofs.Ytlphmnhkkhcjfaa
