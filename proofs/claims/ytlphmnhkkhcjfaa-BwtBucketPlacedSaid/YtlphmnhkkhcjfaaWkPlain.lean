/-
  WALKS OVER A COLUMN: plain law. Conditions: none.
-/
import Derived.Test.YtlphmnhkkhcjfaaSufWalk
import Derived.Test.YtlphmnhkkhcjfaaRkF
set_option linter.all false
namespace Go.Proofs.Ytlphmnhkkhcjfaa
namespace AM
open Go Go.RowKit ArA
/-- The place of a row's byte. -/
def atR (ix r : Nat) : Nat := if r ≤ ix then r else r - 1
/-- The row after a row. -/
def nxR (x : List Nat) (ix r : Nat) : Nat := 1 + (less (x.getD (atR ix r) 0) x + same (x.getD (atR ix r) 0) (x.take (atR ix r)))
def rowK (x : List Nat) (ix : Nat) : Nat → Nat
  | 0 => 0
  | k + 1 => nxR x ix (rowK x ix k)
/-- A whole walk, and what it costs (f: the cost of a step). -/
def vw (f : Nat → Nat) (x : List Nat) (ix : Nat) : Nat → Nat → Nat → Option Nat × Nat
  | 0, r, st => (some r, st)
  | n + 1, r, st => if r = ix then (none, st) else vw f x ix n (nxR x ix r) (st + 1 + f (atR ix r))
theorem same_le (c : Nat) (l : List Nat) : same c l ≤ l.length := by rw [same_countP]; exact List.countP_le_length
theorem less_app (c : Nat) (a b : List Nat) : less c (a ++ b) = less c a + less c b := by rw [less_countP, less_countP, less_countP, List.countP_append]
theorem same_app (c : Nat) (a b : List Nat) : same c (a ++ b) = same c a + same c b := by rw [same_countP, same_countP, same_countP, List.countP_append]
theorem less_same (c : Nat) (l : List Nat) : less c l + same c l ≤ l.length := by
  induction l with
  | nil => simp [less, same]
  | cons b l ih =>
    simp only [less, same, List.length_cons]
    by_cases h : b < c
    · rw [if_pos h, if_neg (by omega)]; omega
    · rw [if_neg h]; split <;> omega
theorem nx_le {x : List Nat} {a : Nat} (h : a < x.length) : 1 + (less x[a] x + same x[a] (x.take a)) ≤ x.length := by
  have e : x = x.take a ++ x[a] :: x.drop (a + 1) := by rw [← List.drop_eq_getElem_cons h, List.take_append_drop]
  generalize x[a] = c at *
  have h1 : less c x + same c x ≤ x.length := less_same c x
  have h2 : same c x = same c (x.take a) + same c (c :: x.drop (a + 1)) := by
    conv => lhs; rw [e]
    rw [same_app]
  have h3 : same c (c :: x.drop (a + 1)) ≥ 1 := by simp [same]
  omega
theorem atR_lt {ix r m : Nat} (h1 : r ≤ m) (h2 : ix ≤ m) (h3 : r ≠ ix) (h4 : 1 ≤ m) : atR ix r < m ∨ (ix = 0 ∧ atR ix r < m) := by
  unfold atR; split <;> omega
theorem atR_lt' {ix r m : Nat} (h1 : r ≤ m) (h2 : ix ≤ m) (h3 : r ≠ ix) : atR ix r < m := by
  unfold atR; split <;> omega
theorem nxR_eq {x : List Nat} {ix r : Nat} (h : atR ix r < x.length) : nxR x ix r = 1 + (less x[atR ix r] x + same x[atR ix r] (x.take (atR ix r))) := by
  have : x.getD (atR ix r) 0 = x[atR ix r] := by rw [List.getD_eq_getElem?_getD, List.getElem?_eq_getElem h, Option.getD_some]
  unfold nxR; rw [this]
theorem nxR_le {x : List Nat} {ix r : Nat} (h1 : r ≤ x.length) (h2 : ix ≤ x.length) (h3 : r ≠ ix) : nxR x ix r ≤ x.length := by
  have := atR_lt' h1 h2 h3
  rw [nxR_eq this]; exact nx_le this
theorem vw_cost {f : Nat → Nat} {k : Nat} (hf : ∀ a, 1 + f a ≤ k) {x : List Nat} {ix : Nat} : ∀ (n r st : Nat), st ≤ (vw f x ix n r st).2 ∧ (vw f x ix n r st).2 ≤ st + n * k
  | 0, r, st => by simp [vw]
  | n + 1, r, st => by
    unfold vw
    split
    · exact ⟨Nat.le_refl _, Nat.le_add_right _ _⟩
    · have ih := vw_cost hf n (nxR x ix r) (st + 1 + f (atR ix r)) (x := x) (ix := ix)
      have := hf (atR ix r)
      rw [Nat.add_mul, Nat.one_mul]
      omega
theorem vw_add (f : Nat → Nat) (x : List Nat) (ix : Nat) : ∀ (n r st : Nat), vw f x ix n r st = ((vw f x ix n r 0).1, st + (vw f x ix n r 0).2)
  | 0, r, st => by simp [vw]
  | n + 1, r, st => by
    unfold vw
    split
    · simp
    · rw [vw_add f x ix n _ (st + 1 + _), vw_add f x ix n _ (0 + 1 + _)]
      simp only [Prod.mk.injEq, true_and]; omega
/-- **THE WAY BACK**: over the last column of a text, the rows are those of its positions from the end. -/
theorem way_back {t o : List Nat} (h : Ord t o) : ∀ k, k ≤ t.length → o[rowK (colO t o) (o.idxOf 0) k]? = some (t.length - k)
  | 0, _ => by rw [Nat.sub_zero]; exact h.first
  | k + 1, hk => by
    have ih := way_back h k (by omega)
    have hne : t.length - k ≠ 0 := by omega
    have sb := step_back h ih hne
    obtain ⟨h1, h2⟩ := colO_get h ih hne
    have e : (if rowK (colO t o) (o.idxOf 0) k ≤ o.idxOf 0 then rowK (colO t o) (o.idxOf 0) k else rowK (colO t o) (o.idxOf 0) k - 1) = atR (o.idxOf 0) (rowK (colO t o) (o.idxOf 0) k) := rfl
    rw [e] at sb h2
    have hg : (colO t o).getD (atR (o.idxOf 0) (rowK (colO t o) (o.idxOf 0) k)) 0 = t.getD (t.length - k - 1) 0 := by
      rw [List.getD_eq_getElem?_getD, h2, Option.getD_some]
    rw [rowK, nxR, hg, sb]
    congr 1
theorem way_byte {t o : List Nat} (h : Ord t o) {k : Nat} (hk : k < t.length) :
    rowK (colO t o) (o.idxOf 0) k ≠ o.idxOf 0 ∧ (colO t o)[atR (o.idxOf 0) (rowK (colO t o) (o.idxOf 0) k)]? = some (t.getD (t.length - k - 1) 0) :=
  colO_get h (way_back h k (by omega)) (by omega)
theorem way_le {t o : List Nat} (h : Ord t o) {k : Nat} (hk : k ≤ t.length) : rowK (colO t o) (o.idxOf 0) k ≤ t.length := by
  have h1 := (List.getElem?_eq_some_iff.1 (way_back h k hk)).1
  rw [h.len] at h1; omega
theorem way_end {t o : List Nat} (h : Ord t o) : rowK (colO t o) (o.idxOf 0) t.length = o.idxOf 0 := by
  have h1 := way_back h t.length (Nat.le_refl _)
  rw [Nat.sub_self] at h1
  obtain ⟨h2, h3⟩ := List.getElem?_eq_some_iff.1 h1
  have hx : o.idxOf 0 < o.length := List.idxOf_lt_length_iff.2 (h.mem.2 (Nat.zero_le _))
  have hz : o[o.idxOf 0] = 0 := List.getElem_idxOf hx
  have hpw := List.pairwise_iff_getElem.1 h.nodup
  rcases Nat.lt_trichotomy (rowK (colO t o) (o.idxOf 0) t.length) (o.idxOf 0) with h4 | h4 | h4
  · exact absurd (by rw [h3, hz]) (hpw _ _ h2 hx h4)
  · exact h4
  · exact absurd (by rw [h3, hz]) (hpw _ _ hx h2 h4)
theorem vw_way {f : Nat → Nat} {x : List Nat} {ix : Nat} : ∀ (n k st : Nat), (∀ j, k ≤ j → j < k + n → rowK x ix j ≠ ix) → (vw f x ix n (rowK x ix k) st).1 = some (rowK x ix (k + n)) ∧ st + n ≤ (vw f x ix n (rowK x ix k) st).2
  | 0, k, st, _ => by simp [vw]
  | n + 1, k, st, h => by
    unfold vw
    rw [if_neg (h k (Nat.le_refl _) (by omega))]
    have ih := vw_way (f := f) n (k + 1) (st + 1 + f (atR ix (rowK x ix k))) (fun j h1 h2 => h j (by omega) (by omega))
    rw [rowK] at ih
    refine ⟨by rw [ih.1]; congr 2; omega, by omega⟩
theorem vw_right {f : Nat → Nat} {t o : List Nat} (h : Ord t o) : (vw f (colO t o) (o.idxOf 0) t.length 0 0).1 = some (o.idxOf 0) ∧ t.length ≤ (vw f (colO t o) (o.idxOf 0) t.length 0 0).2 := by
  have := vw_way (f := f) (x := colO t o) (ix := o.idxOf 0) t.length 0 0 (fun j _ hj => (way_byte h (by omega)).1)
  rw [Nat.zero_add, way_end h] at this
  exact ⟨this.1, by have := this.2; rw [rowK] at this; omega⟩
theorem csm_less (l : List Nat) : ∀ n, csm l n = less n l := by
  induction l with
  | nil => intro n; induction n with
    | zero => rfl
    | succ n ih => simp [csm, ih, less]
  | cons a l ih =>
    intro n
    have : ∀ n, csm (a :: l) n = csm l n + if a < n then 1 else 0 := by
      intro n
      induction n with
      | zero => simp [csm]
      | succ n ih2 =>
        simp only [csm, ih2, List.count_cons]
        by_cases h1 : a < n
        · have : ¬ a = n := by omega
          have h2 : a < n + 1 := by omega
          simp [h1, this, h2]; omega
        · by_cases h2 : a = n
          · subst h2; simp; omega
          · have h3 : ¬ a < n + 1 := by omega
            simp [h1, h2, h3]
    rw [this n, ih n, less, Nat.add_comm]
theorem same_count (c : Nat) (l : List Nat) : same c l = l.count c := by
  rw [same_countP, List.count]
  apply List.countP_congr
  intro b _
  simp
end AM
end Go.Proofs.Ytlphmnhkkhcjfaa
