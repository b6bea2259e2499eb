/-
  SORTED SUFFIXES: the last column, the row of the text, and the step back. Conditions: none.
-/
import Derived.Test.YtlphmnhkkhcjfaaBwPlain
set_option linter.all false
namespace Go.Proofs.Ytlphmnhkkhcjfaa
namespace AM
open Go Go.RowKit
/-- The rows of a text: its positions, in the order of its suffixes. -/
structure Ord (T o : List Nat) : Prop where
  perm : o.Perm (List.range (T.length + 1))
  sorted : o.Pairwise fun i k => T.drop i < T.drop k
def colO (T o : List Nat) : List Nat := (o.filter (· ≠ 0)).map fun j => T.getD (j - 1) 0
theorem suf_irr (a : List Nat) : ¬ a < a := List.lt_irrefl a
theorem suf_tri (a b : List Nat) : a < b ∨ a = b ∨ b < a := by
  by_cases h : a < b
  · exact .inl h
  by_cases h2 : b < a
  · exact .inr (.inr h2)
  exact .inr (.inl (List.le_antisymm (List.not_lt.1 h2) (List.not_lt.1 h)))
theorem suf_asy {a b : List Nat} (h : a < b) : ¬ b < a := List.lt_asymm h
theorem suf_tra {a b c : List Nat} (h : a < b) (h2 : b < c) : a < c := List.lt_trans h h2
theorem Ord.len {T o : List Nat} (h : Ord T o) : o.length = T.length + 1 := by rw [h.perm.length_eq, List.length_range]
theorem Ord.mem {T o : List Nat} (h : Ord T o) {i : Nat} : i ∈ o ↔ i ≤ T.length := by rw [h.perm.mem_iff, List.mem_range]; omega
theorem Ord.nodup {T o : List Nat} (h : Ord T o) : o.Nodup := h.perm.nodup_iff.2 List.nodup_range
theorem Ord.uniq {T o p : List Nat} (h : Ord T o) (k : Ord T p) : o = p :=
  List.Perm.eq_of_pairwise (fun _ _ _ _ h1 h2 => absurd h2 (suf_asy h1)) h.sorted k.sorted (h.perm.trans k.perm.symm)
/-- What stands before an element of a sorted list. -/
theorem cnt_before {α : Type} {R : α → α → Prop} [DecidableRel R] (ir : ∀ a, ¬ R a a) (asy : ∀ a b, R a b → ¬ R b a) {l : List α} (h : l.Pairwise R) (p : α → Bool) {r : Nat} {x : α} (hx : l[r]? = some x) :
    l.countP (fun j => p j && decide (R j x)) = (l.take r).countP p := by
  obtain ⟨hr, rfl⟩ := List.getElem?_eq_some_iff.1 hx
  have e : l = l.take r ++ l[r] :: l.drop (r + 1) := by rw [← List.drop_eq_getElem_cons hr, List.take_append_drop]
  have hp := h
  rw [e, List.pairwise_append, List.pairwise_cons] at hp
  obtain ⟨-, ⟨h2, -⟩, h3⟩ := hp
  generalize hy : l[r] = y at *
  rw [e, List.countP_append, List.countP_cons]
  have l1 : (l.take r).length = r := by simp; omega
  have t1 : List.take r (l.take r ++ y :: l.drop (r + 1)) = l.take r := by rw [List.take_left' l1]
  have a1 : (l.take r).countP (fun j => p j && decide (R j y)) = (l.take r).countP p := by
    apply List.countP_congr
    intro a ha
    have := h3 a ha y List.mem_cons_self
    simp [this]
  have a2 : (l.drop (r + 1)).countP (fun j => p j && decide (R j y)) = 0 := by
    rw [List.countP_eq_zero]
    intro a ha
    have := asy _ _ (h2 a ha)
    simp [this]
  have a3 := ir y
  rw [← e, a1, a2]; simp [a3]
theorem less_countP (c : Nat) : ∀ l : List Nat, less c l = l.countP (fun b => decide (b < c))
  | [] => rfl
  | b :: l => by rw [less, List.countP_cons, less_countP c l]; simp only [decide_eq_true_eq]; omega
theorem same_countP (c : Nat) : ∀ l : List Nat, same c l = l.countP (fun b => decide (b = c))
  | [] => rfl
  | b :: l => by rw [same, List.countP_cons, same_countP c l]; simp only [decide_eq_true_eq]; omega
theorem countP_or {α : Type} (p q : α → Bool) (h : ∀ a, p a = true → q a = false) : ∀ l : List α, l.countP (fun a => p a || q a) = l.countP p + l.countP q
  | [] => rfl
  | a :: l => by
    rw [List.countP_cons, List.countP_cons, List.countP_cons, countP_or p q h l]
    have := h a
    cases hp : p a <;> cases hq : q a <;> simp_all <;> omega
theorem cons_lt {T : List Nat} {j c : Nat} {w : List Nat} (h : j < T.length) : T.drop j < c :: w ↔ T.getD j 0 < c ∨ (T.getD j 0 = c ∧ T.drop (j + 1) < w) := by
  rw [List.drop_eq_getElem_cons h, List.cons_lt_cons_iff, List.getD_eq_getElem?_getD, List.getElem?_eq_getElem h, Option.getD_some]
/-- How many suffixes come before a byte put before a suffix. -/
theorem rank_cons {T o : List Nat} (h : Ord T o) {r i : Nat} (hr : o[r]? = some i) (c : Nat) :
    o.countP (fun j => decide (T.drop j < c :: T.drop i)) = 1 + (less c (colO T o) + same c (colO T (o.take r))) := by
  have e1 : o.countP (fun j => decide (T.drop j < c :: T.drop i)) = 1 + (o.filter (· ≠ 0)).countP (fun j => decide (T.drop (j - 1) < c :: T.drop i)) := by
    rw [h.perm.countP_eq, (h.perm.filter _).countP_eq, List.range_succ, List.countP_append]
    have : (List.filter (fun x => decide (x ≠ 0)) (List.range T.length ++ [T.length])) = (List.range T.length).map (· + 1) := by
      rw [← List.range_succ, List.range_succ_eq_map, List.filter_cons]
      simp only [ne_eq, not_true_eq_false, decide_false, Bool.false_eq_true, if_false]
      rw [List.filter_eq_self.2]; intro a ha; obtain ⟨b, -, rfl⟩ := List.mem_map.1 ha; simp
    rw [this, List.countP_map]
    have : List.countP (fun j => decide (T.drop j < c :: T.drop i)) [T.length] = 1 := by simp [List.countP_cons]
    rw [this, Nat.add_comm]
    rfl
  have e2 : (o.filter (· ≠ 0)).countP (fun j => decide (T.drop (j - 1) < c :: T.drop i)) = (o.filter (· ≠ 0)).countP (fun j => decide (T.getD (j - 1) 0 < c) || (decide (T.getD (j - 1) 0 = c) && decide (T.drop j < T.drop i))) := by
    apply List.countP_congr
    intro j hj
    obtain ⟨hj1, hj2⟩ := List.mem_filter.1 hj
    have hj3 := h.mem.1 hj1
    have hj4 : j ≠ 0 := by simpa using hj2
    have := cons_lt (T := T) (j := j - 1) (c := c) (w := T.drop i) (by omega)
    rw [show j - 1 + 1 = j by omega] at this
    simp [this]
  rw [e1, e2, countP_or _ _ (by intro a ha; simp at ha ⊢; omega)]
  congr 1
  congr 1
  · rw [less_countP, colO, List.countP_map]; rfl
  · rw [same_countP, colO, List.countP_map, List.countP_filter, List.countP_filter]
    have := cnt_before (R := fun a b : Nat => T.drop a < T.drop b) (fun a => suf_irr _) (fun a b => suf_asy) h.sorted (fun j => decide (T.getD (j - 1) 0 = c) && decide (j ≠ 0)) hr
    rw [show (fun a => ((fun b => decide (b = c)) ∘ fun j => T.getD (j - 1) 0) a && decide (a ≠ 0)) = (fun j => decide (T.getD (j - 1) 0 = c) && decide (j ≠ 0)) from rfl, ← this]
    apply List.countP_congr
    intro j _
    simp [and_comm, and_assoc]
    constructor <;> rintro ⟨a, b, c⟩ <;> exact ⟨b, a, c⟩
/-- The place of a row in the column. -/
theorem colO_take {T o : List Nat} (h : Ord T o) (r : Nat) : colO T (o.take r) = (colO T o).take (if r ≤ o.idxOf 0 then r else r - 1) := by
  have h0 : (0 : Nat) ∈ o := h.mem.2 (Nat.zero_le _)
  have hi := List.idxOf_lt_length_iff.2 h0
  have hz : o[o.idxOf 0] = 0 := List.getElem_idxOf hi
  have nd := h.nodup
  have e : o = o.take (o.idxOf 0) ++ 0 :: o.drop (o.idxOf 0 + 1) := by
    conv => lhs; rw [← List.take_append_drop (o.idxOf 0) o, List.drop_eq_getElem_cons hi, hz]
  generalize o.idxOf 0 = x at *
  have hl : (o.take x).length = x := by simp; omega
  generalize ha : o.take x = a at *
  generalize o.drop (x + 1) = b at *
  have na : ∀ y ∈ a, y ≠ 0 := by
    rintro y hy rfl
    rw [e, List.nodup_append] at nd
    exact nd.2.2 0 hy 0 List.mem_cons_self rfl
  have nb : ∀ y ∈ b, y ≠ 0 := by
    rintro y hy rfl
    rw [e, List.nodup_append, List.nodup_cons] at nd
    exact nd.2.1.1 hy
  have fa : ∀ l : List Nat, (∀ y ∈ l, y ≠ 0) → l.filter (· ≠ 0) = l := fun l hl => List.filter_eq_self.2 (by intro y hy; simpa using hl y hy)
  have ec : colO T o = (a ++ b).map fun j => T.getD (j - 1) 0 := by
    rw [colO, e, List.filter_append, List.filter_cons, fa a na, fa b nb]; simp
  rw [ec, ← List.map_take]
  unfold colO
  congr 1
  split
  · rename_i hr
    rw [e, List.take_append_of_le_length (by omega), List.take_append_of_le_length (by omega)]
    exact fa _ fun y hy => na y (List.mem_of_mem_take hy)
  · rename_i hr
    have h1 : r = a.length + (r - x - 1 + 1) := by omega
    have h2 : r - 1 = a.length + (r - x - 1) := by omega
    rw [h2, e, h1, List.take_length_add_append, List.take_length_add_append, List.take_succ_cons, List.filter_append, List.filter_cons, fa a na]
    simp only [ne_eq, not_true_eq_false, decide_false, Bool.false_eq_true, if_false]
    rw [show a.length + (r - x - 1 + 1) - x - 1 = r - x - 1 by omega]
    have := fa (b.take (r - x - 1)) (fun y hy => nb y (List.mem_of_mem_take hy))
    simp only [ne_eq] at this
    rw [this]
theorem colO_len {T o : List Nat} (h : Ord T o) : (colO T o).length = T.length := by
  have := h.perm.filter (fun x => decide (x ≠ 0))
  rw [colO, List.length_map, this.length_eq]
  rw [List.range_succ_eq_map, List.filter_cons]
  simp only [ne_eq, not_true_eq_false, decide_false, Bool.false_eq_true, if_false]
  rw [List.filter_eq_self.2]
  · simp
  · intro a ha; obtain ⟨b, -, rfl⟩ := List.mem_map.1 ha; simp
/-- The row of a position is how many suffixes come before. -/
theorem Ord.row {T o : List Nat} (h : Ord T o) {r i : Nat} (hr : o[r]? = some i) : o.countP (fun j => decide (T.drop j < T.drop i)) = r := by
  have := cnt_before (R := fun a b : Nat => T.drop a < T.drop b) (fun a => suf_irr _) (fun a b => suf_asy) h.sorted (fun _ => true) hr
  simp only [Bool.true_and] at this
  rw [this]
  have hl := (List.getElem?_eq_some_iff.1 hr).1
  rw [List.countP_true, List.length_take]
  omega
theorem Ord.first {T o : List Nat} (h : Ord T o) : o[0]? = some T.length := by
  obtain ⟨k, hk, hk2⟩ := List.getElem_of_mem (h.mem.2 (Nat.le_refl T.length))
  have hk3 : o[k]? = some T.length := by rw [List.getElem?_eq_getElem hk, hk2]
  have := h.row hk3
  rw [List.drop_length] at this
  have z : o.countP (fun j => decide (T.drop j < [])) = 0 := by
    rw [List.countP_eq_zero]; intro a _; simp
  rw [← this, z] at hk3
  exact hk3
/-- A part of a sorted list that goes down is its first rows. -/
theorem down_take {α : Type} {R : α → α → Prop} {P : α → Bool} (hd : ∀ a b, R a b → P b = true → P a = true) : ∀ {l : List α}, l.Pairwise R →
    (∀ a ∈ l.take (l.countP P), P a = true) ∧ (∀ a ∈ l.drop (l.countP P), P a = false)
  | [], _ => by simp
  | x :: l, h => by
    obtain ⟨h1, h2⟩ := List.pairwise_cons.1 h
    have ih := down_take hd h2
    cases hx : P x with
    | true =>
      rw [List.countP_cons, if_pos (by simp [hx]), List.take_succ_cons, List.drop_succ_cons]
      refine ⟨fun a ha => ?_, ih.2⟩
      rcases List.mem_cons.1 ha with rfl | ha
      · exact hx
      · exact ih.1 a ha
    | false =>
      have z : (x :: l).countP P = 0 := by
        rw [List.countP_eq_zero]
        intro a ha
        rcases List.mem_cons.1 ha with rfl | ha
        · simp [hx]
        · intro hp
          have := hd x a (h1 a ha) hp
          rw [hx] at this; cases this
      rw [z]
      refine ⟨by simp, fun a ha => ?_⟩
      rw [List.drop_zero] at ha
      have := (List.countP_eq_zero.1 z) a ha
      cases hp : P a
      · rfl
      · exact absurd hp this
def putO (T o : List Nat) (c : Nat) : List Nat :=
  (o.take (o.countP fun j => decide (T.drop j < c :: T))).map (· + 1) ++ 0 :: (o.drop (o.countP fun j => decide (T.drop j < c :: T))).map (· + 1)
theorem Ord.put {T o : List Nat} (h : Ord T o) (c : Nat) : Ord (c :: T) (putO T o c) := by
  unfold putO
  have hd := down_take (R := fun i k => T.drop i < T.drop k) (P := fun j => decide (T.drop j < c :: T)) (by
    intro a b h1 h2; simp only [decide_eq_true_eq] at h2 ⊢; exact suf_tra h1 h2) h.sorted
  have hs := h.sorted
  have hp := h.perm
  have hm : ∀ j ∈ o, j ≤ T.length := fun j hj => h.mem.1 hj
  generalize (o.countP fun j => decide (T.drop j < c :: T)) = n at *
  have ho : o = o.take n ++ o.drop n := (List.take_append_drop n o).symm
  have m1 : ∀ j ∈ o.take n, j ≤ T.length := fun j hj => hm j (List.mem_of_mem_take hj)
  have m2 : ∀ j ∈ o.drop n, j ≤ T.length := fun j hj => hm j (List.mem_of_mem_drop hj)
  generalize o.take n = a at *
  generalize o.drop n = b at *
  subst ho
  rw [List.pairwise_append] at hs
  refine ⟨?_, ?_⟩
  · have e : (a.map (· + 1) ++ 0 :: b.map (· + 1)).Perm (0 :: (a ++ b).map (· + 1)) := by
      rw [List.map_append]; exact List.perm_middle
    refine e.trans ?_
    rw [List.length_cons, List.range_succ_eq_map]
    exact List.Perm.cons 0 (hp.map _)
  · have dr : ∀ j, (c :: T).drop (j + 1) = T.drop j := fun j => List.drop_succ_cons
    rw [List.pairwise_append, List.pairwise_cons]
    refine ⟨?_, ⟨?_, ?_⟩, ?_⟩
    · rw [List.pairwise_map]; simp only [dr]; exact hs.1
    · intro k hk
      obtain ⟨j, hj, rfl⟩ := List.mem_map.1 hk
      have h1 := hd.2 j hj
      simp only [decide_eq_false_iff_not] at h1
      rw [dr, List.drop_zero]
      rcases suf_tri (T.drop j) (c :: T) with h2 | h2 | h2
      · exact absurd h2 h1
      · have := congrArg List.length h2
        simp only [List.length_drop, List.length_cons] at this
        omega
      · exact h2
    · rw [List.pairwise_map]; simp only [dr]; exact hs.2.1
    · intro i hi k hk
      obtain ⟨j, hj, rfl⟩ := List.mem_map.1 hi
      have h1 := hd.1 j hj
      simp only [decide_eq_true_eq] at h1
      rcases List.mem_cons.1 hk with rfl | hk
      · rw [dr, List.drop_zero]; exact h1
      · obtain ⟨j2, hj2, rfl⟩ := List.mem_map.1 hk
        rw [dr, dr]; exact hs.2.2 j hj j2 hj2
theorem Ord.nil : Ord [] [0] := ⟨by simp, by simp⟩
/-- **TURN IS THE LAST COLUMN**: what is pushed byte by byte is the column of the sorted suffixes, and the text's row. -/
theorem turnR_ord : ∀ (T : List Nat), ∃ o, Ord T o ∧ (turnR T).1 = colO T o ∧ (turnR T).2.1 = o.idxOf 0
  | [] => ⟨[0], Ord.nil, by simp [turnR, colO], by simp [turnR]⟩
  | c :: T => by
    obtain ⟨o, h, e1, e2⟩ := turnR_ord T
    refine ⟨putO T o c, h.put c, ?_, ?_⟩
    · simp only [turnR]
      rw [e1, e2]
      have h0 : (0 : Nat) ∈ o := h.mem.2 (Nat.zero_le _)
      have hx := List.idxOf_lt_length_iff.2 h0
      have hz : o[o.idxOf 0] = 0 := List.getElem_idxOf hx
      have nd := h.nodup
      have e : o = o.take (o.idxOf 0) ++ 0 :: o.drop (o.idxOf 0 + 1) := by
        conv => lhs; rw [← List.take_append_drop (o.idxOf 0) o, List.drop_eq_getElem_cons hx, hz]
      have hl : (o.take (o.idxOf 0)).length = o.idxOf 0 := by simp; omega
      have ep : colO (c :: T) (putO T o c) = o.map fun j => (c :: T).getD j 0 := by
        unfold colO putO
        generalize (o.countP fun j => decide (T.drop j < c :: T)) = n
        rw [List.filter_append, List.filter_cons]
        simp only [ne_eq, not_true_eq_false, decide_false, Bool.false_eq_true, if_false]
        rw [← List.filter_append, ← List.map_append, List.take_append_drop, List.filter_eq_self.2 (by intro a ha; obtain ⟨b, -, rfl⟩ := List.mem_map.1 ha; simp), List.map_map]
        rfl
      rw [ep]
      have t1 := colO_take h (o.idxOf 0)
      rw [if_pos (Nat.le_refl _)] at t1
      generalize o.idxOf 0 = x at *
      unfold pushC
      have fa : ∀ y ∈ o.take x, y ≠ 0 := by
        rintro y hy rfl
        rw [e, List.nodup_append] at nd
        exact nd.2.2 0 hy 0 List.mem_cons_self rfl
      have fb : ∀ y ∈ o.drop (x + 1), y ≠ 0 := by
        rintro y hy rfl
        rw [e, List.nodup_append, List.nodup_cons] at nd
        exact nd.2.1.1 hy
      have t2 : (colO T o).drop x = (o.drop (x + 1)).map fun j => T.getD (j - 1) 0 := by
        have : colO T o = (o.take x).map (fun j => T.getD (j - 1) 0) ++ (o.drop (x + 1)).map fun j => T.getD (j - 1) 0 := by
          conv => lhs; unfold colO; rw [e]
          rw [List.filter_append, List.filter_cons, List.filter_eq_self.2 (by intro y hy; simpa using fa y hy), List.filter_eq_self.2 (by intro y hy; simpa using fb y hy)]
          simp
        rw [this, List.drop_left' (by simp; omega)]
      have t3 : colO T (o.take x) = (o.take x).map fun j => T.getD (j - 1) 0 := by
        unfold colO; rw [List.filter_eq_self.2 (by intro y hy; simpa using fa y hy)]
      rw [← t1, t2, t3]
      conv => rhs; rw [e, List.map_append, List.map_cons]
      have g : ∀ y : Nat, y ≠ 0 → (c :: T).getD y 0 = T.getD (y - 1) 0 := by
        intro y hy
        obtain ⟨z, rfl⟩ : ∃ z, y = z + 1 := ⟨y - 1, by omega⟩
        rfl
      congr 1
      · apply List.map_congr_left; intro y hy; exact (g y (fa y hy)).symm
      · congr 1
        apply List.map_congr_left; intro y hy; exact (g y (fb y hy)).symm
    · simp only [turnR]
      rw [e1, e2, rowN_split]
      have h0 : (0 : Nat) ∈ o := h.mem.2 (Nat.zero_le _)
      have hx := List.idxOf_lt_length_iff.2 h0
      have hz : o[o.idxOf 0]? = some 0 := by rw [List.getElem?_eq_getElem hx, List.getElem_idxOf hx]
      have rk := rank_cons h hz c
      rw [List.drop_zero, colO_take h, if_pos (Nat.le_refl _)] at rk
      rw [← rk]
      unfold putO
      have hn : (o.countP fun j => decide (T.drop j < c :: T)) ≤ o.length := List.countP_le_length
      generalize (o.countP fun j => decide (T.drop j < c :: T)) = n at *
      rw [List.idxOf_append, if_neg (by intro hm; obtain ⟨y, -, hy⟩ := List.mem_map.1 hm; omega), List.idxOf_cons_self]
      simp; omega
end AM
end Go.Proofs.Ytlphmnhkkhcjfaa
