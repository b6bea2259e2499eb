/-
  COLLECTING, FOLLOWED ON STATES THAT ARE NOT KNOWN: nothing new is kept, one new block is kept. Conditions: none.
-/
import Derived.Test.YtfefeikkjebfoaaASym
namespace Go.Proofs.Ytfefeikkjebfoaa
namespace AM
open Go Go.RowKit

section
variable {h nw : List Blk} {L : Nat} {H d : List Nat} {vs : List Value}
/-- Nothing new can be seen: it is dropped. -/
theorem gc_zero (hv : ∀ v ∈ vs, ∀ r ∈ refs v, r < h.length) (hd : d = []) : gc h.length vs ⟨h ++ nw, L, H, d⟩ = some (vs, ⟨h, L, H, []⟩) := by
  subst hd
  unfold gc
  by_cases hn : (h ++ nw).length ≤ h.length
  · rw [if_pos hn]
    have : nw = [] := by
      simp only [List.length_append] at hn
      exact List.eq_nil_of_length_eq_zero (by omega)
    subst this
    simp
  · rw [if_neg hn]
    have : (vs.flatMap refs ++ (([] : List Nat).filter (· < h.length)).flatMap (refsAt (h ++ nw))).filter (h.length ≤ ·) = [] := by
      simp only [List.filter_nil, List.flatMap_nil, List.append_nil]
      rw [List.filter_eq_nil_iff]
      intro r hr
      obtain ⟨v, h1, h2⟩ := List.mem_flatMap.1 hr
      have := hv v h1 r h2
      simpa using this
    simp only [this]
    simp
theorem reach_one {g : Nat} {cs : List Value} {base r : Nat} {hp : List Blk} (hb : hp[r]? = some (.cells g true cs)) (hr : base ≤ r) : ∀ (ws acc : List Nat) (f : Nat), (∀ x ∈ ws, x = r) → acc = [r] → reach hp base f ws acc = [r]
  | ws, acc, 0, _, ha => by rw [reach]; exact ha
  | [], acc, f + 1, _, ha => by rw [reach]; exact ha
  | x :: ws, acc, f + 1, hx, ha => by
    have : x = r := hx x (by simp)
    subst this
    rw [reach]
    have h1 : (decide (x < base) || acc.contains x) = true := by rw [ha]; simp
    rw [if_pos h1]
    exact reach_one hb hr ws acc f (fun y hy => hx y (by simp [hy])) ha
/-- Where the one kept block goes. -/
def one (base r : Nat) (id : Nat) : Nat := if id < base then id else base + [r].idxOf id
theorem one_old {base r id : Nat} (h : id < base) : one base r id = id := by simp [one, h]
theorem one_new {base k : Nat} : one base (base + k) (base + k) = base := by
  have : ¬ base + k < base := by omega
  simp [one, this]
theorem gc_one {k g : Nat} {cs : List Value} (hk : nw[k]? = some (.cells g true cs)) (hv : ∀ v ∈ vs, ∀ r ∈ refs v, r < h.length ∨ r = h.length + k) (hx : ∃ v ∈ vs, h.length + k ∈ refs v) (hd : d = []) :
    gc h.length vs ⟨h ++ nw, L, H, d⟩ = some (vs.map (ren (one h.length (h.length + k))), ⟨h ++ [.cells g true cs], L, H, []⟩) := by
  subst hd
  have hkl : k < nw.length := (List.getElem?_eq_some_iff.1 hk).1
  have hb : (h ++ nw)[h.length + k]? = some (.cells g true cs) := by rw [List.getElem?_append_right (by omega), Nat.add_sub_cancel_left]; exact hk
  have hr0 : refsAt (h ++ nw) (h.length + k) = [] := by simp [refsAt, hb, refsB]
  unfold gc
  rw [if_neg (by simp only [List.length_append]; omega)]
  have hroots : ∀ r ∈ (vs.flatMap refs ++ (([] : List Nat).filter (· < h.length)).flatMap (refsAt (h ++ nw))).filter (h.length ≤ ·), r = h.length + k := fun r hr => by
    simp only [List.filter_nil, List.flatMap_nil, List.append_nil, List.mem_filter, List.mem_flatMap, decide_eq_true_eq] at hr
    obtain ⟨⟨v, h1, h2⟩, h3⟩ := hr
    rcases hv v h1 r h2 with h4 | h4
    · omega
    · exact h4
  have hne : h.length + k ∈ (vs.flatMap refs ++ (([] : List Nat).filter (· < h.length)).flatMap (refsAt (h ++ nw))).filter (h.length ≤ ·) := by
    simp only [List.filter_nil, List.flatMap_nil, List.append_nil, List.mem_filter, List.mem_flatMap, decide_eq_true_eq]
    obtain ⟨v, h1, h2⟩ := hx
    exact ⟨⟨v, h1, h2⟩, by omega⟩
  simp only []
  generalize hroot : (vs.flatMap refs ++ (([] : List Nat).filter (· < h.length)).flatMap (refsAt (h ++ nw))).filter (h.length ≤ ·) = roots at hroots hne
  cases roots with
  | nil => simp at hne
  | cons r rs =>
    have hr : r = h.length + k := hroots r (by simp)
    subst hr
    simp only []
    have hreach : reach (h ++ nw) h.length 4096 ((h.length + k) :: rs) [] = [h.length + k] := by
      rw [show 4096 = 4095 + 1 by rfl, reach]
      rw [if_neg (by simp)]
      exact reach_one hb (by omega) _ _ _ (fun x hx => by
        rw [hr0, List.nil_append] at hx
        exact hroots x (by simp [hx])) rfl
    rw [hreach]
    unfold gcKeep
    have hok : (vs.all fun v => (refs v).all fun r => decide (r < h.length) || [h.length + k].contains r) = true := by
      rw [List.all_eq_true]
      intro v h1
      rw [List.all_eq_true]
      intro r h2
      rcases hv v h1 r h2 with h4 | h4
      · simp [h4]
      · simp [h4]
    simp only [List.filter_nil]
    refine (if_pos ?_).trans ?_
    · simp only [nodupB, hok, List.all_nil, List.all_cons, hr0, List.length_append]
      simp
      exact hkl
    · have hg : (h ++ nw).getD (h.length + k) default = .cells g true cs := by rw [List.getD_eq_getElem?_getD, hb]; rfl
      simp only [renAll, List.map_cons, List.map_nil, hg, renB, List.take_left']
      rfl
/-- A function's end: nothing new kept. -/
theorem gc_zero1 {v : Value} (hv : ∀ r ∈ refs v, r < h.length) : gc h.length [v] ⟨h ++ nw, L, H, []⟩ = some ([v], ⟨h, L, H, []⟩) := gc_zero (fun v' h1 r h2 => by simp at h1; subst h1; exact hv r h2) rfl
theorem gc_zero0 {v : Value} (hv : ∀ r ∈ refs v, r < h.length) : gc h.length [v] ⟨h, L, H, []⟩ = some ([v], ⟨h, L, H, []⟩) := by
  have := gc_zero1 (nw := []) (L := L) (H := H) hv
  simpa using this
end
end AM
end Go.Proofs.Ytfefeikkjebfoaa
