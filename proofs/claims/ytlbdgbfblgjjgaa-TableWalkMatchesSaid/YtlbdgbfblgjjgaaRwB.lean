/-
  WALKS WITH RANKS: New, Next, Valid, Reset, Steps, Told on the abstract machine. Conditions: none.
-/
import Derived.Test.YtlbdgbfblgjjgaaRwA
set_option linter.all false
namespace Go.Proofs.Ytlbdgbfblgjjgaa
namespace AM
open Go Go.RowKit
theorem reach_oneW {base r : Nat} {hp : List Blk} (hb : ∀ x ∈ refsAt hp r, x < base) (hr : base ≤ r) : ∀ (ws acc : List Nat) (f : Nat), (∀ x ∈ ws, x = r ∨ x < base) → acc = [r] → reach hp base f ws acc = [r]
  | ws, acc, 0, _, ha => by rw [reach]; exact ha
  | [], acc, f + 1, _, ha => by rw [reach]; exact ha
  | x :: ws, acc, f + 1, hx, ha => by
    have h1 : (decide (x < base) || acc.contains x) = true := by
      rcases hx x (by simp) with h | h
      · rw [ha, h]; simp
      · simp [h]
    rw [reach, if_pos h1]
    exact reach_oneW hb hr ws acc f (fun y hy => hx y (by simp [hy])) ha
theorem renC_old {n m : Nat} : ∀ {v : Value}, (∀ r ∈ refsC v, r < n) → renC (one n m) v = v := by
  intro v h
  cases v with
  | pointer a => cases a with
    | none => rfl
    | some a => simp only [renC, one_old (h a.block (by simp [refsC]))]
  | slice a n e => cases a with
    | none => rfl
    | some a => simp only [renC, one_old (h a.block (by simp [refsC]))]
  | map a => cases a with
    | none => rfl
    | some a => simp only [renC, one_old (h a (by simp [refsC]))]
  | _ => rfl
theorem renB_old {n m : Nat} {b : Blk} (h : ∀ r ∈ refsB b, r < n) : renB (one n m) b = b := by
  cases b with
  | cells g pl cs =>
    cases pl with
    | true => rfl
    | false =>
      simp only [renB, Blk.cells.injEq, true_and]
      have : ∀ v ∈ cs, renC (one n m) v = v := fun v hv => renC_old fun r hr => h r (by simp only [refsB, List.mem_flatMap]; exact ⟨v, hv, hr⟩)
      conv => rhs; rw [← List.map_id cs]
      exact List.map_congr_left fun v hv => this v hv
  | map es => simp [renB]
/-- One new block is kept; what it refers to is old. -/
theorem gc_oneW {h nw : List Blk} {L : Nat} {H d : List Nat} {vs : List Value} {k : Nat} {b : Blk} (hk : nw[k]? = some b) (hB : ∀ r ∈ refsB b, r < h.length) (hv : ∀ v ∈ vs, ∀ r ∈ refs v, r < h.length ∨ r = h.length + k) (hx : ∃ v ∈ vs, h.length + k ∈ refs v) (hd : d = []) :
    gc h.length vs ⟨h ++ nw, L, H, d⟩ = some (vs.map (ren (one h.length (h.length + k))), ⟨h ++ [b], L, H, []⟩) := by
  subst hd
  have hkl : k < nw.length := (List.getElem?_eq_some_iff.1 hk).1
  have hb : (h ++ nw)[h.length + k]? = some b := by rw [List.getElem?_append_right (by omega), Nat.add_sub_cancel_left]; exact hk
  have hr0 : refsAt (h ++ nw) (h.length + k) = refsB b := by simp [refsAt, hb]
  unfold gc
  rw [if_neg (by simp only [List.length_append]; omega)]
  have hroots : ∀ r ∈ (vs.flatMap refs ++ (([] : List Nat).filter (· < h.length)).flatMap (refsAt (h ++ nw))).filter (h.length ≤ ·), r = h.length + k := fun r hr => by
    simp only [List.filter_nil, List.flatMap_nil, List.append_nil, List.mem_filter, List.mem_flatMap, decide_eq_true_eq] at hr
    obtain ⟨⟨v, h1, h2⟩, h3⟩ := hr
    rcases hv v h1 r h2 with h4 | h4
    · omega
    · exact h4
  have hne : h.length + k ∈ (vs.flatMap refs ++ (([] : List Nat).filter (· < h.length)).flatMap (refsAt (h ++ nw))).filter (h.length ≤ ·) := by
    simp only [List.filter_nil, List.flatMap_nil, List.append_nil, List.mem_filter, List.mem_flatMap, decide_eq_true_eq]
    obtain ⟨v, h1, h2⟩ := hx
    exact ⟨⟨v, h1, h2⟩, by omega⟩
  simp only []
  generalize hroot : (vs.flatMap refs ++ (([] : List Nat).filter (· < h.length)).flatMap (refsAt (h ++ nw))).filter (h.length ≤ ·) = roots at hroots hne
  cases roots with
  | nil => simp at hne
  | cons r rs =>
    have hr : r = h.length + k := hroots r (by simp)
    subst hr
    simp only []
    have hreach : reach (h ++ nw) h.length 4096 ((h.length + k) :: rs) [] = [h.length + k] := by
      rw [show 4096 = 4095 + 1 by rfl, reach]
      rw [if_neg (by simp)]
      exact reach_oneW (by rw [hr0]; exact hB) (by omega) _ _ _ (fun x hx => by
        rw [hr0, List.mem_append] at hx
        rcases hx with hx | hx
        · exact .inr (hB x hx)
        · exact .inl (hroots x (by simp [hx]))) rfl
    rw [hreach]
    unfold gcKeep
    have hok : (vs.all fun v => (refs v).all fun r => decide (r < h.length) || [h.length + k].contains r) = true := by
      rw [List.all_eq_true]
      intro v h1
      rw [List.all_eq_true]
      intro r h2
      rcases hv v h1 r h2 with h4 | h4
      · simp [h4]
      · simp [h4]
    have hok2 : ((refsB b).all fun r => decide (r < h.length) || [h.length + k].contains r) = true := by
      rw [List.all_eq_true]
      intro r h1
      simp [hB r h1]
    simp only [List.filter_nil]
    refine (if_pos ?_).trans ?_
    · simp only [nodupB, hok, List.all_nil, List.all_cons, hr0, List.length_append, hok2]
      simp
      exact hkl
    · have hg : (h ++ nw).getD (h.length + k) default = b := by rw [List.getD_eq_getElem?_getD, hb]; rfl
      have hrb := renB_old (n := h.length) (m := h.length + k) hB
      unfold one at hrb
      simp only [renAll, List.map_cons, List.map_nil, hg, List.take_left', hrb]
      rfl
end AM
namespace ArA
open Go Go.RowKit AM ArEnv
theorem wk_refs {r s m t z ix kk n row told steps : Nat} {x : List Nat} : refsB (.cells 0 false (wkC r s m t z ix kk x n row told steps)) = [r] := by
  simp [refsB, wkC, refsC, arP, lP_refs]
section
variable {hp : List Blk} {L : Nat} {H d : List Nat} {r q w : Nat} {A B : Arn} {s t z kk ix : Nat} {x : List Nat} {row told steps : Nat}
end
end ArA
end Go.Proofs.Ytlbdgbfblgjjgaa
