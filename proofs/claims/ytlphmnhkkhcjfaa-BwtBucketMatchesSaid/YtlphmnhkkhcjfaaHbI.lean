/-
  THE TRANSFORM BY BUCKETS: what a pass brings. Conditions: none.
-/
import Derived.Test.YtlphmnhkkhcjfaaHbH
set_option linter.all false
namespace Go.Proofs.Ytlphmnhkkhcjfaa
namespace ArA
open Go Go.RowKit AM ArEnv
theorem Ord.slt {x o : List Nat} (ho : Ord x o) {i j : Nat} (hi : i < o.length) (hj : j < o.length) (hij : i < j) : slt x o[i] o[j] = true := by
  have := List.pairwise_iff_getElem.1 ho.sorted i j hi hj hij
  unfold ArA.slt; rw [decide_eq_true_eq]; exact this
theorem ask_mem {x o : List Nat} (ho : Ord x o) {row : Nat} (hr : row ≤ o.length) (e : Nat) : e ∈ o.drop row ↔ e < x.length + 1 ∧ askB x (lastO o row) e = true := by
  have hel : e ∈ o ↔ e < x.length + 1 := by rw [ho.mem]; omega
  by_cases c : row = 0
  · subst c
    rw [List.drop_zero, hel]
    have : askB x (lastO o 0) e = true := by simp [askB, lastO]
    simp [this]
  · have hv : row - 1 < o.length := by omega
    have hl : lastO o row = (o[row - 1] : Nat) := by
      unfold lastO; rw [if_neg c, List.getD_eq_getElem?_getD, List.getElem?_eq_getElem hv]; rfl
    have ha : askB x (lastO o row) e = slt x o[row - 1] e := by
      rw [hl]; unfold askB; simp; omega
    rw [ha]
    constructor
    · intro h
      obtain ⟨j, hj, rfl⟩ := List.getElem_of_mem h
      rw [List.length_drop] at hj
      rw [List.getElem_drop]
      have h3 : row + j < o.length := by omega
      have h4 := ho.mem.1 (List.getElem_mem h3)
      exact ⟨by omega, Ord.slt ho hv h3 (by omega)⟩
    · rintro ⟨h1, h2⟩
      obtain ⟨j, hj, rfl⟩ := List.getElem_of_mem (hel.2 h1)
      by_cases c2 : row ≤ j
      · rw [List.mem_iff_getElem]
        refine ⟨j - row, by rw [List.length_drop]; omega, ?_⟩
        rw [List.getElem_drop]; congr 1; omega
      · exfalso
        by_cases c3 : j = row - 1
        · subst c3; rw [slt_self] at h2; cases h2
        · have := Ord.slt ho hj hv (by omega)
          rw [(slt_tot x).asy _ _ this] at h2; cases h2
/-- The words of a pass are the next rows. -/
theorem pass_words {x o : List Nat} (ho : Ord x o) {row room k : Nat} {V : Nat → Nat} (hr : row ≤ o.length) (g : Gath (slt x) (askB x (lastO o row)) room V k (x.length + 1)) :
    k = min room (o.length - row) ∧ ∀ j, j < k → sortW (slt x) k V j = o.getD (row + j) 0 := by
  have hp : (o.drop row).Pairwise fun a b => slt x a b = true := by
    rw [List.pairwise_iff_getElem]
    intro i j hi hj hij
    rw [List.length_drop] at hi hj
    rw [List.getElem_drop, List.getElem_drop]
    exact Ord.slt ho (by omega) (by omega) (by omega)
  obtain ⟨h1, h2⟩ := g.next (slt_tot x) (slt_tri x) hp (ask_mem ho hr)
  rw [List.length_drop] at h2
  refine ⟨h2, fun j hj => ?_⟩
  have h3 := congrArg (fun l => l[j]?) h1
  simp only [List.getElem?_map, List.getElem?_range hj, Option.map_some] at h3
  rw [List.getElem?_take_of_lt (by omega), List.getElem?_drop] at h3
  rw [List.getD_eq_getElem?_getD, ← h3]; rfl
end ArA
end Go.Proofs.Ytlphmnhkkhcjfaa
