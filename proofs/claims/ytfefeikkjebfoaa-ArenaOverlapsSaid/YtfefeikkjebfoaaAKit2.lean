/-
  WORDS FOR WALKS ON THE ABSTRACT MACHINE, more of them. Conditions: none.
-/
import Derived.Test.YtfefeikkjebfoaaAKit
namespace Go.Proofs.Ytfefeikkjebfoaa
namespace AM
open Go Go.RowKit

/-- A law's end, whatever memory is left. -/
theorem gc_bool (σ : St) (base : Nat) (b : Bool) (hq : List Blk) (L : Nat) (H : List Nat) : ∃ τ, gcX σ (gc base [.bool b] ⟨hq, L, H, []⟩) = some (.bool b, τ) := by
  unfold gc
  split
  · exact ⟨_, rfl⟩
  · simp [refs, refsF, refsC]
    exact ⟨_, rfl⟩
theorem sliceF_3 (esz b o n e : Nat) (s : Option Nat) (k1 k2 k3 : IntKind) (i j m : Int) : sliceF esz (.slice (some ⟨b, o, s⟩) n e) (some (.int k1 i)) (some (.int k2 j)) (some (.int k3 m)) = if e = 0 ∨ e = esz then (if 0 ≤ i ∧ i ≤ j ∧ j ≤ m ∧ m ≤ n then some (.slice (some ⟨b, o + i.toNat * esz, s⟩) (j.toNat - i.toNat) 0) else none) else none := by
  simp only [sliceF, cuts, boundv]
  split
  · by_cases h1 : 0 ≤ m ∧ m ≤ (n : Int)
    · rw [if_pos h1]
      simp only [Option.bind_some]
      by_cases h2 : 0 ≤ j ∧ j ≤ (m.toNat : Int)
      · rw [if_pos h2]
        simp only [Option.bind_some]
        by_cases h3 : 0 ≤ i ∧ i ≤ (j.toNat : Int)
        · rw [if_pos h3, if_pos (by omega)]; rfl
        · rw [if_neg h3, if_neg (by omega)]; rfl
      · rw [if_neg h2, if_neg (by omega)]; rfl
    · rw [if_neg h1, if_neg (by omega)]; rfl
  · rfl
theorem contains_range0 {lo k i : Nat} (h : i < lo ∨ lo + k ≤ i) : (List.range' lo k).contains i = false := by
  have := contains_range (H := []) h
  rw [List.append_nil] at this
  rw [this]; rfl
theorem Fit.nil {n L : Nat} (h : L ≤ n) : Fit n L [] := ⟨h, Low.nil n⟩
theorem Fit.range0 {n L lo k : Nat} (h : L ≤ n) (h2 : lo + k ≤ n) : Fit n L (List.range' lo k) := by
  have := Low.range (Low.nil n) h2
  rw [List.append_nil] at this
  exact ⟨h, this⟩
end AM
end Go.Proofs.Ytfefeikkjebfoaa
