/-
  WORDS FOR WALKS ON THE ABSTRACT MACHINE, more of them. Conditions: none.
-/
import Derived.Test.YtceecoagooalpaaAKit
namespace Go.Proofs.Ytceecoagooalpaa
namespace AM
open Go Go.RowKit

/-- A law's end, whatever memory is left. -/
theorem gc_bool (σ : St) (base : Nat) (b : Bool) (hq : List Blk) (L : Nat) (H : List Nat) : ∃ τ, gcX σ (gc base [.bool b] ⟨hq, L, H, []⟩) = some (.bool b, τ) := by
  unfold gc
  split
  · exact ⟨_, rfl⟩
  · simp [refs, refsF, refsC]
    exact ⟨_, rfl⟩
end AM
end Go.Proofs.Ytceecoagooalpaa
