/-
  THE TRANSFORM IN PLACE: walks of the law's helpers on the abstract machine. Conditions: none.
-/
import Derived.Test.YtlbdgbfblgjjgaaBwB
import Derived.Test.YtlbdgbfblgjjgaaArGc
set_option linter.all false
namespace Go.Proofs.Ytlbdgbfblgjjgaa
namespace ArA
open Go Go.RowKit AM ArEnv
theorem rep6 : List.replicate 6 (Value.int .i64 0) = [.int .i64 0, .int .i64 0, .int .i64 0, .int .i64 0, .int .i64 0, .int .i64 0] := rfl
theorem laid_one (l : List Nat) : Arn.laid (l.length + 1) l = ⟨[] ++ (l ++ [0]), l.length, l.length⟩ := by
  simp [Arn.laid]
theorem laid_one' {l m : List Nat} (h : m.length = l.length) : Arn.laid (l.length + 1) m = ⟨[] ++ (m ++ [0]), l.length, l.length⟩ := by
  simp [Arn.laid, h]
theorem put_flat (hp nw : List Blk) (A : Arn) : put (hp ++ (default :: default :: nw)) hp.length (hp.length + 1) A = hp ++ (arB (hp.length + 1) A :: byB A :: nw) := by
  have := put_app (hp := hp ++ [default, default]) (nw := nw) (r := hp.length) (q := hp.length + 1) (A := A) (by simp) (by simp)
  rw [← put_new] at this
  simpa using this.symm
end ArA
end Go.Proofs.Ytlbdgbfblgjjgaa
