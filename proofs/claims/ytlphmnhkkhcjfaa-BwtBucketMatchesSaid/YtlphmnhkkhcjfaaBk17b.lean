/-
  THE WAY BACK: walks of the reference's Back and Valid. Conditions: none.
-/
import Derived.Test.YtlphmnhkkhcjfaaBk17
set_option linter.all false
namespace Go.Proofs.Ytlphmnhkkhcjfaa
namespace ArA
open Go Go.RowKit AM ArEnv
section
variable {L : Nat} {H d : List Nat}
/-- The bytes on the way. -/
def wayB (x : List Nat) (ix : Nat) : Nat → Nat → List Nat
  | 0, _ => []
  | n + 1, row => x.getD (atR ix row) 0 :: wayB x ix n (nxR x ix row)
end
end ArA
end Go.Proofs.Ytlphmnhkkhcjfaa
