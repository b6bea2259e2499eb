/-
  THE WAY BACK: walks of the reference's After, Back and Valid. Conditions: none.
-/
import Derived.Test.YtlphmnhkkhcjfaaNx17
set_option linter.all false
namespace Go.Proofs.Ytlphmnhkkhcjfaa
namespace ArA
open Go Go.RowKit AM ArEnv
/-- How many are less than each byte; byte y is counted below k. -/
def aL (l : List Nat) (y k : Nat) : List Value := (List.range 256).map fun j => .int .i64 ((less j l + (if y < j ∧ j < k then 1 else 0) : Nat) : Int)
/-- The rows after the rows of the column's places. -/
def aftR (x : List Nat) (n : Nat) : List Nat := (List.range n).map fun i => 1 + (less (x.getD i 0) x + same (x.getD i 0) (x.take i))
section
variable {L : Nat} {H d : List Nat}
end
end ArA
end Go.Proofs.Ytlphmnhkkhcjfaa
