/-
  WALKS OVER A COLUMN: plain law. Conditions: none.
-/
import Derived.Test.YtlphmnhkkhcjfaaSufWalk
import Derived.Test.YtlphmnhkkhcjfaaRkF
set_option linter.all false
namespace Go.Proofs.Ytlphmnhkkhcjfaa
namespace AM
open Go Go.RowKit ArA
/-- The place of a row's byte. -/
def atR (ix r : Nat) : Nat := if r ≤ ix then r else r - 1
/-- The row after a row. -/
def nxR (x : List Nat) (ix r : Nat) : Nat := 1 + (less (x.getD (atR ix r) 0) x + same (x.getD (atR ix r) 0) (x.take (atR ix r)))
def rowK (x : List Nat) (ix : Nat) : Nat → Nat
  | 0 => 0
  | k + 1 => nxR x ix (rowK x ix k)
/-- A whole walk, and what it costs (f: the cost of a step). -/
def vw (f : Nat → Nat) (x : List Nat) (ix : Nat) : Nat → Nat → Nat → Option Nat × Nat
  | 0, r, st => (some r, st)
  | n + 1, r, st => if r = ix then (none, st) else vw f x ix n (nxR x ix r) (st + 1 + f (atR ix r))
end AM
end Go.Proofs.Ytlphmnhkkhcjfaa
