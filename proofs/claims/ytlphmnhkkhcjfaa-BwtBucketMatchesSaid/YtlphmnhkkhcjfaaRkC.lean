/-
  RANKS: walks of the functions on the abstract machine, third part: Less, and a text laid into an arena. Conditions: none.
-/
import Derived.Test.YtlphmnhkkhcjfaaRkB
set_option linter.all false
namespace Go.Proofs.Ytlphmnhkkhcjfaa
namespace ArA
open Go Go.RowKit AM ArEnv

def c256 (l : List Nat) : List Value := (List.range 256).map fun j => .int .i64 (l.count j : Nat)
def csm (l : List Nat) : Nat → Nat
  | 0 => 0
  | n + 1 => csm l n + l.count n
def lP (l : List Nat) (n : Nat) : List Value := (List.range 256).map fun j => .int .i64 ((if j < n then csm l j else 0 : Nat) : Int)
section
variable {hp : List Blk} {L : Nat} {H d : List Nat} {r q : Nat} {A : Arn}
end
end ArA
end Go.Proofs.Ytlphmnhkkhcjfaa
