/-
  THE BIT WRITER's laws: the loop that carries out the operations. Conditions: none.
-/
import Derived.Test.YtlphmnhkkhcjfaaBdB
set_option linter.all false
section
namespace Go.Proofs.Ytlphmnhkkhcjfaa
namespace Bt
open Go Go.RowKit AM ArEnv

/-- Where each operation's bits begin. -/
def froms (ds : List Dd) (i : Nat) : List Nat := (List.range i).map fun j => (aft ds j).length
def frst (q : List Blk) (a : Nat) (ds : List Dd) (i : Nat) : List Blk := if i = 0 then q else wset (q ++ [.cells i true (is (froms ds i))]) a (q.length + 1) (aft ds i)
section
variable {q P P2 P3 P4 : List Blk} {L : Nat} {H : List Nat} {a : Nat}
end
end Bt
end Go.Proofs.Ytlphmnhkkhcjfaa
end
