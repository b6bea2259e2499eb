/-
  WALKS WITH RANKS: Next, Valid, Reset, Steps, Told on the abstract machine. Conditions: none.
-/
import Derived.Test.YtlbdgbfblgjjgaaRwC
set_option linter.all false
namespace Go.Proofs.Ytlbdgbfblgjjgaa
namespace ArA
open Go Go.RowKit AM ArEnv
abbrev wkP (w : Nat) : Value := .pointer (some ⟨w, 0, some 0⟩)
section
variable {hp : List Blk} {L : Nat} {H d : List Nat} {r q w : Nat} {A : Arn} {s t z kk ix : Nat} {x : List Nat} {row told steps : Nat}
end
end ArA
end Go.Proofs.Ytlbdgbfblgjjgaa
