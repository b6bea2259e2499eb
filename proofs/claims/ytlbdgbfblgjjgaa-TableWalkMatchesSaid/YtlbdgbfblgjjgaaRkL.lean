/-
  RANKS: the laws run on the abstract machine: sizes. Conditions: none.
-/
import Derived.Test.YtlbdgbfblgjjgaaRkF
set_option linter.all false
namespace Go.Proofs.Ytlbdgbfblgjjgaa
namespace ArA
open Go Go.RowKit AM ArEnv

theorem zby (n : Nat) : By (List.replicate n 0) := fun x hx => by rw [List.mem_replicate] at hx; omega
end ArA
end Go.Proofs.Ytlbdgbfblgjjgaa
