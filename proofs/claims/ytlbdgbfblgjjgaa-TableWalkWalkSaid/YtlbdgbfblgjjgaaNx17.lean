/-
  THE WAY BACK: walk of the reference's Next. Conditions: none.
-/
import Derived.Test.YtlbdgbfblgjjgaaWkPlain
import Derived.Test.YtlbdgbfblgjjgaaSufTurn
set_option linter.all false
namespace Go.Proofs.Ytlbdgbfblgjjgaa
namespace ArA
open Go Go.RowKit AM ArEnv
section
variable {L : Nat} {H d : List Nat}
end
end ArA
end Go.Proofs.Ytlbdgbfblgjjgaa
