/-
  THE WAY BACK: walk of the reference's Next. Conditions: none.
-/
import Derived.Test.YtlphmnhkkhcjfaaWkPlain
import Derived.Test.YtlphmnhkkhcjfaaSufTurn
set_option linter.all false
namespace Go.Proofs.Ytlphmnhkkhcjfaa
namespace ArA
open Go Go.RowKit AM ArEnv
section
variable {L : Nat} {H d : List Nat}
end
end ArA
end Go.Proofs.Ytlphmnhkkhcjfaa
