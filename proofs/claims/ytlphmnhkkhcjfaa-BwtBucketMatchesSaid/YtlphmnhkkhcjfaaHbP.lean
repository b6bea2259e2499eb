/-
  THE WAY BACK from a right column: the reference's Back. Conditions: none.
-/
import Derived.Test.YtlphmnhkkhcjfaaBk17b
import Derived.Test.YtlphmnhkkhcjfaaHbO
set_option linter.all false
namespace Go.Proofs.Ytlphmnhkkhcjfaa
namespace ArA
open Go Go.RowKit AM ArEnv
section
variable {L : Nat} {H d : List Nat}
end
end ArA
end Go.Proofs.Ytlphmnhkkhcjfaa
