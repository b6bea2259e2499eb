/-
  LENGTH TABLES: the law of what was written. Conditions: none.
-/
import Derived.Test.YtlphmnhkkhcjfaaLtY
set_option linter.all false
section
namespace Go.Proofs.Ytlphmnhkkhcjfaa
namespace LtA
open Go Go.RowKit AM ArEnv Bt
variable {hp : List Blk} {L : Nat} {H d : List Nat}

end LtA
end Go.Proofs.Ytlphmnhkkhcjfaa
end
