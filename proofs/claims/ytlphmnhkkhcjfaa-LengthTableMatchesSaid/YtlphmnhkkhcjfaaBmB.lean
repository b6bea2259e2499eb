/-
  THE BIT WRITER's reference: Put and Pad. Conditions: none.
-/
import Derived.Test.YtlphmnhkkhcjfaaBmA
set_option linter.all false
section
namespace Go.Proofs.Ytlphmnhkkhcjfaa
namespace Bt
open Go Go.RowKit AM ArEnv
variable {hp : List Blk} {L : Nat} {H : List Nat} {a k : Nat} {l m : List Nat}

end Bt
end Go.Proofs.Ytlphmnhkkhcjfaa
end
