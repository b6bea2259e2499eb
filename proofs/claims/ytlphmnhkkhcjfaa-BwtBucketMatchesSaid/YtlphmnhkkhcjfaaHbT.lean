/-
  BwtBucketPlaced: the loop that takes the spans, on the abstract machine. Conditions: none.
  BwtBucketPlaced, run on the abstract machine. Conditions: none.
-/
import Derived.Test.YtlphmnhkkhcjfaaHbR
set_option linter.all false
section
set_option linter.all false
namespace Go.Proofs.Ytlphmnhkkhcjfaa
namespace ArA
open Go Go.RowKit AM ArEnv
def zs6 (T : Nat) : Arn := Arn.laid 600 (List.replicate T 0)
end ArA
end Go.Proofs.Ytlphmnhkkhcjfaa
end
section
set_option linter.all false
namespace Go.Proofs.Ytlphmnhkkhcjfaa
namespace ArA
open Go Go.RowKit AM ArEnv
end ArA
end Go.Proofs.Ytlphmnhkkhcjfaa
end
