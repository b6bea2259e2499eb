/-
  BwtBucketRooms, run on the abstract machine. Conditions: none.
-/
import Derived.Test.YtlphmnhkkhcjfaaHbP
set_option linter.all false
namespace Go.Proofs.Ytlphmnhkkhcjfaa
namespace ArA
open Go Go.RowKit AM ArEnv
end ArA
end Go.Proofs.Ytlphmnhkkhcjfaa
