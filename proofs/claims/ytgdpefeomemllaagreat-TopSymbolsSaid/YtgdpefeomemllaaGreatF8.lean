/- Conditions: none. -/
import Derived.Test.YtgdpefeomemllaaGreatF7
set_option linter.all false
set_option maxRecDepth 100000
namespace Go.Proofs.YtgdpefeomemllaaGreat
namespace TpL
open Go Go.RowKit AM af
theorem acV:qG dh (z9 20 a20 s20 r20 (z9 146 aan aao aap iP)) 2000 (.func 12) a12 s12=some r12:=by kernel_rfl
theorem L12:aN (.base dh) (.func 12) a12 s12=some r12:=fT (kT L20 (kT adN dK)) 2000 _ _ _ _ acV
end TpL
namespace TpL
open Go Go.RowKit AM af
theorem aaA:qG dh (iP) 2000 (.func 169) aaq aar=some aas:=by kernel_rfl
theorem adO:aN (.base dh) (.func 169) aaq aar=some aas:=fT (dK) 2000 _ _ _ _ aaA
theorem aaB:qG dh (iP) 2000 (.func 170) aat aau=some aav:=by kernel_rfl
theorem adP:aN (.base dh) (.func 170) aat aau=some aav:=fT (dK) 2000 _ _ _ _ aaB
end TpL
end Go.Proofs.YtgdpefeomemllaaGreat
