/- Conditions: none. -/
import Derived.Test.YtgdpefeomemllaaGreatF7
set_option linter.all false
set_option maxRecDepth 100000
namespace Go.Proofs.YtgdpefeomemllaaGreat
namespace TpL
open Go Go.RowKit AM fO
theorem ahf:ur iT (Di 20 a20 s20 r20 (Di 146 aet aeu aev mT)) 2000 (.func 12) a12 s12=some r12:=by kernel_rfl
theorem L12:fS (.base iT) (.func 12) a12 s12=some r12:=kQ (ow L20 (ow aii jm)) 2000 _ _ _ _ ahf
end TpL
namespace TpL
open Go Go.RowKit AM fO
theorem aeG:ur iT (mT) 2000 (.func 169) aew aex=some aey:=by kernel_rfl
theorem aij:fS (.base iT) (.func 169) aew aex=some aey:=kQ (jm) 2000 _ _ _ _ aeG
theorem aeH:ur iT (mT) 2000 (.func 170) aez aeA=some aeB:=by kernel_rfl
theorem aik:fS (.base iT) (.func 170) aez aeA=some aeB:=kQ (jm) 2000 _ _ _ _ aeH
end TpL
end Go.Proofs.YtgdpefeomemllaaGreat
