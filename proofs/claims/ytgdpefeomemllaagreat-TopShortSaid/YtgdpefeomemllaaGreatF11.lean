/- Conditions: none. -/
import Derived.Test.YtgdpefeomemllaaGreatF10
set_option linter.all false
set_option maxRecDepth 100000
namespace Go.Proofs.YtgdpefeomemllaaGreat
namespace TxK
open Go Go.RowKit AM fO TwY TpL
theorem nX:iS Tryz.prog DW:=
 iS.cons Tryz.func10 (of_decide_eq_true (by kernel_rfl)) (by kernel_rfl) Y3 <|
 iS.acm Tryz.func5 (of_decide_eq_true (by kernel_rfl)) aef fO.nX
theorem mixed:Tryz.prog.follows .mixedOrders=true:=fO.mixed
end TxK
end Go.Proofs.YtgdpefeomemllaaGreat
