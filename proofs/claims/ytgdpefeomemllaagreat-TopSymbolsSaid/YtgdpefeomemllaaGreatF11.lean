/- Conditions: none. -/
import Derived.Test.YtgdpefeomemllaaGreatF10
set_option linter.all false
set_option maxRecDepth 100000
namespace Go.Proofs.YtgdpefeomemllaaGreat
namespace TuK
open Go Go.RowKit AM af TuH TpL
theorem jq:aO Tryz.prog jF:=
 aO.cons Tryz.func10 (of_decide_eq_true (by kernel_rfl)) (by kernel_rfl) UQ <|
 aO.YH Tryz.func6 (of_decide_eq_true (by kernel_rfl)) aaa af.jq
theorem mixed:Tryz.prog.follows .mixedOrders=true:=af.mixed
end TuK
end Go.Proofs.YtgdpefeomemllaaGreat
