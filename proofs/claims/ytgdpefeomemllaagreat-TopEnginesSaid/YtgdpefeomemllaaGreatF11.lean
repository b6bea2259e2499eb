/- Conditions: none. -/
import Derived.Test.YtgdpefeomemllaaGreatF10
set_option linter.all false
set_option maxRecDepth 100000
namespace Go.Proofs.YtgdpefeomemllaaGreat
namespace UeK
open Go Go.RowKit AM aE UeF TpL
theorem jh:aJ Tryz.prog Hf:=
 aJ.cons Tryz.func10 (of_decide_eq_true (by kernel_rfl)) (by kernel_rfl) TZ <|
 aJ.Xi Tryz.func4 (of_decide_eq_true (by kernel_rfl)) Zd aE.jh
theorem mixed:Tryz.prog.follows .mixedOrders=true:=aE.mixed
end UeK
end Go.Proofs.YtgdpefeomemllaaGreat
