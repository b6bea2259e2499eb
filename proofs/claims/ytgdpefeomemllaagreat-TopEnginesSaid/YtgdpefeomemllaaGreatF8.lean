/- Conditions: none. -/
import Derived.Test.YtgdpefeomemllaaGreatF7
set_option linter.all false
set_option maxRecDepth 100000
namespace Go.Proofs.YtgdpefeomemllaaGreat
namespace TpL
open Go Go.RowKit AM aE
theorem ab7:pM cM (zx 20 a20 s20 r20 (zx 146 Zn Zo Zp gY)) 2000 (.func 12) a12 s12=some r12:=by kernel_rfl
theorem L12:aN (.base cM) (.func 12) a12 s12=some r12:=eW (jC L20 (jC ac1 dh)) 2000 _ _ _ _ ab7
end TpL
namespace TpL
open Go Go.RowKit AM aE
theorem ZA:pM cM (gY) 2000 (.func 169) Zq Zr=some Zs:=by kernel_rfl
theorem ac2:aN (.base cM) (.func 169) Zq Zr=some Zs:=eW (dh) 2000 _ _ _ _ ZA
theorem ZB:pM cM (gY) 2000 (.func 170) Zt Zu=some Zv:=by kernel_rfl
theorem ac3:aN (.base cM) (.func 170) Zt Zu=some Zv:=eW (dh) 2000 _ _ _ _ ZB
end TpL
end Go.Proofs.YtgdpefeomemllaaGreat
