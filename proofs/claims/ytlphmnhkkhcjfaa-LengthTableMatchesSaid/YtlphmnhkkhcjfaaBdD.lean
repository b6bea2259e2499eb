/-
  THE BIT WRITER's laws: what was written is read back. Conditions: none.
-/
import Derived.Test.YtlphmnhkkhcjfaaBdC
set_option linter.all false
section
namespace Go.Proofs.Ytlphmnhkkhcjfaa
namespace Bt
open Go Go.RowKit AM ArEnv

def want (d : Dd) : Nat := if d.pad then 0 else d.v
section
variable {hq : List Blk} {L : Nat} {H : List Nat} {a k s : Nat}
end
/-! ### The operations as an argument -/
section
variable {P : Program} {W : World} {H : Type} {enc : TypeId × Value → H}
end
end Bt
end Go.Proofs.Ytlphmnhkkhcjfaa
end
