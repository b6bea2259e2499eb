/-
  LENGTH TABLES: the law of the ways. Conditions: none.
-/
import Derived.Test.YtlphmnhkkhcjfaaLtW
set_option linter.all false
section
namespace Go.Proofs.Ytlphmnhkkhcjfaa
namespace LtA
open Go Go.RowKit AM ArEnv Bt
variable {hp : List Blk} {L : Nat} {H d : List Nat}

/-- The bits of a first length, and adjustments in one direction. -/
def wB (f way i : Nat) : List Nat := f4 f 4 ++ rep way i
def gg (i : Nat) : Nat := if i = 0 then 0 else 4 + 2 * i
/-! ### What Read gives -/
def wEnd (f way i : Nat) : Ts := ⟨zs, 0, 4, if way = 0 then (f : Int) + i else (f : Int) - i, if i = 0 then 0 else if way = 0 then 1 else 2⟩
end LtA
end Go.Proofs.Ytlphmnhkkhcjfaa
end
