/-
  THE BIT WRITER's laws: operations, one after the other. Conditions: none.
-/
import Derived.Test.YtlphmnhkkhcjfaaBtOf
set_option linter.all false
section
namespace Go.Proofs.Ytlphmnhkkhcjfaa
namespace Bt
open Go Go.RowKit AM ArEnv

/-- An operation: a number, its width; or the padding. -/
structure Dd where
  v : Nat
  w : Int
  pad : Bool
def drow (d : Dd) : List Value := [.int .u32 d.v, .int .i64 d.w, .bool d.pad]
theorem drow_length (d : Dd) : (drow d).length = 3 := rfl
def DOk (d : Dd) : Prop := d.v < 4294967296 ∧ -9223372036854775808 ≤ d.w ∧ d.w ≤ 9223372036854775807
def piece (l : List Nat) (d : Dd) : List Nat := if d.pad then List.replicate (padN l) 0 else if fitsV d.v d.w then bitsAt d.v d.w.toNat else []
def dnum (l : List Nat) (d : Dd) : Nat := if d.pad then padN l else 0
def dok (d : Dd) : Bool := d.pad || fitsV d.v d.w
/-- The bits after the operations. -/
def after (ds : List Dd) : List Nat := ds.foldl (fun l d => l ++ piece l d) []
def aft (ds : List Dd) (i : Nat) : List Nat := after (ds.take i)
section
variable {hp : List Blk} {L : Nat} {H : List Nat} {a k : Nat} {l : List Nat}
theorem wset_self (w : Ws hp L H a k l) : wset hp a k l = hp := by
  by_cases h0 : l.length = 0
  · rw [wset_nil h0]
  · rw [wset_old h0 (w.klt h0), set_same w.w, set_same (w.b h0)]
theorem dirt_self (a : Nat) (l : List Nat) : dirt a l l = [] := if_pos rfl
end
end Bt
end Go.Proofs.Ytlphmnhkkhcjfaa
end
