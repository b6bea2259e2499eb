/-
  RANKS: walks of the functions on the abstract machine, second part: Rank and Less. Conditions: none.
-/
import Derived.Test.YtlphmnhkkhcjfaaRkA
set_option linter.all false
namespace Go.Proofs.Ytlphmnhkkhcjfaa
namespace ArA
open Go Go.RowKit AM ArEnv

/-- The arena holds the bytes x from s on, and they live. -/
structure Holds (A : Arn) (s : Nat) (x : List Nat) : Prop where
  live : (s : Int) + x.length ≤ A.live
  get : ∀ (i : Nat) (h : i < x.length), A.bs[s + i]? = some x[i]
theorem Holds.has {A : Arn} {s : Nat} {x : List Nat} (h : Holds A s x) : A.has s x.length = true := by
  have := h.live
  rw [Arn.has_iff]; omega
theorem Holds.part {A : Arn} {s : Nat} {x : List Nat} (h : Holds A s x) {i : Nat} (hi : i < x.length) : A.part s x.length i 1 = true := by
  have := h.live
  rw [Arn.part_iff]; omega
theorem Holds.byte {A : Arn} {s : Nat} {x : List Nat} (h : Holds A s x) {i : Nat} (hi : i < x.length) : A.byteV s x.length i = x[i] := by
  unfold Arn.byteV Arn.slot
  rw [if_pos (h.part hi), show ((s : Int) + (i : Int)).toNat = s + i by omega, List.getD_eq_getElem?_getD, h.get i hi]
  rfl
def base (A : Arn) (t z : Int) (k c p : Nat) : Nat := if 0 < p / k then A.wordV t z (((p / k : Nat) : Int) * 256 - 256 + c) else 0
def tail (x : List Nat) (k c p : Nat) : Nat := ((x.drop (p / k * k)).take (p - p / k * k)).count c
section
variable {hp : List Blk} {L : Nat} {H d : List Nat} {r q : Nat} {A : Arn}
end
end ArA
end Go.Proofs.Ytlphmnhkkhcjfaa
