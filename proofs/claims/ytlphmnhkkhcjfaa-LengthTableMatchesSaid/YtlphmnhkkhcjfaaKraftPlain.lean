/-
  KRAFT SUMS, THE PLAIN PART: what the functions compute, as functions on lists of numbers. Conditions: none.
-/
import Derived.Laws.BitsAllLaws
namespace Go.Proofs.Ytlphmnhkkhcjfaa
open Go

def kShare (n : Nat) : Nat := if n = 0 then 0 else if 15 < n then 32769 else 32768 / 2 ^ n
def kSum (l : List Nat) : Nat := (l.map kShare).sum
def kFits (l : List Nat) : Bool := decide (kSum l ≤ 32768)
def kComplete (l : List Nat) : Bool := kSum l == 32768
def kTable (l : List Nat) : Bool := kComplete l && decide (0 < l.getD 257 0)
def kCounts (l : List Nat) : List Nat := (List.range 16).map fun n => l.count n
def hValid (t : List Int) : Bool := t.all fun n => decide (0 ≤ n) && decide (n ≤ 2147483647)
def kDot : List Int → List Nat → Int
  | n :: t, b :: l => n * (b : Int) + kDot t l
  | _, _ => 0
def kCost (t : List Int) (l : List Nat) : Int := if hValid t then kDot t l else 0

theorem kShare_le (n : Nat) : kShare n ≤ 32769 := by
  unfold kShare
  split
  · omega
  · split
    · omega
    · have := Nat.div_le_self 32768 (2 ^ n); omega
theorem kSum_le (l : List Nat) : kSum l ≤ 32769 * l.length := by
  induction l with
  | nil => simp [kSum]
  | cons a l ih =>
    have := kShare_le a
    simp only [kSum, List.map_cons, List.sum_cons, List.length_cons] at *
    omega
theorem kSum_append (l m : List Nat) : kSum (l ++ m) = kSum l + kSum m := by simp [kSum]
theorem kSum_one (a : Nat) : kSum [a] = kShare a := by simp [kSum]
theorem kSum_take {l : List Nat} {k : Nat} (h : k < l.length) : kSum (l.take (k + 1)) = kSum (l.take k) + kShare l[k] := by
  rw [List.take_succ_eq_append_getElem h, kSum_append, kSum_one]


def i64s (l : List Int) : List Value := l.map fun b => Value.int .i64 b
def kCountsV (l : List Nat) : Array Value := ((List.range 16).map fun n => Value.int .i64 (l.count n : Nat)).toArray
end Go.Proofs.Ytlphmnhkkhcjfaa
