/-
  THE BIT WRITER's laws: operations, one after the other. Conditions: none.
-/
import Derived.Test.YtlphmnhkkhcjfaaBtOf
set_option linter.all false
section
namespace Go.Proofs.Ytlphmnhkkhcjfaa
namespace Bt
open Go Go.RowKit AM ArEnv

/-- An operation: a number, its width; or the padding. -/
structure Dd where
  v : Nat
  w : Int
  pad : Bool
def drow (d : Dd) : List Value := [.int .u32 d.v, .int .i64 d.w, .bool d.pad]
theorem drow_length (d : Dd) : (drow d).length = 3 := rfl
def DOk (d : Dd) : Prop := d.v < 4294967296 ∧ -9223372036854775808 ≤ d.w ∧ d.w ≤ 9223372036854775807
def piece (l : List Nat) (d : Dd) : List Nat := if d.pad then List.replicate (padN l) 0 else if fitsV d.v d.w then bitsAt d.v d.w.toNat else []
def dnum (l : List Nat) (d : Dd) : Nat := if d.pad then padN l else 0
def dok (d : Dd) : Bool := d.pad || fitsV d.v d.w
theorem piece_bits (l : List Nat) (d : Dd) : Bits (piece l d) := by
  unfold piece
  split
  · exact Bits.zeros _
  · split
    · exact bitsAt_bits _ _
    · exact Bits.nil
theorem piece_length (l : List Nat) (d : Dd) : (piece l d).length ≤ 32 := by
  unfold piece
  split
  · simp [padN]; omega
  · split
    · next h =>
      rw [bitsAt_length]
      unfold fitsV at h
      rw [decide_eq_true_eq] at h
      omega
    · simp
/-- The bits after the operations. -/
def after (ds : List Dd) : List Nat := ds.foldl (fun l d => l ++ piece l d) []
theorem after_snoc (ds : List Dd) (d : Dd) : after (ds ++ [d]) = after ds ++ piece (after ds) d := by simp [after]
theorem after_bits (ds : List Dd) : ∀ l, Bits l → Bits (ds.foldl (fun l d => l ++ piece l d) l) := by
  induction ds with
  | nil => exact fun l h => h
  | cons d ds ih => exact fun l h => ih _ (h.append (piece_bits l d))
theorem after_length (ds : List Dd) : ∀ l : List Nat, (ds.foldl (fun l d => l ++ piece l d) l).length ≤ l.length + 32 * ds.length := by
  induction ds with
  | nil => intro l; simp
  | cons d ds ih =>
    intro l
    have := ih (l ++ piece l d)
    have := piece_length l d
    simp only [List.foldl_cons, List.length_append, List.length_cons] at *
    omega
theorem after_more (ds : List Dd) : ∀ l : List Nat, ∃ r, ds.foldl (fun l d => l ++ piece l d) l = l ++ r := by
  induction ds with
  | nil => exact fun l => ⟨[], by simp⟩
  | cons d ds ih =>
    intro l
    obtain ⟨r, hr⟩ := ih (l ++ piece l d)
    exact ⟨piece l d ++ r, by rw [List.foldl_cons, hr, List.append_assoc]⟩
def aft (ds : List Dd) (i : Nat) : List Nat := after (ds.take i)
theorem aft_bits (ds : List Dd) (i : Nat) : Bits (aft ds i) := after_bits _ [] Bits.nil
theorem aft_length (ds : List Dd) (i : Nat) : (aft ds i).length ≤ 32 * ds.length := by
  have h := after_length (ds.take i) []
  have : (ds.take i).length ≤ ds.length := by simp; omega
  simp only [List.length_nil] at h
  unfold aft after
  omega
theorem aft_zero (ds : List Dd) : aft ds 0 = [] := rfl
theorem aft_succ (ds : List Dd) {i : Nat} (hi : i < ds.length) : aft ds (i + 1) = aft ds i ++ piece (aft ds i) ds[i] := by
  unfold aft
  rw [List.take_succ, List.getElem?_eq_getElem hi, Option.toList_some, after_snoc]
theorem aft_all (ds : List Dd) : aft ds ds.length = after ds := by unfold aft; rw [List.take_length]
theorem aft_rest (ds : List Dd) (i : Nat) : ∃ r, after ds = aft ds i ++ r := by
  have h := after_more (ds.drop i) (aft ds i)
  have e : after ds = (ds.drop i).foldl (fun l d => l ++ piece l d) (aft ds i) := by
    conv => lhs; rw [← List.take_append_drop i ds]
    unfold aft after
    rw [List.foldl_append]
  rw [e]; exact h

section
variable {hp : List Blk} {L : Nat} {H : List Nat} {a k : Nat} {l : List Nat}
theorem wset_self (w : Ws hp L H a k l) : wset hp a k l = hp := by
  by_cases h0 : l.length = 0
  · rw [wset_nil h0]
  · rw [wset_old h0 (w.klt h0), set_same w.w, set_same (w.b h0)]
theorem dirt_self (a : Nat) (l : List Nat) : dirt a l l = [] := if_pos rfl
end
end Bt
end Go.Proofs.Ytlphmnhkkhcjfaa
end
