/-
  RANKS: Make, and the chapter's examples, on the abstract machine. Conditions: none.
-/
import Derived.Test.YtlphmnhkkhcjfaaRkE
set_option linter.all false
namespace Go.Proofs.Ytlphmnhkkhcjfaa
namespace ArA
open Go Go.RowKit AM ArEnv

theorem rl_live (l : List Nat) (sz : Nat) : (rl l sz).live = ((l.length + sz + 1 : Nat) : Int) := by
  simp [rl, Arn.laid]; omega
theorem rl_holds (l : List Nat) (sz : Nat) : Holds (rl l sz) 0 l := ⟨by rw [rl_live]; omega, fun i hi => by
  unfold rl Arn.laid
  simp only [Nat.zero_add]
  rw [List.append_assoc, List.getElem?_append_left hi, List.getElem?_eq_getElem hi]⟩
theorem rl_ok {n r q : Nat} {H : List Nat} {l : List Nat} {sz : Nat} (hr : r < n) (hq : q < n) (hne : r ≠ q) (h1 : H.contains r = false) (h2 : H.contains q = false) (hl : By l) (hs : l.length + sz + 1 ≤ 1048576) : ArOk n r q H (rl l sz) :=
  ArOk.laid hr hq hne (hl.append fun x hx => by rw [List.mem_replicate] at hx; omega) (by simp; omega) (by omega) h1 h2
section
variable {hp : List Blk} {L : Nat} {H d : List Nat} {r q : Nat} {A : Arn}
end
theorem Holds.load {A : Arn} {s : Nat} {x : List Nat} (h : Holds A s x) : A.loadO s x.length = some x := by
  unfold Arn.loadO
  rw [if_pos h.has]
  congr 1
  simp only [Int.toNat_natCast]
  apply List.ext_getElem?
  intro i
  by_cases hi : i < x.length
  · rw [List.getElem?_take_of_lt hi, List.getElem?_drop, h.get i hi, List.getElem?_eq_getElem hi]
  · rw [List.getElem?_eq_none (by simp; omega), List.getElem?_eq_none (by omega)]
theorem gc_bool_new {h nw : List Blk} {L r q : Nat} {H : List Nat} {b : Bool} {A : Arn} (hr : h.length ≤ r) (hq : h.length ≤ q) (hn : 0 < nw.length) : gc h.length [.bool b] ⟨put (h ++ nw) r q A, L, H, []⟩ = some ([.bool b], ⟨h, L, H, []⟩) := by
  have htake : (put (h ++ nw) r q A).take h.length = h := by
    apply List.ext_getElem?
    intro i
    rw [List.getElem?_take]
    split
    · rename_i hi
      rw [put_o (by omega) (by omega), List.getElem?_append_left hi]
    · rename_i hi
      rw [List.getElem?_eq_none (by omega)]
  unfold gc
  rw [if_neg (by show ¬ (put (h ++ nw) r q A).length ≤ h.length; rw [put_length, List.length_append]; omega)]
  simp only [htake]
  rfl
/-! ### The examples -/
def ann : List Nat := [97, 110, 110, 98, 97, 97]
end ArA
end Go.Proofs.Ytlphmnhkkhcjfaa
