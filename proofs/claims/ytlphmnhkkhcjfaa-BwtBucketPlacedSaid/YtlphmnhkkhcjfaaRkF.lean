/-
  RANKS: Make, and the chapter's examples, on the abstract machine. Conditions: none.
-/
import Derived.Test.YtlphmnhkkhcjfaaRkE
set_option linter.all false
namespace Go.Proofs.Ytlphmnhkkhcjfaa
namespace ArA
open Go Go.RowKit AM ArEnv

theorem rValid_live {A B : Arn} (h : B.live = A.live) (s m t z k : Int) : rValid B s m t z k = rValid A s m t z k := by
  unfold rValid; rw [has_live h, has_live h]
theorem rl_live (l : List Nat) (sz : Nat) : (rl l sz).live = ((l.length + sz + 1 : Nat) : Int) := by
  simp [rl, Arn.laid]; omega
theorem rl_len (l : List Nat) (sz : Nat) : (rl l sz).bs.length = l.length + sz + 1 := laid_len (by simp; omega)
theorem rl_holds (l : List Nat) (sz : Nat) : Holds (rl l sz) 0 l := ⟨by rw [rl_live]; omega, fun i hi => by
  unfold rl Arn.laid
  simp only [Nat.zero_add]
  rw [List.append_assoc, List.getElem?_append_left hi, List.getElem?_eq_getElem hi]⟩
theorem rl_by {l : List Nat} (h : By l) (sz : Nat) : By (rl l sz).bs := by
  unfold rl Arn.laid
  exact (h.append fun x hx => by rw [List.mem_replicate] at hx; omega).append fun x hx => by rw [List.mem_replicate] at hx; omega
theorem rl_valid {l : List Nat} {sz : Nat} {kk : Int} (h1 : 1 ≤ l.length) (h2 : l.length ≤ 65536) (h3 : 1 ≤ kk ∧ kk ≤ 65536) (hs : rSize l.length kk = sz) : rValid (rl l sz) (0 : Nat) l.length l.length sz kk = true := by
  have a1 : (rl l sz).has (0 : Nat) l.length = true := by rw [Arn.has_iff, rl_live]; omega
  have a2 : (rl l sz).has l.length sz = true := by rw [Arn.has_iff, rl_live]; omega
  unfold rValid rApart
  rw [a1, a2, hs]
  simp
  omega
theorem rl_has9 {l : List Nat} {sz e : Nat} : (rl l (sz + e)).has (0 : Nat) l.length = true ∧ (rl l (sz + e)).has l.length sz = true := by
  constructor <;> (rw [Arn.has_iff, rl_live]; omega)
theorem rl_ok {n r q : Nat} {H : List Nat} {l : List Nat} {sz : Nat} (hr : r < n) (hq : q < n) (hne : r ≠ q) (h1 : H.contains r = false) (h2 : H.contains q = false) (hl : By l) (hs : l.length + sz + 1 ≤ 1048576) : ArOk n r q H (rl l sz) :=
  ArOk.laid hr hq hne (hl.append fun x hx => by rw [List.mem_replicate] at hx; omega) (by simp; omega) (by omega) h1 h2
section
variable {hp : List Blk} {L : Nat} {H d : List Nat} {r q : Nat} {A : Arn}
theorem rValid_parts {s m t z k : Int} (h : rValid A s m t z k = true) : A.has s m = true ∧ A.has t z = true ∧ (1 ≤ m ∧ m ≤ 65536) ∧ (1 ≤ k ∧ k ≤ 65536) ∧ (m = 0 ∨ z = 0 ∨ s + m ≤ t ∨ t + z ≤ s) ∧ rSize m k ≤ z := by
  unfold rValid rApart at h
  simp only [Bool.and_eq_true, decide_eq_true_eq] at h
  exact ⟨h.1.1.1.1.1, h.1.1.1.1.2, h.1.1.1.2, h.1.1.2, h.1.2, h.2⟩
theorem rSize_nat {m k : Nat} (h1 : 1 ≤ m ∧ m ≤ 65536) (h2 : 1 ≤ k ∧ k ≤ 65536) : rSize m k = ((4 * (256 * (m / k)) : Nat) : Int) := by
  unfold rSize
  rw [if_pos (by omega), Int.tdiv_eq_ediv_of_nonneg (by omega)]
  have : ((m / k : Nat) : Int) = (m : Int) / (k : Int) := rfl
  rw [← this]
  generalize m / k = y
  omega
end
theorem Holds.load {A : Arn} {s : Nat} {x : List Nat} (h : Holds A s x) : A.loadO s x.length = some x := by
  unfold Arn.loadO
  rw [if_pos h.has]
  congr 1
  simp only [Int.toNat_natCast]
  apply List.ext_getElem?
  intro i
  by_cases hi : i < x.length
  · rw [List.getElem?_take_of_lt hi, List.getElem?_drop, h.get i hi, List.getElem?_eq_getElem hi]
  · rw [List.getElem?_eq_none (by simp; omega), List.getElem?_eq_none (by omega)]
theorem gc_bool_new {h nw : List Blk} {L r q : Nat} {H : List Nat} {b : Bool} {A : Arn} (hr : h.length ≤ r) (hq : h.length ≤ q) (hn : 0 < nw.length) : gc h.length [.bool b] ⟨put (h ++ nw) r q A, L, H, []⟩ = some ([.bool b], ⟨h, L, H, []⟩) := by
  have htake : (put (h ++ nw) r q A).take h.length = h := by
    apply List.ext_getElem?
    intro i
    rw [List.getElem?_take]
    split
    · rename_i hi
      rw [put_o (by omega) (by omega), List.getElem?_append_left hi]
    · rename_i hi
      rw [List.getElem?_eq_none (by omega)]
  unfold gc
  rw [if_neg (by show ¬ (put (h ++ nw) r q A).length ≤ h.length; rw [put_length, List.length_append]; omega)]
  simp only [htake]
  rfl
/-! ### The examples -/
def ann : List Nat := [97, 110, 110, 98, 97, 97]
end ArA
end Go.Proofs.Ytlphmnhkkhcjfaa
