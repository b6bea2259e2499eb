/-
  RANKS: the laws run on the abstract machine: counts and sums. Conditions: none.
-/
import Derived.Test.YtlbdgbfblgjjgaaRkL
set_option linter.all false
namespace Go.Proofs.Ytlbdgbfblgjjgaa
namespace ArA
open Go Go.RowKit AM ArEnv

/-- After Make, a rank is what it says. -/
theorem rank_is {A B : Arn} {t z : Nat} {x : List Nat} {kk c p : Nat} (hM : Marked A B t x kk (256 * (x.length / kk))) (hz : (t : Int) + z ≤ A.live) (hfit : 4 * (256 * (x.length / kk)) ≤ z) (hs : z ≤ 1048576) (hk : 1 ≤ kk) (hx : x.length ≤ 65536) (hc : c < 256) (hp : p ≤ x.length) :
    base B t z kk c p + tail x kk c p = (x.take p).count c := by
  have hdl : p / kk * kk ≤ p := Nat.div_mul_le_self p kk
  have hsp : x.take p = x.take (p / kk * kk) ++ (x.drop (p / kk * kk)).take (p - p / kk * kk) := by
    have := List.take_append_drop (p / kk * kk) (x.take p)
    rw [List.take_take, Nat.min_eq_left hdl, List.drop_take] at this
    exact this.symm
  rw [hsp, List.count_append]
  unfold tail
  congr 1
  unfold base
  have hle : p / kk ≤ x.length / kk := Nat.div_le_div_right hp
  clear hsp hdl
  generalize p / kk = y at *
  by_cases h0 : 0 < y
  · rw [if_pos h0]
    have hwl : (y - 1) * 256 + c < 256 * (x.length / kk) := by
      clear hfit hM
      generalize x.length / kk = X at *
      omega
    have hw := hM.wordV (w := (y - 1) * 256 + c) hz hfit hs hwl hx
    rw [show ((y : Int) * 256 - 256 + (c : Int)) = (((y - 1) * 256 + c : Nat) : Int) by omega, hw]
    unfold wval
    rw [show ((y - 1) * 256 + c) / 256 = y - 1 by omega, show ((y - 1) * 256 + c) % 256 = c by omega, show y - 1 + 1 = y by omega]
  · rw [if_neg h0, show y = 0 by omega, Nat.zero_mul, List.take_zero]
    rfl
theorem Rd_put_hide {hp nw : List Blk} {L L' r q lo n : Nat} {d d' : List Nat} {v : Value} {l : List Nat} {A : Arn} (k : Rd ⟨hp, L, [], d⟩ v l) (hr : hp.length ≤ r) (hq : hp.length ≤ q) (hlo : hp.length ≤ lo) : Rd ⟨put (hp ++ nw) r q A, L', List.range' lo n, d'⟩ v l :=
  k.more fun b x hx hh => by
    have hb := (List.getElem?_eq_some_iff.1 hx).1
    simp only at hb hx hh
    refine ⟨by simp only; rw [put_o (by omega) (by omega), get_left hb]; exact hx, ?_⟩
    simp only []
    cases hc : (List.range' lo n).contains b with
    | false => rfl
    | true =>
      rw [List.contains_iff_mem, List.mem_range'_1] at hc
      omega
theorem csm_cons (a : Nat) (x : List Nat) : ∀ n, csm (a :: x) n = csm x n + if a < n then 1 else 0
  | 0 => by simp [csm]
  | n + 1 => by
    have ih := csm_cons a x n
    simp only [csm]
    rw [ih, List.count_cons]
    by_cases h1 : a < n
    · have h2 : ¬ a = n := by omega
      simp [h1, h2, show a < n + 1 by omega]; omega
    · by_cases h2 : a = n
      · subst h2; simp; omega
      · simp [h1, h2, show ¬ a < n + 1 by omega]
theorem csm_all : ∀ {x : List Nat}, By x → csm x 256 = x.length
  | [], _ => by
    have : ∀ n, csm [] n = 0 := fun n => by
      induction n with
      | zero => rfl
      | succ n ih => simp only [csm, ih, List.count_nil]
    rw [this]; rfl
  | a :: x, h => by
    rw [csm_cons, csm_all h.tail, if_pos h.head]; rfl
end ArA
end Go.Proofs.Ytlbdgbfblgjjgaa
