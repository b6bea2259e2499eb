/-
  WALKS WITH RANKS: New, Next, Valid, Reset, Steps, Told on the abstract machine, second part. Conditions: none.
-/
import Derived.Test.YtlbdgbfblgjjgaaRwB
set_option linter.all false
namespace Go.Proofs.Ytlbdgbfblgjjgaa
namespace ArA
open Go Go.RowKit AM ArEnv
set_option maxRecDepth 20000 in
theorem wk_zero {r s m t z ix kk : Nat} {x : List Nat} : wkC r s m t z ix kk x 0 0 0 0 = [arP r, .int .i64 s, .int .i64 m, .int .i64 t, .int .i64 z, .int .i64 ix, .int .i64 kk, .int .i64 0, .int .i64 0, .int .i64 0, .int .i64 0, .int .i64 0, .int .i64 0, .int .i64 0, .int .i64 0, .int .i64 0, .int .i64 0, .int .i64 0, .int .i64 0, .int .i64 0, .int .i64 0, .int .i64 0, .int .i64 0, .int .i64 0, .int .i64 0, .int .i64 0, .int .i64 0, .int .i64 0, .int .i64 0, .int .i64 0, .int .i64 0, .int .i64 0, .int .i64 0, .int .i64 0, .int .i64 0, .int .i64 0, .int .i64 0, .int .i64 0, .int .i64 0, .int .i64 0, .int .i64 0, .int .i64 0, .int .i64 0, .int .i64 0, .int .i64 0, .int .i64 0, .int .i64 0, .int .i64 0, .int .i64 0, .int .i64 0, .int .i64 0, .int .i64 0, .int .i64 0, .int .i64 0, .int .i64 0, .int .i64 0, .int .i64 0, .int .i64 0, .int .i64 0, .int .i64 0, .int .i64 0, .int .i64 0, .int .i64 0, .int .i64 0, .int .i64 0, .int .i64 0, .int .i64 0, .int .i64 0, .int .i64 0, .int .i64 0, .int .i64 0, .int .i64 0, .int .i64 0, .int .i64 0, .int .i64 0, .int .i64 0, .int .i64 0, .int .i64 0, .int .i64 0, .int .i64 0, .int .i64 0, .int .i64 0, .int .i64 0, .int .i64 0, .int .i64 0, .int .i64 0, .int .i64 0, .int .i64 0, .int .i64 0, .int .i64 0, .int .i64 0, .int .i64 0, .int .i64 0, .int .i64 0, .int .i64 0, .int .i64 0, .int .i64 0, .int .i64 0, .int .i64 0, .int .i64 0, .int .i64 0, .int .i64 0, .int .i64 0, .int .i64 0, .int .i64 0, .int .i64 0, .int .i64 0, .int .i64 0, .int .i64 0, .int .i64 0, .int .i64 0, .int .i64 0, .int .i64 0, .int .i64 0, .int .i64 0, .int .i64 0, .int .i64 0, .int .i64 0, .int .i64 0, .int .i64 0, .int .i64 0, .int .i64 0, .int .i64 0, .int .i64 0, .int .i64 0, .int .i64 0, .int .i64 0, .int .i64 0, .int .i64 0, .int .i64 0, .int .i64 0, .int .i64 0, .int .i64 0, .int .i64 0, .int .i64 0, .int .i64 0, .int .i64 0, .int .i64 0, .int .i64 0, .int .i64 0, .int .i64 0, .int .i64 0, .int .i64 0, .int .i64 0, .int .i64 0, .int .i64 0, .int .i64 0, .int .i64 0, .int .i64 0, .int .i64 0, .int .i64 0, .int .i64 0, .int .i64 0, .int .i64 0, .int .i64 0, .int .i64 0, .int .i64 0, .int .i64 0, .int .i64 0, .int .i64 0, .int .i64 0, .int .i64 0, .int .i64 0, .int .i64 0, .int .i64 0, .int .i64 0, .int .i64 0, .int .i64 0, .int .i64 0, .int .i64 0, .int .i64 0, .int .i64 0, .int .i64 0, .int .i64 0, .int .i64 0, .int .i64 0, .int .i64 0, .int .i64 0, .int .i64 0, .int .i64 0, .int .i64 0, .int .i64 0, .int .i64 0, .int .i64 0, .int .i64 0, .int .i64 0, .int .i64 0, .int .i64 0, .int .i64 0, .int .i64 0, .int .i64 0, .int .i64 0, .int .i64 0, .int .i64 0, .int .i64 0, .int .i64 0, .int .i64 0, .int .i64 0, .int .i64 0, .int .i64 0, .int .i64 0, .int .i64 0, .int .i64 0, .int .i64 0, .int .i64 0, .int .i64 0, .int .i64 0, .int .i64 0, .int .i64 0, .int .i64 0, .int .i64 0, .int .i64 0, .int .i64 0, .int .i64 0, .int .i64 0, .int .i64 0, .int .i64 0, .int .i64 0, .int .i64 0, .int .i64 0, .int .i64 0, .int .i64 0, .int .i64 0, .int .i64 0, .int .i64 0, .int .i64 0, .int .i64 0, .int .i64 0, .int .i64 0, .int .i64 0, .int .i64 0, .int .i64 0, .int .i64 0, .int .i64 0, .int .i64 0, .int .i64 0, .int .i64 0, .int .i64 0, .int .i64 0, .int .i64 0, .int .i64 0, .int .i64 0, .int .i64 0, .int .i64 0, .int .i64 0, .int .i64 0, .int .i64 0, .int .i64 0, .int .i64 0, .int .i64 0, .int .i64 0, .int .i64 0, .int .i64 0, .int .i64 0, .int .i64 0, .int .i64 0, .int .i64 0, .int .i64 0, .int .i64 0, .int .i64 0, .int .i64 0, .int .i64 0, .int .i64 0, .int .i64 0, .int .i64 0, .int .i64 0] := rfl
theorem rank_is {A B : Arn} {t z : Nat} {x : List Nat} {kk c p : Nat} (hM : Marked A B t x kk (256 * (x.length / kk))) (hz : (t : Int) + z ≤ A.live) (hfit : 4 * (256 * (x.length / kk)) ≤ z) (hs : z ≤ 1048576) (hk : 1 ≤ kk) (hx : x.length ≤ 65536) (hc : c < 256) (hp : p ≤ x.length) :
    base B t z kk c p + tail x kk c p = (x.take p).count c := by
  have hdl : p / kk * kk ≤ p := Nat.div_mul_le_self p kk
  have hsp : x.take p = x.take (p / kk * kk) ++ (x.drop (p / kk * kk)).take (p - p / kk * kk) := by
    have := List.take_append_drop (p / kk * kk) (x.take p)
    rw [List.take_take, Nat.min_eq_left hdl, List.drop_take] at this
    exact this.symm
  rw [hsp, List.count_append]
  unfold tail
  congr 1
  unfold base
  have hle : p / kk ≤ x.length / kk := Nat.div_le_div_right hp
  clear hsp hdl
  generalize p / kk = y at *
  by_cases h0 : 0 < y
  · rw [if_pos h0]
    have hwl : (y - 1) * 256 + c < 256 * (x.length / kk) := by
      clear hfit hM
      generalize x.length / kk = X at *
      omega
    have hw := hM.wordV (w := (y - 1) * 256 + c) hz hfit hs hwl hx
    rw [show ((y : Int) * 256 - 256 + (c : Int)) = (((y - 1) * 256 + c : Nat) : Int) by omega, hw]
    unfold wval
    rw [show ((y - 1) * 256 + c) / 256 = y - 1 by omega, show ((y - 1) * 256 + c) % 256 = c by omega, show y - 1 + 1 = y by omega]
  · rw [if_neg h0, show y = 0 by omega, Nat.zero_mul, List.take_zero]
    rfl
section
variable {hp : List Blk} {L : Nat} {H d : List Nat} {r q w : Nat} {A : Arn} {s t z kk ix : Nat} {x : List Nat} {row told steps : Nat}
end
end ArA
end Go.Proofs.Ytlbdgbfblgjjgaa
