/-
  WALKS WITH RANKS: walks of the walk's functions on the abstract machine. Conditions: none.
-/
import Derived.Test.YtlbdgbfblgjjgaaWkPlain
set_option linter.all false
namespace Go.Proofs.Ytlbdgbfblgjjgaa
namespace ArA
open Go Go.RowKit AM ArEnv
/-- The cells of a walk. -/
def wkC (r s m t z ix kk : Nat) (x : List Nat) (n row told steps : Nat) : List Value :=
  arP r :: .int .i64 s :: .int .i64 m :: .int .i64 t :: .int .i64 z :: .int .i64 ix :: .int .i64 kk :: (lP x n ++ [.int .i64 row, .int .i64 told, .int .i64 steps])
section
variable {r s m t z ix kk n row told steps : Nat} {x : List Nat}
theorem wk0 : (wkC r s m t z ix kk x n row told steps)[0]? = some (arP r) := rfl
theorem wk1 : (wkC r s m t z ix kk x n row told steps)[1]? = some (.int .i64 s) := rfl
theorem wk2 : (wkC r s m t z ix kk x n row told steps)[2]? = some (.int .i64 m) := rfl
theorem wk3 : (wkC r s m t z ix kk x n row told steps)[3]? = some (.int .i64 t) := rfl
theorem wk4 : (wkC r s m t z ix kk x n row told steps)[4]? = some (.int .i64 z) := rfl
theorem wk5 : (wkC r s m t z ix kk x n row told steps)[5]? = some (.int .i64 ix) := rfl
theorem wk6 : (wkC r s m t z ix kk x n row told steps)[6]? = some (.int .i64 kk) := rfl
theorem wkL {c : Nat} (h : c < 256) : (wkC r s m t z ix kk x n row told steps)[7 + c]? = some (.int .i64 ((if c < n then csm x c else 0 : Nat) : Int)) := by
  unfold wkC
  rw [show 7 + c = c + 1 + 1 + 1 + 1 + 1 + 1 + 1 by omega]
  simp only [List.getElem?_cons_succ]
  rw [List.getElem?_append_left (by rw [lP_len]; exact h), lP_get _ _ h]
theorem wk_tail {j : Nat} (h : 256 ≤ j) : (wkC r s m t z ix kk x n row told steps)[7 + j]? = [Value.int .i64 row, .int .i64 told, .int .i64 steps][j - 256]? := by
  unfold wkC
  rw [show 7 + j = j + 1 + 1 + 1 + 1 + 1 + 1 + 1 by omega]
  simp only [List.getElem?_cons_succ]
  rw [List.getElem?_append_right (by rw [lP_len]; exact h), lP_len]
theorem wk263 : (wkC r s m t z ix kk x n row told steps)[263]? = some (.int .i64 row) := wk_tail (j := 256) (Nat.le_refl _)
theorem wk264 : (wkC r s m t z ix kk x n row told steps)[264]? = some (.int .i64 told) := wk_tail (j := 257) (by decide)
theorem wk265 : (wkC r s m t z ix kk x n row told steps)[265]? = some (.int .i64 steps) := wk_tail (j := 258) (by decide)
theorem wk_len : (wkC r s m t z ix kk x n row told steps).length = 266 := by
  unfold wkC; simp [lP_len]
theorem wk_set {j : Nat} (h : 256 ≤ j) (v : Value) : (wkC r s m t z ix kk x n row told steps).set (7 + j) v = arP r :: .int .i64 s :: .int .i64 m :: .int .i64 t :: .int .i64 z :: .int .i64 ix :: .int .i64 kk :: (lP x n ++ [Value.int .i64 row, .int .i64 told, .int .i64 steps].set (j - 256) v) := by
  unfold wkC
  rw [show 7 + j = j + 1 + 1 + 1 + 1 + 1 + 1 + 1 by omega]
  simp only [List.set_cons_succ]
  rw [List.set_append_right _ _ (by rw [lP_len]; exact h), lP_len]
theorem wkS263 {v : Nat} : (wkC r s m t z ix kk x n row told steps).set 263 (.int .i64 v) = wkC r s m t z ix kk x n v told steps := wk_set (j := 256) (Nat.le_refl _) _
theorem wkS264 {v : Nat} : (wkC r s m t z ix kk x n row told steps).set 264 (.int .i64 v) = wkC r s m t z ix kk x n row v steps := wk_set (j := 257) (by decide) _
theorem wkS265 {v : Nat} : (wkC r s m t z ix kk x n row told steps).set 265 (.int .i64 v) = wkC r s m t z ix kk x n row told v := wk_set (j := 258) (by decide) _
theorem wkSL (h : n < 256) : (wkC r s m t z ix kk x n row told steps).set (7 + n) (.int .i64 (csm x n : Nat)) = wkC r s m t z ix kk x (n + 1) row told steps := by
  unfold wkC
  rw [show 7 + n = n + 1 + 1 + 1 + 1 + 1 + 1 + 1 by omega]
  simp only [List.set_cons_succ]
  rw [List.set_append_left _ _ (by rw [lP_len]; exact h), lP_set _ h]
theorem wk_cut1 : ((wkC r s m t z ix kk x n row told steps).drop 1).take 2 = [.int .i64 s, .int .i64 m] := rfl
theorem wk_cut3 : ((wkC r s m t z ix kk x n row told steps).drop 3).take 2 = [.int .i64 t, .int .i64 z] := rfl
end
structure WkOk (n r q w : Nat) (L : Nat) (H : List Nat) (A : Arn) (s t z kk ix : Nat) (x : List Nat) : Prop where
  ok : ArOk n r q H A
  holds : Holds A s x
  valid : rValid A s x.length t z kk = true
  kk1 : 1 ≤ kk
  ixm : ix ≤ x.length
  rank : ∀ c, c < 256 → ∀ p, p ≤ x.length → base A t z kk c p + tail x kk c p = (x.take p).count c
  wr : r ≠ w
  wq : q ≠ w
  wn : w < n
  wL : L ≤ w
  hid : H.contains w = false
  small : x.length ≤ 65536
  by_ : By x
section
variable {hp : List Blk} {L : Nat} {H d : List Nat} {r q w : Nat} {A : Arn} {s t z kk ix : Nat} {x : List Nat} {row told steps : Nat}
end
end ArA
end Go.Proofs.Ytlbdgbfblgjjgaa
