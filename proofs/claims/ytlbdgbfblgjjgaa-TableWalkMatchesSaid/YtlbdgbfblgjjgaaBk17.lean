/-
  THE WAY BACK: walks of the reference's After, Back and Valid. Conditions: none.
-/
import Derived.Test.YtlbdgbfblgjjgaaNx17
set_option linter.all false
namespace Go.Proofs.Ytlbdgbfblgjjgaa
namespace ArA
open Go Go.RowKit AM ArEnv
/-- How many are less than each byte; byte y is counted below k. -/
def aL (l : List Nat) (y k : Nat) : List Value := (List.range 256).map fun j => .int .i64 ((less j l + (if y < j ∧ j < k then 1 else 0) : Nat) : Int)
theorem aL_len (l : List Nat) (y k : Nat) : (aL l y k).length = 256 := by simp [aL]
theorem aL_at (l : List Nat) (y k : Nat) {j : Nat} (h : j < 256) : (aL l y k)[j]? = some (.int .i64 ((less j l + (if y < j ∧ j < k then 1 else 0) : Nat) : Int)) := by simp [aL, h]
theorem aL_zero : c256 [] = aL [] 0 0 := ext256 (c256_len _) (aL_len _ _ _) fun j hj => by rw [c256_at _ hj, aL_at _ _ _ hj, if_neg (by omega)]; rfl
theorem aL_start (l : List Nat) (y : Nat) : aL l 0 0 = aL l y (y + 1) := ext256 (aL_len _ _ _) (aL_len _ _ _) fun j hj => by rw [aL_at _ _ _ hj, aL_at _ _ _ hj, if_neg (by omega), if_neg (by omega)]
theorem aL_set (l : List Nat) {y k : Nat} (h1 : y < k) (h : k < 256) : (aL l y k).set k (.int .i64 ((less k l : Nat) + 1)) = aL l y (k + 1) := ext256 (by rw [List.length_set, aL_len]) (aL_len _ _ _) fun j hj => by
  rw [List.getElem?_set, aL_at l y (k + 1) hj]
  by_cases e : k = j
  · subst e; rw [if_pos rfl, if_pos (by rw [aL_len]; exact h), if_pos (by omega)]; congr 2
  · rw [if_neg e, aL_at l y k hj]
    by_cases h2 : y < j ∧ j < k
    · rw [if_pos h2, if_pos (by omega)]
    · rw [if_neg h2, if_neg (by omega)]
theorem aL_end {l : List Nat} {i : Nat} (h : i < l.length) : aL (l.take i) l[i] 256 = aL (l.take (i + 1)) 0 0 := ext256 (aL_len _ _ _) (aL_len _ _ _) fun j hj => by
  rw [aL_at _ _ _ hj, aL_at _ _ _ hj, List.take_add_one, List.getElem?_eq_getElem h]
  simp only [Option.toList_some, less_app, less]
  rw [if_neg (show ¬ (0 < j ∧ j < 0) by omega)]
  by_cases e : l[i] < j
  · rw [if_pos ⟨e, hj⟩, if_pos e]
  · rw [if_neg (by omega), if_neg e]
/-- The rows after the rows of the column's places. -/
def aftR (x : List Nat) (n : Nat) : List Nat := (List.range n).map fun i => 1 + (less (x.getD i 0) x + same (x.getD i 0) (x.take i))
theorem aftR_len (x : List Nat) (n : Nat) : (aftR x n).length = n := by simp [aftR]
theorem aftR_succ (x : List Nat) (n : Nat) : aftR x (n + 1) = aftR x n ++ [1 + (less (x.getD n 0) x + same (x.getD n 0) (x.take n))] := by simp [aftR, List.range_succ]
theorem aftR_at (x : List Nat) {n i : Nat} (h : i < n) : (i64n (aftR x n))[i]? = some (.int .i64 ((1 + (less (x.getD i 0) x + same (x.getD i 0) (x.take i)) : Nat) : Int)) := by simp [i64n, aftR, h]
section
variable {L : Nat} {H d : List Nat}
theorem c256_same (l : List Nat) {j : Nat} (h : j < 256) : (c256 l)[j]? = some (.int .i64 (same j l : Nat)) := by rw [c256_at _ h, same_count]
theorem c256_setS {l : List Nat} {i : Nat} (h : i < l.length) (h16 : l[i] < 256) : (c256 (l.take i)).set l[i] (.int .i64 ((same l[i] (l.take i) : Nat) + 1)) = c256 (l.take (i + 1)) := by rw [same_count]; exact c256_set h h16
end
end ArA
end Go.Proofs.Ytlbdgbfblgjjgaa
