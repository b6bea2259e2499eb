/-
  RANKS: walks of the functions on the abstract machine, third part: Less, and a text laid into an arena. Conditions: none.
-/
import Derived.Test.YtlphmnhkkhcjfaaRkB
set_option linter.all false
namespace Go.Proofs.Ytlphmnhkkhcjfaa
namespace ArA
open Go Go.RowKit AM ArEnv

def c256 (l : List Nat) : List Value := (List.range 256).map fun j => .int .i64 (l.count j : Nat)
theorem c256_len (l : List Nat) : (c256 l).length = 256 := by simp [c256]
theorem c256_at (l : List Nat) {j : Nat} (h : j < 256) : (c256 l)[j]? = some (.int .i64 (l.count j : Nat)) := by simp [c256, h]
theorem c256_cellv (l : List Nat) : (c256 l).all cellv = true := by simp [c256, AM.cellv, AM.sc]
theorem c256_scs (l : List Nat) : (c256 l).all AM.sc = true := by simp [c256, AM.sc]
theorem ext256 {a b : List Value} (h1 : a.length = 256) (h2 : b.length = 256) (h : ∀ j, j < 256 → a[j]? = b[j]?) : a = b := by
  apply List.ext_getElem?
  intro j
  by_cases hj : j < 256
  · exact h j hj
  · rw [List.getElem?_eq_none (by omega), List.getElem?_eq_none (by omega)]
theorem rep256 (n : Nat) : List.replicate n (Value.int .i64 0) = (List.range n).map fun _ => Value.int .i64 0 := by
  apply List.ext_getElem?
  intro j
  by_cases h : j < n <;> simp [h]
theorem c256_nil : List.replicate 256 (Value.int .i64 0) = c256 [] := by rw [rep256]; rfl
theorem cnt_take {l : List Nat} {k : Nat} (h : k < l.length) (j : Nat) : (l.take (k + 1)).count j = (l.take k).count j + (if l[k] = j then 1 else 0) := by
  rw [List.take_succ_eq_append_getElem h, List.count_append]
  congr 1
  simp [List.count_cons]
theorem c256_set {l : List Nat} {i : Nat} (h : i < l.length) (h16 : l[i] < 256) : (c256 (l.take i)).set l[i] (.int .i64 (((l.take i).count l[i] : Nat) + 1)) = c256 (l.take (i + 1)) := by
  refine ext256 (by rw [List.length_set, c256_len]) (c256_len _) fun j hj => ?_
  rw [c256_at _ hj, List.getElem?_set, cnt_take h]
  by_cases e : l[i] = j
  · subst e
    rw [if_pos rfl, if_pos (by rw [c256_len]; exact hj), if_pos rfl]
    congr 2
  · rw [if_neg e, c256_at _ hj, if_neg e]
    congr 2
def csm (l : List Nat) : Nat → Nat
  | 0 => 0
  | n + 1 => csm l n + l.count n
theorem csm_le (l : List Nat) : ∀ n, csm l n ≤ n * l.length
  | 0 => by simp [csm]
  | n + 1 => by
    have := csm_le l n
    have h2 : l.count n ≤ l.length := List.count_le_length
    simp only [csm]
    rw [Nat.add_mul, Nat.one_mul]; omega
def lP (l : List Nat) (n : Nat) : List Value := (List.range 256).map fun j => .int .i64 ((if j < n then csm l j else 0 : Nat) : Int)
theorem lP_len (l : List Nat) (n : Nat) : (lP l n).length = 256 := by simp [lP]
theorem lP_get (l : List Nat) (n : Nat) {j : Nat} (h : j < 256) : (lP l n)[j]? = some (.int .i64 ((if j < n then csm l j else 0 : Nat) : Int)) := by simp [lP, h]
theorem lP_zero (l : List Nat) : c256 [] = lP l 0 := ext256 (c256_len _) (lP_len _ _) fun j hj => by rw [c256_at _ hj, lP_get _ _ hj, if_neg (by omega)]; rfl
theorem lP_set (l : List Nat) {n : Nat} (h : n < 256) : (lP l n).set n (.int .i64 (csm l n : Nat)) = lP l (n + 1) := ext256 (by rw [List.length_set, lP_len]) (lP_len _ _) fun j hj => by
  rw [List.getElem?_set, lP_get l (n + 1) hj]
  by_cases e : n = j
  · subst e; rw [if_pos rfl, if_pos (by rw [lP_len]; exact h), if_pos (by omega)]
  · rw [if_neg e, lP_get l n hj]
    by_cases h1 : j < n
    · rw [if_pos h1, if_pos (by omega)]
    · rw [if_neg h1, if_neg (by omega)]
theorem lP_cellv (l : List Nat) (n : Nat) : (lP l n).all cellv = true := by simp [lP, AM.cellv, AM.sc]
theorem lP_scs (l : List Nat) (n : Nat) : (lP l n).all AM.sc = true := by simp [lP, AM.sc]
theorem lP_refs (l : List Nat) (n : Nat) : (lP l n).flatMap refsC = [] := by
  rw [List.flatMap_eq_nil_iff]
  intro v hv
  simp only [lP, List.mem_map] at hv
  obtain ⟨_, _, rfl⟩ := hv
  rfl
theorem lP_take (l : List Nat) (n : Nat) : (lP l n).take 256 = lP l n := List.take_of_length_le (by rw [lP_len]; omega)
theorem putAt_own {cs vs : List Value} (h : vs.length = cs.length) : putAt cs 0 vs = vs := by
  apply List.ext_getElem?
  intro j
  rw [putAt_get _ _ _ _ (by omega)]
  split
  · simp
  · rename_i hj
    rw [List.getElem?_eq_none (by omega), List.getElem?_eq_none (by omega)]
section
variable {hp : List Blk} {L : Nat} {H d : List Nat} {r q : Nat} {A : Arn}
end
end ArA
end Go.Proofs.Ytlphmnhkkhcjfaa
