/-
  KRAFT SUMS, THE PLAIN PART: what the functions compute, as functions on lists of numbers. Conditions: none.
-/
import Derived.Laws.BitsAllLaws
namespace Go.Proofs.Ytlphmnhkkhcjfaa
open Go

def kShare (n : Nat) : Nat := if n = 0 then 0 else if 15 < n then 32769 else 32768 / 2 ^ n
def kSum (l : List Nat) : Nat := (l.map kShare).sum
def kFits (l : List Nat) : Bool := decide (kSum l ≤ 32768)
def kComplete (l : List Nat) : Bool := kSum l == 32768
def kTable (l : List Nat) : Bool := kComplete l && decide (0 < l.getD 257 0)
def kCounts (l : List Nat) : List Nat := (List.range 16).map fun n => l.count n
def hValid (t : List Int) : Bool := t.all fun n => decide (0 ≤ n) && decide (n ≤ 2147483647)
def kDot : List Int → List Nat → Int
  | n :: t, b :: l => n * (b : Int) + kDot t l
  | _, _ => 0
def kCost (t : List Int) (l : List Nat) : Int := if hValid t then kDot t l else 0

theorem kShare_le (n : Nat) : kShare n ≤ 32769 := by
  unfold kShare
  split
  · omega
  · split
    · omega
    · have := Nat.div_le_self 32768 (2 ^ n); omega
theorem kSum_le (l : List Nat) : kSum l ≤ 32769 * l.length := by
  induction l with
  | nil => simp [kSum]
  | cons a l ih =>
    have := kShare_le a
    simp only [kSum, List.map_cons, List.sum_cons, List.length_cons] at *
    omega
theorem kSum_append (l m : List Nat) : kSum (l ++ m) = kSum l + kSum m := by simp [kSum]
theorem kSum_one (a : Nat) : kSum [a] = kShare a := by simp [kSum]
theorem kSum_take {l : List Nat} {k : Nat} (h : k < l.length) : kSum (l.take (k + 1)) = kSum (l.take k) + kShare l[k] := by
  rw [List.take_succ_eq_append_getElem h, kSum_append, kSum_one]


def i64s (l : List Int) : List Value := l.map fun b => Value.int .i64 b
theorem i64a_size (l : List Int) : (i64s l).toArray.size = l.length := by simp [i64s]
theorem i64a_get {l : List Int} {i : Nat} (h : i < l.length) : (i64s l).toArray[i]? = some (.int .i64 l[i]) := by simp [i64s, h]
def kCountsV (l : List Nat) : Array Value := ((List.range 16).map fun n => Value.int .i64 (l.count n : Nat)).toArray
theorem kCountsV_size (l : List Nat) : (kCountsV l).size = 16 := by simp [kCountsV]
theorem kCountsV_get (l : List Nat) {i : Nat} (h : i < 16) : (kCountsV l)[i]? = some (.int .i64 (l.count i : Nat)) := by simp [kCountsV, h]
theorem kCountsV_of {cs : Array Value} {l : List Nat} (hs : cs.size = 16) (h : ∀ j, j < 16 → cs[j]? = some (.int .i64 (l.count j : Nat))) : cs = kCountsV l := by
  apply Array.ext (by rw [hs, kCountsV_size])
  intro i h1 h2
  have a := h i (by omega)
  have b := kCountsV_get l (i := i) (by omega)
  rw [Array.getElem?_eq_getElem h1] at a
  rw [Array.getElem?_eq_getElem h2] at b
  exact Option.some.inj (a.trans b.symm)
theorem kCountsV_one (l : List Nat) : (kCountsV l).all (·.oneCell') = true := by
  simp only [kCountsV, List.all_toArray, List.all_map, List.all_eq_true]
  intro x _; rfl
theorem count_take {l : List Nat} {k : Nat} (h : k < l.length) (j : Nat) : (l.take (k + 1)).count j = (l.take k).count j + (if l[k] = j then 1 else 0) := by
  rw [List.take_succ_eq_append_getElem h, List.count_append]
  congr 1
  simp [List.count_cons]

theorem hValid_take {t : List Int} {k : Nat} (h : k < t.length) : hValid (t.take (k + 1)) = (hValid (t.take k) && (decide (0 ≤ t[k]) && decide (t[k] ≤ 2147483647))) := by
  rw [hValid, List.take_succ_eq_append_getElem h, List.all_append, hValid]; simp
theorem hValid_at {t : List Int} (hv : hValid t = true) {k : Nat} (h : k < t.length) : 0 ≤ t[k] ∧ t[k] ≤ 2147483647 := by
  rw [hValid, List.all_eq_true] at hv
  have := hv _ (List.getElem_mem h)
  simp at this; exact this
theorem hValid_bad {t : List Int} {k : Nat} (h : k < t.length) (hb : t[k] < 0 ∨ 2147483647 < t[k]) : hValid t = false := by
  cases hv : hValid t
  · rfl
  · have := hValid_at hv h; omega
theorem kDot_take : ∀ (t : List Int) (l : List Nat) (k : Nat) (h : k < t.length) (h' : k < l.length), kDot (t.take (k + 1)) (l.take (k + 1)) = kDot (t.take k) (l.take k) + t[k] * (l[k] : Int)
  | [], _, k, h, _ => by simp at h
  | _ :: _, [], k, _, h' => by simp at h'
  | a :: t, b :: l, 0, _, _ => by simp [kDot]
  | a :: t, b :: l, k + 1, h, h' => by
    have := kDot_take t l k (by simpa using h) (by simpa using h')
    simp only [List.take_succ_cons, kDot, List.getElem_cons_succ] at *
    omega
theorem kDot_bound : ∀ (t : List Int) (l : List Nat), hValid t = true → (∀ b ∈ l, b < 256) → 0 ≤ kDot t l ∧ kDot t l ≤ 547608329985 * (t.length : Int)
  | [], _, _, _ => by simp [kDot]
  | a :: t, [], _, _ => by simp [kDot]; omega
  | a :: t, b :: l, hv, hb => by
    have hv' : (0 ≤ a ∧ a ≤ 2147483647) ∧ hValid t = true := by simpa [hValid] using hv
    obtain ⟨h1, h2⟩ := kDot_bound t l hv'.2 (fun x hx => hb x (List.mem_cons_of_mem _ hx))
    have h3 : (b : Int) ≤ 255 := by have := hb b (List.mem_cons_self ..); omega
    have h4 : 0 ≤ a * (b : Int) := Int.mul_nonneg hv'.1.1 (by omega)
    have h5 : a * (b : Int) ≤ 2147483647 * 255 := Int.mul_le_mul hv'.1.2 h3 (by omega) (by omega)
    simp only [kDot, List.length_cons]
    omega
theorem hValid_takes {t : List Int} (hv : hValid t = true) (k : Nat) : hValid (t.take k) = true := by
  rw [hValid, List.all_eq_true] at *
  intro x hx; exact hv x (List.mem_of_mem_take hx)

end Go.Proofs.Ytlphmnhkkhcjfaa
