/-
  BITS: the bits of a number, the bytes of bits; what an appended bit does to the last byte; the bit read back.
  Definitions: bits, bytes. Conditions: none.
-/
import Derived.Test.YtlphmnhkkhcjfaaASy
set_option linter.all false
section
namespace Go.Proofs.Ytlphmnhkkhcjfaa
namespace AM
open Go

def num (l : List Nat) : Nat := l.foldl (fun v b => 2 * v + b) 0
theorem num_nil : num [] = 0 := rfl
theorem num_snoc (l : List Nat) (b : Nat) : num (l ++ [b]) = 2 * num l + b := by simp [num]
theorem num_from (l : List Nat) : ∀ (a : Nat), l.foldl (fun v b => 2 * v + b) a = a * 2 ^ l.length + num l := by
  induction l with
  | nil => intro a; simp [num]
  | cons x l ih =>
    intro a
    have h1 := ih (2 * a + x)
    have h2 := ih (2 * 0 + x)
    unfold num
    simp only [List.foldl_cons, List.length_cons] at h1 h2 ⊢
    rw [h1, h2, Nat.pow_succ]
    have : (2 * a + x) * 2 ^ l.length = 2 * a * 2 ^ l.length + x * 2 ^ l.length := Nat.add_mul ..
    have h4 : 2 * a * 2 ^ l.length = a * (2 ^ l.length * 2) := by rw [Nat.mul_comm 2 a, Nat.mul_assoc, Nat.mul_comm 2]
    have h3 : (2 * 0 + x) * 2 ^ l.length = x * 2 ^ l.length := by rw [Nat.mul_zero, Nat.zero_add]
    omega
theorem num_cons (x : Nat) (l : List Nat) : num (x :: l) = x * 2 ^ l.length + num l := by
  have := num_from l x
  unfold num at *
  simp only [List.foldl_cons, Nat.mul_zero, Nat.zero_add]
  exact this
theorem num_zeros (n : Nat) : num (List.replicate n 0) = 0 := by
  induction n with
  | zero => rfl
  | succ n ih => rw [List.replicate_succ, num_cons, ih]; simp
def Bits (l : List Nat) : Prop := ∀ b ∈ l, b < 2
theorem Bits.nil : Bits [] := fun b h => by cases h
theorem Bits.append {l m : List Nat} (h : Bits l) (k : Bits m) : Bits (l ++ m) := fun x hx => (List.mem_append.1 hx).elim (h x) (k x)
theorem Bits.one {b : Nat} (h : b < 2) : Bits [b] := fun x hx => by simp at hx; omega
theorem Bits.at_ {l : List Nat} (h : Bits l) (p : Nat) : l.getD p 0 < 2 := by
  rw [List.getD_eq_getElem?_getD]
  rcases Nat.lt_or_ge p l.length with hp | hp
  · rw [List.getElem?_eq_getElem hp]; exact h _ (List.getElem_mem hp)
  · rw [List.getElem?_eq_none hp]; decide
theorem Bits.zeros (n : Nat) : Bits (List.replicate n 0) := fun x hx => by rw [List.eq_of_mem_replicate hx]; decide
theorem num_lt {l : List Nat} (h : Bits l) : num l < 2 ^ l.length := by
  induction l with
  | nil => decide
  | cons x l ih =>
    rw [num_cons, List.length_cons, Nat.pow_succ]
    have := ih fun b hb => h b (by simp [hb])
    have hx := h x (by simp)
    have : x * 2 ^ l.length ≤ 1 * 2 ^ l.length := Nat.mul_le_mul_right _ (by omega)
    omega

/-- The bits of a number, the last w of them, the greatest first. -/
def bitsAt (v : Nat) : Nat → List Nat
  | 0 => []
  | w + 1 => (v / 2 ^ w % 2) :: bitsAt v w
theorem bitsAt_length (v w : Nat) : (bitsAt v w).length = w := by
  induction w with
  | zero => rfl
  | succ w ih => rw [bitsAt, List.length_cons, ih]
theorem bitsAt_bits (v w : Nat) : Bits (bitsAt v w) := by
  induction w with
  | zero => exact Bits.nil
  | succ w ih =>
    intro b hb
    rw [bitsAt] at hb
    rcases List.mem_cons.1 hb with h | h
    · omega
    · exact ih b h
theorem num_bitsAt (v w : Nat) : num (bitsAt v w) = v % 2 ^ w := by
  induction w with
  | zero => simp [bitsAt, num, Nat.mod_one]
  | succ w ih =>
    rw [bitsAt, num_cons, ih, bitsAt_length, Nat.pow_succ, Nat.mod_mul, Nat.mul_comm, Nat.add_comm]
theorem bitsAt_add (v a b : Nat) : bitsAt v (a + b) = bitsAt (v / 2 ^ b) a ++ bitsAt v b := by
  induction a with
  | zero => simp [bitsAt]
  | succ a ih =>
    rw [show a + 1 + b = (a + b) + 1 by omega, bitsAt, bitsAt, ih, List.cons_append, Nat.div_div_eq_div_mul, ← Nat.pow_add, Nat.add_comm b a]
theorem bitsAt_mod (v w : Nat) : ∀ (n : Nat), w ≤ n → bitsAt (v % 2 ^ n) w = bitsAt v w := by
  induction w with
  | zero => intro n h; rfl
  | succ w ih =>
    intro n h
    rw [bitsAt, bitsAt, ih n (by omega)]
    congr 1
    have hn : 2 ^ n = 2 ^ w * 2 ^ (n - w) := by rw [← Nat.pow_add]; congr 1; omega
    rw [hn, Nat.mod_mul_right_div_self]
    have : 2 ^ (n - w) = 2 * 2 ^ (n - w - 1) := by
      rw [Nat.mul_comm, ← Nat.pow_succ]; congr 1; omega
    rw [this, Nat.mod_mul_right_mod]

def g (l : List Nat) (p : Nat) : Nat := l.getD p 0
theorem g_left {l m : List Nat} {p : Nat} (h : p < l.length) : g (l ++ m) p = g l p := by
  unfold g; rw [List.getD_eq_getElem?_getD, List.getD_eq_getElem?_getD, List.getElem?_append_left h]
theorem g_right {l m : List Nat} {p : Nat} : g (l ++ m) (l.length + p) = g m p := by
  unfold g; rw [List.getD_eq_getElem?_getD, List.getD_eq_getElem?_getD, List.getElem?_append_right (by omega), Nat.add_sub_cancel_left]
theorem g_out {l : List Nat} {p : Nat} (h : l.length ≤ p) : g l p = 0 := by
  unfold g; rw [List.getD_eq_getElem?_getD, List.getElem?_eq_none h]; rfl
theorem g_lt {l : List Nat} (h : Bits l) (p : Nat) : g l p < 2 := h.at_ p
theorem g_in {l : List Nat} {p : Nat} (h : p < l.length) : g l p = l[p] := by
  unfold g; rw [List.getD_eq_getElem?_getD, List.getElem?_eq_getElem h]; rfl
/-- The byte of eight bits. -/
def byt (l : List Nat) (i : Nat) : Nat := 128 * g l (8 * i) + 64 * g l (8 * i + 1) + 32 * g l (8 * i + 2) + 16 * g l (8 * i + 3) + 8 * g l (8 * i + 4) + 4 * g l (8 * i + 5) + 2 * g l (8 * i + 6) + g l (8 * i + 7)
theorem byt_lt {l : List Nat} (h : Bits l) (i : Nat) : byt l i < 256 := by
  unfold byt
  have h0 := g_lt h (8 * i); have h1 := g_lt h (8 * i + 1); have h2 := g_lt h (8 * i + 2); have h3 := g_lt h (8 * i + 3)
  have h4 := g_lt h (8 * i + 4); have h5 := g_lt h (8 * i + 5); have h6 := g_lt h (8 * i + 6); have h7 := g_lt h (8 * i + 7)
  omega
theorem cases8 (j : Nat) (h : j < 8) : j = 0 ∨ j = 1 ∨ j = 2 ∨ j = 3 ∨ j = 4 ∨ j = 5 ∨ j = 6 ∨ j = 7 := by omega
/-- A bit of a byte. -/
theorem byt_get {l : List Nat} (h : Bits l) (i j : Nat) (hj : j < 8) : byt l i / 2 ^ (7 - j) % 2 = g l (8 * i + j) := by
  unfold byt
  have h0 := g_lt h (8 * i); have h1 := g_lt h (8 * i + 1); have h2 := g_lt h (8 * i + 2); have h3 := g_lt h (8 * i + 3)
  have h4 := g_lt h (8 * i + 4); have h5 := g_lt h (8 * i + 5); have h6 := g_lt h (8 * i + 6); have h7 := g_lt h (8 * i + 7)
  rcases cases8 j hj with rfl | rfl | rfl | rfl | rfl | rfl | rfl | rfl <;> simp only [Nat.reduceSub, Nat.reducePow, Nat.add_zero] <;> omega
theorem or_add (i a b : Nat) (h : b < 2 ^ i) : (2 ^ i * a) ||| b = 2 ^ i * a + b := (Nat.two_pow_add_eq_or_of_lt h a).symm
/-- The last byte, one bit more. -/
theorem byt_snoc {l : List Nat} (hl : Bits l) {b : Nat} (hb : b < 2) : byt (l ++ [b]) (l.length / 8) = byt l (l.length / 8) ||| b * 2 ^ (7 - l.length % 8) := by
  have hj : l.length % 8 < 8 := by omega
  have hd : 8 * (l.length / 8) + l.length % 8 = l.length := by omega
  generalize hi : l.length / 8 = i at hd
  generalize l.length % 8 = j at hj hd
  have hlo : ∀ t, t < j → g (l ++ [b]) (8 * i + t) = g l (8 * i + t) := fun t ht => g_left (by omega)
  have hat : g (l ++ [b]) (8 * i + j) = b := by
    rw [hd, show l.length = l.length + 0 by omega, g_right]; rfl
  have hhi : ∀ t, j < t → g (l ++ [b]) (8 * i + t) = 0 := fun t ht => g_out (by simp; omega)
  have hol : ∀ t, j ≤ t → g l (8 * i + t) = 0 := fun t ht => g_out (by omega)
  unfold byt
  rcases cases8 j hj with rfl | rfl | rfl | rfl | rfl | rfl | rfl | rfl
  · rw [show 8 * i = 8 * i + 0 by omega, hat, hol 0 (by omega), Nat.add_zero, hhi 1 (by omega), hhi 2 (by omega), hhi 3 (by omega), hhi 4 (by omega), hhi 5 (by omega), hhi 6 (by omega), hhi 7 (by omega), hol 1 (by omega), hol 2 (by omega), hol 3 (by omega), hol 4 (by omega), hol 5 (by omega), hol 6 (by omega), hol 7 (by omega)]
    simp [Nat.mul_comm]
  · have h0 := hlo 0 (by omega); rw [Nat.add_zero] at h0
    rw [h0, hat, hhi 2 (by omega), hhi 3 (by omega), hhi 4 (by omega), hhi 5 (by omega), hhi 6 (by omega), hhi 7 (by omega), hol 1 (by omega), hol 2 (by omega), hol 3 (by omega), hol 4 (by omega), hol 5 (by omega), hol 6 (by omega), hol 7 (by omega)]
    have := or_add 7 (g l (8 * i)) (b * 64) (by omega)
    simp only [Nat.reducePow, Nat.reduceSub, Nat.mul_zero, Nat.add_zero] at this ⊢
    omega
  · have h0 := hlo 0 (by omega); rw [Nat.add_zero] at h0
    rw [h0, hlo 1 (by omega), hat, hhi 3 (by omega), hhi 4 (by omega), hhi 5 (by omega), hhi 6 (by omega), hhi 7 (by omega), hol 2 (by omega), hol 3 (by omega), hol 4 (by omega), hol 5 (by omega), hol 6 (by omega), hol 7 (by omega)]
    have := or_add 6 (2 * g l (8 * i) + g l (8 * i + 1)) (b * 32) (by omega)
    rw [show 2 ^ 6 * (2 * g l (8 * i) + g l (8 * i + 1)) = 128 * g l (8 * i) + 64 * g l (8 * i + 1) + 32 * 0 + 16 * 0 + 8 * 0 + 4 * 0 + 2 * 0 + 0 by omega] at this
    simp only [Nat.reducePow, Nat.reduceSub, Nat.mul_zero, Nat.add_zero] at this ⊢
    omega
  · have h0 := hlo 0 (by omega); rw [Nat.add_zero] at h0
    rw [h0, hlo 1 (by omega), hlo 2 (by omega), hat, hhi 4 (by omega), hhi 5 (by omega), hhi 6 (by omega), hhi 7 (by omega), hol 3 (by omega), hol 4 (by omega), hol 5 (by omega), hol 6 (by omega), hol 7 (by omega)]
    have := or_add 5 (4 * g l (8 * i) + 2 * g l (8 * i + 1) + g l (8 * i + 2)) (b * 16) (by omega)
    rw [show 2 ^ 5 * (4 * g l (8 * i) + 2 * g l (8 * i + 1) + g l (8 * i + 2)) = 128 * g l (8 * i) + 64 * g l (8 * i + 1) + 32 * g l (8 * i + 2) + 16 * 0 + 8 * 0 + 4 * 0 + 2 * 0 + 0 by omega] at this
    simp only [Nat.reducePow, Nat.reduceSub, Nat.mul_zero, Nat.add_zero] at this ⊢
    omega
  · have h0 := hlo 0 (by omega); rw [Nat.add_zero] at h0
    rw [h0, hlo 1 (by omega), hlo 2 (by omega), hlo 3 (by omega), hat, hhi 5 (by omega), hhi 6 (by omega), hhi 7 (by omega), hol 4 (by omega), hol 5 (by omega), hol 6 (by omega), hol 7 (by omega)]
    have := or_add 4 (8 * g l (8 * i) + 4 * g l (8 * i + 1) + 2 * g l (8 * i + 2) + g l (8 * i + 3)) (b * 8) (by omega)
    rw [show 2 ^ 4 * (8 * g l (8 * i) + 4 * g l (8 * i + 1) + 2 * g l (8 * i + 2) + g l (8 * i + 3)) = 128 * g l (8 * i) + 64 * g l (8 * i + 1) + 32 * g l (8 * i + 2) + 16 * g l (8 * i + 3) + 8 * 0 + 4 * 0 + 2 * 0 + 0 by omega] at this
    simp only [Nat.reducePow, Nat.reduceSub, Nat.mul_zero, Nat.add_zero] at this ⊢
    omega
  · have h0 := hlo 0 (by omega); rw [Nat.add_zero] at h0
    rw [h0, hlo 1 (by omega), hlo 2 (by omega), hlo 3 (by omega), hlo 4 (by omega), hat, hhi 6 (by omega), hhi 7 (by omega), hol 5 (by omega), hol 6 (by omega), hol 7 (by omega)]
    have := or_add 3 (16 * g l (8 * i) + 8 * g l (8 * i + 1) + 4 * g l (8 * i + 2) + 2 * g l (8 * i + 3) + g l (8 * i + 4)) (b * 4) (by omega)
    rw [show 2 ^ 3 * (16 * g l (8 * i) + 8 * g l (8 * i + 1) + 4 * g l (8 * i + 2) + 2 * g l (8 * i + 3) + g l (8 * i + 4)) = 128 * g l (8 * i) + 64 * g l (8 * i + 1) + 32 * g l (8 * i + 2) + 16 * g l (8 * i + 3) + 8 * g l (8 * i + 4) + 4 * 0 + 2 * 0 + 0 by omega] at this
    simp only [Nat.reducePow, Nat.reduceSub, Nat.mul_zero, Nat.add_zero] at this ⊢
    omega
  · have h0 := hlo 0 (by omega); rw [Nat.add_zero] at h0
    rw [h0, hlo 1 (by omega), hlo 2 (by omega), hlo 3 (by omega), hlo 4 (by omega), hlo 5 (by omega), hat, hhi 7 (by omega), hol 6 (by omega), hol 7 (by omega)]
    have := or_add 2 (32 * g l (8 * i) + 16 * g l (8 * i + 1) + 8 * g l (8 * i + 2) + 4 * g l (8 * i + 3) + 2 * g l (8 * i + 4) + g l (8 * i + 5)) (b * 2) (by omega)
    rw [show 2 ^ 2 * (32 * g l (8 * i) + 16 * g l (8 * i + 1) + 8 * g l (8 * i + 2) + 4 * g l (8 * i + 3) + 2 * g l (8 * i + 4) + g l (8 * i + 5)) = 128 * g l (8 * i) + 64 * g l (8 * i + 1) + 32 * g l (8 * i + 2) + 16 * g l (8 * i + 3) + 8 * g l (8 * i + 4) + 4 * g l (8 * i + 5) + 2 * 0 + 0 by omega] at this
    simp only [Nat.reducePow, Nat.reduceSub, Nat.mul_zero, Nat.add_zero] at this ⊢
    omega
  · have h0 := hlo 0 (by omega); rw [Nat.add_zero] at h0
    rw [h0, hlo 1 (by omega), hlo 2 (by omega), hlo 3 (by omega), hlo 4 (by omega), hlo 5 (by omega), hlo 6 (by omega), hat, hol 7 (by omega)]
    have := or_add 1 (64 * g l (8 * i) + 32 * g l (8 * i + 1) + 16 * g l (8 * i + 2) + 8 * g l (8 * i + 3) + 4 * g l (8 * i + 4) + 2 * g l (8 * i + 5) + g l (8 * i + 6)) (b * 1) (by omega)
    rw [show 2 ^ 1 * (64 * g l (8 * i) + 32 * g l (8 * i + 1) + 16 * g l (8 * i + 2) + 8 * g l (8 * i + 3) + 4 * g l (8 * i + 4) + 2 * g l (8 * i + 5) + g l (8 * i + 6)) = 128 * g l (8 * i) + 64 * g l (8 * i + 1) + 32 * g l (8 * i + 2) + 16 * g l (8 * i + 3) + 8 * g l (8 * i + 4) + 4 * g l (8 * i + 5) + 2 * g l (8 * i + 6) + 0 by omega] at this
    simp only [Nat.reducePow, Nat.reduceSub, Nat.mul_zero, Nat.add_zero, Nat.mul_one] at this ⊢
    omega
def nb (l : List Nat) : Nat := (l.length + 7) / 8
def bytsN (l : List Nat) (n : Nat) : List Nat := (List.range n).map (byt l)
def byts (l : List Nat) : List Nat := bytsN l (nb l)
theorem bytsN_length (l : List Nat) (n : Nat) : (bytsN l n).length = n := by simp [bytsN]
theorem byts_length (l : List Nat) : (byts l).length = nb l := bytsN_length ..
theorem byts_by {l : List Nat} (h : Bits l) : By (byts l) := fun x hx => by
  obtain ⟨i, _, rfl⟩ := List.mem_map.1 hx
  exact byt_lt h i
theorem byts_nil : byts [] = [] := rfl
theorem byt_old {l m : List Nat} {i : Nat} (h : 8 * i + 8 ≤ l.length) : byt (l ++ m) i = byt l i := by
  unfold byt
  rw [g_left (by omega), g_left (by omega), g_left (by omega), g_left (by omega), g_left (by omega), g_left (by omega), g_left (by omega), g_left (by omega)]
theorem byt_out {l : List Nat} {i : Nat} (h : l.length ≤ 8 * i) : byt l i = 0 := by
  unfold byt
  rw [g_out (by omega), g_out (by omega), g_out (by omega), g_out (by omega), g_out (by omega), g_out (by omega), g_out (by omega), g_out (by omega)]
theorem bytsN_snoc {l : List Nat} (hl : Bits l) {b : Nat} (hb : b < 2) : bytsN (l ++ [b]) (l.length / 8 + 1) = (bytsN l (l.length / 8 + 1)).set (l.length / 8) (byt l (l.length / 8) ||| b * 2 ^ (7 - l.length % 8)) := by
  refine List.ext_getElem (by simp [bytsN]) fun i h1 h2 => ?_
  rw [List.getElem_set]
  simp only [bytsN, List.getElem_map, List.getElem_range]
  by_cases h : l.length / 8 = i
  · rw [if_pos h, ← h, byt_snoc hl hb]
  · rw [if_neg h]
    simp [bytsN] at h1
    exact byt_old (by omega)
/-- A bit more in the last byte. -/
theorem byts_in {l : List Nat} (hl : Bits l) {b : Nat} (hb : b < 2) (h : l.length % 8 ≠ 0) : byts (l ++ [b]) = (byts l).set (l.length / 8) (byt l (l.length / 8) ||| b * 2 ^ (7 - l.length % 8)) := by
  unfold byts
  have h1 : nb (l ++ [b]) = l.length / 8 + 1 := by simp [nb]; omega
  have h2 : nb l = l.length / 8 + 1 := by simp [nb]; omega
  rw [h1, h2, bytsN_snoc hl hb]
/-- A bit more in a byte of its own. -/
theorem byts_more {l : List Nat} (hl : Bits l) {b : Nat} (hb : b < 2) (h : l.length % 8 = 0) : byts (l ++ [b]) = (byts l ++ [0]).set (l.length / 8) (0 ||| b * 2 ^ 7) := by
  unfold byts
  have h1 : nb (l ++ [b]) = l.length / 8 + 1 := by simp [nb]; omega
  have h2 : nb l = l.length / 8 := by simp [nb]; omega
  rw [h1, h2, bytsN_snoc hl hb, h]
  have h0 : byt l (l.length / 8) = 0 := byt_out (by omega)
  rw [h0]
  congr 1
  simp only [bytsN, List.range_succ, List.map_append, List.map_cons, List.map_nil, h0]
theorem nb_in (l : List Nat) (b : Nat) (h : l.length % 8 ≠ 0) : nb (l ++ [b]) = nb l := by simp [nb]; omega
theorem nb_more (l : List Nat) (b : Nat) (h : l.length % 8 = 0) : nb (l ++ [b]) = nb l + 1 := by simp [nb]; omega
/-- The bit at a position of bytes. -/
def bitAt (bs : List Nat) (p : Nat) : Nat := bs.getD (p / 8) 0 / 2 ^ (7 - p % 8) % 2
theorem bitAt_lt (bs : List Nat) (p : Nat) : bitAt bs p < 2 := Nat.mod_lt _ (by decide)
theorem bitAt_byts {l : List Nat} (hl : Bits l) {p : Nat} (hp : p < 8 * nb l) : bitAt (byts l) p = g l p := by
  unfold bitAt
  have h1 : (byts l).getD (p / 8) 0 = byt l (p / 8) := by
    rw [List.getD_eq_getElem?_getD, List.getElem?_eq_getElem (by rw [byts_length]; omega)]
    simp [byts, bytsN]
  rw [h1, byt_get hl _ _ (by omega)]
  congr 1
  omega
def bitsIn (bs : List Nat) (p : Nat) : Nat → List Nat
  | 0 => []
  | n + 1 => bitAt bs p :: bitsIn bs (p + 1) n
theorem bitsIn_length (bs : List Nat) (n : Nat) : ∀ (p : Nat), (bitsIn bs p n).length = n := by
  induction n with
  | zero => intro p; rfl
  | succ n ih => intro p; rw [bitsIn, List.length_cons, ih]
theorem bitsIn_bits (bs : List Nat) (n : Nat) : ∀ (p : Nat), Bits (bitsIn bs p n) := by
  induction n with
  | zero => intro p; exact Bits.nil
  | succ n ih =>
    intro p b hb
    rw [bitsIn] at hb
    rcases List.mem_cons.1 hb with h | h
    · rw [h]; exact bitAt_lt ..
    · exact ih _ b h
theorem bitsIn_snoc (bs : List Nat) (n : Nat) : ∀ (p : Nat), bitsIn bs p (n + 1) = bitsIn bs p n ++ [bitAt bs (p + n)] := by
  induction n with
  | zero => intro p; rfl
  | succ n ih => intro p; rw [bitsIn, ih, bitsIn, List.cons_append, show p + 1 + n = p + (n + 1) by omega]
theorem bitsIn_get (bs : List Nat) (n : Nat) : ∀ (p i : Nat) (h : i < (bitsIn bs p n).length), (bitsIn bs p n)[i] = bitAt bs (p + i) := by
  induction n with
  | zero => intro p i h; cases h
  | succ n ih =>
    intro p i h
    cases i with
    | zero => rfl
    | succ i =>
      simp only [bitsIn, List.getElem_cons_succ]
      rw [ih, show p + 1 + i = p + (i + 1) by omega]
/-- What lies at a place of the bits is read there. -/
theorem bitsIn_mid {l m r : List Nat} (h : Bits (l ++ m ++ r)) : bitsIn (byts (l ++ m ++ r)) l.length m.length = m := by
  refine List.ext_getElem (bitsIn_length ..) fun i h1 h2 => ?_
  rw [bitsIn_get, bitAt_byts h (by simp [nb]; omega), List.append_assoc, g_right, g_left h2, g_in h2]
/-- Behind the bits there are zeros. -/
theorem bitsIn_rest {l : List Nat} (h : Bits l) : bitsIn (byts l) l.length (8 * nb l - l.length) = List.replicate (8 * nb l - l.length) 0 := by
  refine List.ext_getElem (by rw [bitsIn_length, List.length_replicate]) fun i h1 h2 => ?_
  rw [bitsIn_length] at h1
  rw [bitsIn_get, bitAt_byts h (by omega), g_out (by omega), List.getElem_replicate]
/-- All bits of bytes. -/
def allBits (bs : List Nat) : List Nat := bitsIn bs 0 (8 * bs.length)
theorem byts_all {bs : List Nat} (h : By bs) : byts (allBits bs) = bs := by
  have hn : nb (allBits bs) = bs.length := by simp [nb, allBits, bitsIn_length]; omega
  refine List.ext_getElem (by rw [byts_length, hn]) fun i h1 h2 => ?_
  have hg : ∀ j, j < 8 → g (allBits bs) (8 * i + j) = bs[i] / 2 ^ (7 - j) % 2 := fun j hj => by
    rw [g_in (by simp [allBits, bitsIn_length]; omega)]
    unfold allBits
    rw [bitsIn_get]
    unfold bitAt
    rw [show (0 + (8 * i + j)) / 8 = i by omega, show (0 + (8 * i + j)) % 8 = j by omega, List.getD_eq_getElem?_getD, List.getElem?_eq_getElem h2]
    rfl
  have h0 := hg 0 (by omega)
  rw [Nat.add_zero] at h0
  simp only [byts, bytsN, List.getElem_map, List.getElem_range, byt]
  rw [h0, hg 1 (by omega), hg 2 (by omega), hg 3 (by omega), hg 4 (by omega), hg 5 (by omega), hg 6 (by omega), hg 7 (by omega)]
  have := h bs[i] (List.getElem_mem h2)
  simp only [Nat.reduceSub, Nat.reducePow, Nat.div_one]
  omega
end AM
end Go.Proofs.Ytlphmnhkkhcjfaa
end
