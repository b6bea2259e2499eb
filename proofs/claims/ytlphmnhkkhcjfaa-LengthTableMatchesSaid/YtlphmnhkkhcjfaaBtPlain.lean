/-
  BITS: the bits of a number, the bytes of bits; what an appended bit does to the last byte; the bit read back.
  Definitions: bits, bytes. Conditions: none.
-/
import Derived.Test.YtlphmnhkkhcjfaaASy
set_option linter.all false
section
namespace Go.Proofs.Ytlphmnhkkhcjfaa
namespace AM
open Go

def num (l : List Nat) : Nat := l.foldl (fun v b => 2 * v + b) 0
def Bits (l : List Nat) : Prop := ∀ b ∈ l, b < 2
theorem Bits.nil : Bits [] := fun b h => by cases h
theorem Bits.append {l m : List Nat} (h : Bits l) (k : Bits m) : Bits (l ++ m) := fun x hx => (List.mem_append.1 hx).elim (h x) (k x)
theorem Bits.one {b : Nat} (h : b < 2) : Bits [b] := fun x hx => by simp at hx; omega
theorem Bits.at_ {l : List Nat} (h : Bits l) (p : Nat) : l.getD p 0 < 2 := by
  rw [List.getD_eq_getElem?_getD]
  rcases Nat.lt_or_ge p l.length with hp | hp
  · rw [List.getElem?_eq_getElem hp]; exact h _ (List.getElem_mem hp)
  · rw [List.getElem?_eq_none hp]; decide
theorem Bits.zeros (n : Nat) : Bits (List.replicate n 0) := fun x hx => by rw [List.eq_of_mem_replicate hx]; decide
/-- The bits of a number, the last w of them, the greatest first. -/
def bitsAt (v : Nat) : Nat → List Nat
  | 0 => []
  | w + 1 => (v / 2 ^ w % 2) :: bitsAt v w
def g (l : List Nat) (p : Nat) : Nat := l.getD p 0
theorem g_left {l m : List Nat} {p : Nat} (h : p < l.length) : g (l ++ m) p = g l p := by
  unfold g; rw [List.getD_eq_getElem?_getD, List.getD_eq_getElem?_getD, List.getElem?_append_left h]
theorem g_right {l m : List Nat} {p : Nat} : g (l ++ m) (l.length + p) = g m p := by
  unfold g; rw [List.getD_eq_getElem?_getD, List.getD_eq_getElem?_getD, List.getElem?_append_right (by omega), Nat.add_sub_cancel_left]
theorem g_out {l : List Nat} {p : Nat} (h : l.length ≤ p) : g l p = 0 := by
  unfold g; rw [List.getD_eq_getElem?_getD, List.getElem?_eq_none h]; rfl
theorem g_lt {l : List Nat} (h : Bits l) (p : Nat) : g l p < 2 := h.at_ p
theorem g_in {l : List Nat} {p : Nat} (h : p < l.length) : g l p = l[p] := by
  unfold g; rw [List.getD_eq_getElem?_getD, List.getElem?_eq_getElem h]; rfl
/-- The byte of eight bits. -/
def byt (l : List Nat) (i : Nat) : Nat := 128 * g l (8 * i) + 64 * g l (8 * i + 1) + 32 * g l (8 * i + 2) + 16 * g l (8 * i + 3) + 8 * g l (8 * i + 4) + 4 * g l (8 * i + 5) + 2 * g l (8 * i + 6) + g l (8 * i + 7)
theorem byt_lt {l : List Nat} (h : Bits l) (i : Nat) : byt l i < 256 := by
  unfold byt
  have h0 := g_lt h (8 * i); have h1 := g_lt h (8 * i + 1); have h2 := g_lt h (8 * i + 2); have h3 := g_lt h (8 * i + 3)
  have h4 := g_lt h (8 * i + 4); have h5 := g_lt h (8 * i + 5); have h6 := g_lt h (8 * i + 6); have h7 := g_lt h (8 * i + 7)
  omega
theorem cases8 (j : Nat) (h : j < 8) : j = 0 ∨ j = 1 ∨ j = 2 ∨ j = 3 ∨ j = 4 ∨ j = 5 ∨ j = 6 ∨ j = 7 := by omega
theorem or_add (i a b : Nat) (h : b < 2 ^ i) : (2 ^ i * a) ||| b = 2 ^ i * a + b := (Nat.two_pow_add_eq_or_of_lt h a).symm
/-- The last byte, one bit more. -/
theorem byt_snoc {l : List Nat} (hl : Bits l) {b : Nat} (hb : b < 2) : byt (l ++ [b]) (l.length / 8) = byt l (l.length / 8) ||| b * 2 ^ (7 - l.length % 8) := by
  have hj : l.length % 8 < 8 := by omega
  have hd : 8 * (l.length / 8) + l.length % 8 = l.length := by omega
  generalize hi : l.length / 8 = i at hd
  generalize l.length % 8 = j at hj hd
  have hlo : ∀ t, t < j → g (l ++ [b]) (8 * i + t) = g l (8 * i + t) := fun t ht => g_left (by omega)
  have hat : g (l ++ [b]) (8 * i + j) = b := by
    rw [hd, show l.length = l.length + 0 by omega, g_right]; rfl
  have hhi : ∀ t, j < t → g (l ++ [b]) (8 * i + t) = 0 := fun t ht => g_out (by simp; omega)
  have hol : ∀ t, j ≤ t → g l (8 * i + t) = 0 := fun t ht => g_out (by omega)
  unfold byt
  rcases cases8 j hj with rfl | rfl | rfl | rfl | rfl | rfl | rfl | rfl
  · rw [show 8 * i = 8 * i + 0 by omega, hat, hol 0 (by omega), Nat.add_zero, hhi 1 (by omega), hhi 2 (by omega), hhi 3 (by omega), hhi 4 (by omega), hhi 5 (by omega), hhi 6 (by omega), hhi 7 (by omega), hol 1 (by omega), hol 2 (by omega), hol 3 (by omega), hol 4 (by omega), hol 5 (by omega), hol 6 (by omega), hol 7 (by omega)]
    simp [Nat.mul_comm]
  · have h0 := hlo 0 (by omega); rw [Nat.add_zero] at h0
    rw [h0, hat, hhi 2 (by omega), hhi 3 (by omega), hhi 4 (by omega), hhi 5 (by omega), hhi 6 (by omega), hhi 7 (by omega), hol 1 (by omega), hol 2 (by omega), hol 3 (by omega), hol 4 (by omega), hol 5 (by omega), hol 6 (by omega), hol 7 (by omega)]
    have := or_add 7 (g l (8 * i)) (b * 64) (by omega)
    simp only [Nat.reducePow, Nat.reduceSub, Nat.mul_zero, Nat.add_zero] at this ⊢
    omega
  · have h0 := hlo 0 (by omega); rw [Nat.add_zero] at h0
    rw [h0, hlo 1 (by omega), hat, hhi 3 (by omega), hhi 4 (by omega), hhi 5 (by omega), hhi 6 (by omega), hhi 7 (by omega), hol 2 (by omega), hol 3 (by omega), hol 4 (by omega), hol 5 (by omega), hol 6 (by omega), hol 7 (by omega)]
    have := or_add 6 (2 * g l (8 * i) + g l (8 * i + 1)) (b * 32) (by omega)
    rw [show 2 ^ 6 * (2 * g l (8 * i) + g l (8 * i + 1)) = 128 * g l (8 * i) + 64 * g l (8 * i + 1) + 32 * 0 + 16 * 0 + 8 * 0 + 4 * 0 + 2 * 0 + 0 by omega] at this
    simp only [Nat.reducePow, Nat.reduceSub, Nat.mul_zero, Nat.add_zero] at this ⊢
    omega
  · have h0 := hlo 0 (by omega); rw [Nat.add_zero] at h0
    rw [h0, hlo 1 (by omega), hlo 2 (by omega), hat, hhi 4 (by omega), hhi 5 (by omega), hhi 6 (by omega), hhi 7 (by omega), hol 3 (by omega), hol 4 (by omega), hol 5 (by omega), hol 6 (by omega), hol 7 (by omega)]
    have := or_add 5 (4 * g l (8 * i) + 2 * g l (8 * i + 1) + g l (8 * i + 2)) (b * 16) (by omega)
    rw [show 2 ^ 5 * (4 * g l (8 * i) + 2 * g l (8 * i + 1) + g l (8 * i + 2)) = 128 * g l (8 * i) + 64 * g l (8 * i + 1) + 32 * g l (8 * i + 2) + 16 * 0 + 8 * 0 + 4 * 0 + 2 * 0 + 0 by omega] at this
    simp only [Nat.reducePow, Nat.reduceSub, Nat.mul_zero, Nat.add_zero] at this ⊢
    omega
  · have h0 := hlo 0 (by omega); rw [Nat.add_zero] at h0
    rw [h0, hlo 1 (by omega), hlo 2 (by omega), hlo 3 (by omega), hat, hhi 5 (by omega), hhi 6 (by omega), hhi 7 (by omega), hol 4 (by omega), hol 5 (by omega), hol 6 (by omega), hol 7 (by omega)]
    have := or_add 4 (8 * g l (8 * i) + 4 * g l (8 * i + 1) + 2 * g l (8 * i + 2) + g l (8 * i + 3)) (b * 8) (by omega)
    rw [show 2 ^ 4 * (8 * g l (8 * i) + 4 * g l (8 * i + 1) + 2 * g l (8 * i + 2) + g l (8 * i + 3)) = 128 * g l (8 * i) + 64 * g l (8 * i + 1) + 32 * g l (8 * i + 2) + 16 * g l (8 * i + 3) + 8 * 0 + 4 * 0 + 2 * 0 + 0 by omega] at this
    simp only [Nat.reducePow, Nat.reduceSub, Nat.mul_zero, Nat.add_zero] at this ⊢
    omega
  · have h0 := hlo 0 (by omega); rw [Nat.add_zero] at h0
    rw [h0, hlo 1 (by omega), hlo 2 (by omega), hlo 3 (by omega), hlo 4 (by omega), hat, hhi 6 (by omega), hhi 7 (by omega), hol 5 (by omega), hol 6 (by omega), hol 7 (by omega)]
    have := or_add 3 (16 * g l (8 * i) + 8 * g l (8 * i + 1) + 4 * g l (8 * i + 2) + 2 * g l (8 * i + 3) + g l (8 * i + 4)) (b * 4) (by omega)
    rw [show 2 ^ 3 * (16 * g l (8 * i) + 8 * g l (8 * i + 1) + 4 * g l (8 * i + 2) + 2 * g l (8 * i + 3) + g l (8 * i + 4)) = 128 * g l (8 * i) + 64 * g l (8 * i + 1) + 32 * g l (8 * i + 2) + 16 * g l (8 * i + 3) + 8 * g l (8 * i + 4) + 4 * 0 + 2 * 0 + 0 by omega] at this
    simp only [Nat.reducePow, Nat.reduceSub, Nat.mul_zero, Nat.add_zero] at this ⊢
    omega
  · have h0 := hlo 0 (by omega); rw [Nat.add_zero] at h0
    rw [h0, hlo 1 (by omega), hlo 2 (by omega), hlo 3 (by omega), hlo 4 (by omega), hlo 5 (by omega), hat, hhi 7 (by omega), hol 6 (by omega), hol 7 (by omega)]
    have := or_add 2 (32 * g l (8 * i) + 16 * g l (8 * i + 1) + 8 * g l (8 * i + 2) + 4 * g l (8 * i + 3) + 2 * g l (8 * i + 4) + g l (8 * i + 5)) (b * 2) (by omega)
    rw [show 2 ^ 2 * (32 * g l (8 * i) + 16 * g l (8 * i + 1) + 8 * g l (8 * i + 2) + 4 * g l (8 * i + 3) + 2 * g l (8 * i + 4) + g l (8 * i + 5)) = 128 * g l (8 * i) + 64 * g l (8 * i + 1) + 32 * g l (8 * i + 2) + 16 * g l (8 * i + 3) + 8 * g l (8 * i + 4) + 4 * g l (8 * i + 5) + 2 * 0 + 0 by omega] at this
    simp only [Nat.reducePow, Nat.reduceSub, Nat.mul_zero, Nat.add_zero] at this ⊢
    omega
  · have h0 := hlo 0 (by omega); rw [Nat.add_zero] at h0
    rw [h0, hlo 1 (by omega), hlo 2 (by omega), hlo 3 (by omega), hlo 4 (by omega), hlo 5 (by omega), hlo 6 (by omega), hat, hol 7 (by omega)]
    have := or_add 1 (64 * g l (8 * i) + 32 * g l (8 * i + 1) + 16 * g l (8 * i + 2) + 8 * g l (8 * i + 3) + 4 * g l (8 * i + 4) + 2 * g l (8 * i + 5) + g l (8 * i + 6)) (b * 1) (by omega)
    rw [show 2 ^ 1 * (64 * g l (8 * i) + 32 * g l (8 * i + 1) + 16 * g l (8 * i + 2) + 8 * g l (8 * i + 3) + 4 * g l (8 * i + 4) + 2 * g l (8 * i + 5) + g l (8 * i + 6)) = 128 * g l (8 * i) + 64 * g l (8 * i + 1) + 32 * g l (8 * i + 2) + 16 * g l (8 * i + 3) + 8 * g l (8 * i + 4) + 4 * g l (8 * i + 5) + 2 * g l (8 * i + 6) + 0 by omega] at this
    simp only [Nat.reducePow, Nat.reduceSub, Nat.mul_zero, Nat.add_zero, Nat.mul_one] at this ⊢
    omega
def nb (l : List Nat) : Nat := (l.length + 7) / 8
def bytsN (l : List Nat) (n : Nat) : List Nat := (List.range n).map (byt l)
def byts (l : List Nat) : List Nat := bytsN l (nb l)
theorem bytsN_length (l : List Nat) (n : Nat) : (bytsN l n).length = n := by simp [bytsN]
theorem byts_length (l : List Nat) : (byts l).length = nb l := bytsN_length ..
theorem byts_by {l : List Nat} (h : Bits l) : By (byts l) := fun x hx => by
  obtain ⟨i, _, rfl⟩ := List.mem_map.1 hx
  exact byt_lt h i
theorem byt_old {l m : List Nat} {i : Nat} (h : 8 * i + 8 ≤ l.length) : byt (l ++ m) i = byt l i := by
  unfold byt
  rw [g_left (by omega), g_left (by omega), g_left (by omega), g_left (by omega), g_left (by omega), g_left (by omega), g_left (by omega), g_left (by omega)]
theorem byt_out {l : List Nat} {i : Nat} (h : l.length ≤ 8 * i) : byt l i = 0 := by
  unfold byt
  rw [g_out (by omega), g_out (by omega), g_out (by omega), g_out (by omega), g_out (by omega), g_out (by omega), g_out (by omega), g_out (by omega)]
theorem bytsN_snoc {l : List Nat} (hl : Bits l) {b : Nat} (hb : b < 2) : bytsN (l ++ [b]) (l.length / 8 + 1) = (bytsN l (l.length / 8 + 1)).set (l.length / 8) (byt l (l.length / 8) ||| b * 2 ^ (7 - l.length % 8)) := by
  refine List.ext_getElem (by simp [bytsN]) fun i h1 h2 => ?_
  rw [List.getElem_set]
  simp only [bytsN, List.getElem_map, List.getElem_range]
  by_cases h : l.length / 8 = i
  · rw [if_pos h, ← h, byt_snoc hl hb]
  · rw [if_neg h]
    simp [bytsN] at h1
    exact byt_old (by omega)
/-- A bit more in the last byte. -/
theorem byts_in {l : List Nat} (hl : Bits l) {b : Nat} (hb : b < 2) (h : l.length % 8 ≠ 0) : byts (l ++ [b]) = (byts l).set (l.length / 8) (byt l (l.length / 8) ||| b * 2 ^ (7 - l.length % 8)) := by
  unfold byts
  have h1 : nb (l ++ [b]) = l.length / 8 + 1 := by simp [nb]; omega
  have h2 : nb l = l.length / 8 + 1 := by simp [nb]; omega
  rw [h1, h2, bytsN_snoc hl hb]
/-- A bit more in a byte of its own. -/
theorem byts_more {l : List Nat} (hl : Bits l) {b : Nat} (hb : b < 2) (h : l.length % 8 = 0) : byts (l ++ [b]) = (byts l ++ [0]).set (l.length / 8) (0 ||| b * 2 ^ 7) := by
  unfold byts
  have h1 : nb (l ++ [b]) = l.length / 8 + 1 := by simp [nb]; omega
  have h2 : nb l = l.length / 8 := by simp [nb]; omega
  rw [h1, h2, bytsN_snoc hl hb, h]
  have h0 : byt l (l.length / 8) = 0 := byt_out (by omega)
  rw [h0]
  congr 1
  simp only [bytsN, List.range_succ, List.map_append, List.map_cons, List.map_nil, h0]
theorem nb_in (l : List Nat) (b : Nat) (h : l.length % 8 ≠ 0) : nb (l ++ [b]) = nb l := by simp [nb]; omega
theorem nb_more (l : List Nat) (b : Nat) (h : l.length % 8 = 0) : nb (l ++ [b]) = nb l + 1 := by simp [nb]; omega
/-- The bit at a position of bytes. -/
def bitAt (bs : List Nat) (p : Nat) : Nat := bs.getD (p / 8) 0 / 2 ^ (7 - p % 8) % 2
def bitsIn (bs : List Nat) (p : Nat) : Nat → List Nat
  | 0 => []
  | n + 1 => bitAt bs p :: bitsIn bs (p + 1) n
/-- All bits of bytes. -/
def allBits (bs : List Nat) : List Nat := bitsIn bs 0 (8 * bs.length)
end AM
end Go.Proofs.Ytlphmnhkkhcjfaa
end
