/-
  CRC-32, THE PLAIN PART OF CrcBurst: a change within four bytes in a row changes the checksum. Conditions: none.
-/
import Derived.Test.YteaapmfpojeibaaCrcPlain
namespace Go.Proofs.Yteaapmfpojeibaa
open Go

theorem crcBit_zero {x : Nat} (h : x < 4294967296) (hz : crcBit x = 0) : x = 0 := by
  unfold crcBit at hz
  rcases Nat.mod_two_eq_zero_or_one x with h2 | h2
  · rw [h2] at hz
    simp at hz
    omega
  · rw [h2] at hz
    have e : (x / 2 ^^^ 3988292384 * 1).testBit 31 = true := by
      rw [Nat.testBit_xor, Nat.testBit_lt_two_pow (show x / 2 < 2 ^ 31 by omega)]
      decide
    rw [hz] at e
    simp at e
theorem crcIter_zero : ∀ (k : Nat) {x : Nat}, x < 4294967296 → crcIter k x = 0 → x = 0
  | 0, _, _, h => h
  | k + 1, _, hx, h => crcBit_zero hx (crcIter_zero k (crcBit_lt hx) h)
theorem crcBit_double (m : Nat) : crcBit (2 * m) = m := by
  unfold crcBit
  rw [show 2 * m % 2 = 0 by omega, show 2 * m / 2 = m by omega]
  simp
theorem crcIter_shift : ∀ (k m : Nat), crcIter k (2 ^ k * m) = m
  | 0, m => by simp [crcIter]
  | k + 1, m => by
    rw [crcIter, show 2 ^ (k + 1) * m = 2 * (2 ^ k * m) by rw [Nat.pow_succ]; rw [Nat.mul_comm (2 ^ k) 2, Nat.mul_assoc], crcBit_double, crcIter_shift k]
theorem join8 (y m : Nat) (h : y < 256) : y ^^^ (256 * m) = y + 256 * m := by
  have h1 : (y ^^^ (256 * m)) % 256 = y := by
    rw [show (y ^^^ (256 * m)) % 256 = (y % 256) ^^^ ((256 * m) % 256) from Nat.xor_mod_two_pow (n := 8)]
    rw [Nat.mod_eq_of_lt h, Nat.mul_mod_right, Nat.xor_zero]
  have h2 : (y ^^^ (256 * m)) / 256 = m := by
    rw [show (y ^^^ (256 * m)) / 256 = (y / 256) ^^^ ((256 * m) / 256) from Nat.xor_div_two_pow (n := 8)]
    rw [Nat.div_eq_of_lt h, Nat.zero_xor]
    omega
  omega
/-- A step by the byte 0 is eight steps of a bit. -/
theorem crcStep_iter (x : Nat) : crcStep x 0 = crcIter 8 x := by
  have e : x = (x % 256) ^^^ (256 * (x / 256)) := by
    rw [join8 _ _ (by omega)]; omega
  unfold crcStep
  conv => rhs; rw [e]
  rw [crcIter_xor, show (256 : Nat) = 2 ^ 8 from rfl, crcIter_shift, Nat.xor_zero]
  rfl
theorem crcStep_into (c y : Nat) (h : y < 256) : crcStep c y = crcIter 8 (c ^^^ y) := by
  rw [← crcStep_iter]
  unfold crcStep
  rw [show (c ^^^ y) % 256 = (c % 256) ^^^ (y % 256) from Nat.xor_mod_two_pow (n := 8), show (c ^^^ y) / 256 = (c / 256) ^^^ (y / 256) from Nat.xor_div_two_pow (n := 8),
    Nat.mod_eq_of_lt h, Nat.div_eq_of_lt h, Nat.xor_zero, Nat.xor_zero]
/-- The bytes as one number, the first one lowest. -/
def le : List Nat → Nat
  | [] => 0
  | y :: l => y + 256 * le l
def zIter : Nat → Nat → Nat
  | 0, c => c
  | k + 1, c => zIter k (crcIter 8 c)
theorem zIter_zero : ∀ (k : Nat) {x : Nat}, x < 4294967296 → zIter k x = 0 → x = 0
  | 0, _, _, h => h
  | k + 1, _, hx, h => crcIter_zero 8 hx (zIter_zero k (crcIter_lt 8 hx) h)
theorem crcRun_word : ∀ (l : List Nat) (c : Nat), (∀ y ∈ l, y < 256) → crcRun c l = zIter l.length (c ^^^ le l)
  | [], c, _ => by simp [crcRun, zIter, le]
  | y :: l, c, h => by
    show crcRun (crcStep c y) l = zIter l.length (crcIter 8 (c ^^^ (y + 256 * le l)))
    rw [crcRun_word l _ (fun x hx => h x (by simp [hx])), crcStep_into c y (h y (by simp)), ← join8 y _ (h y (by simp)), ← Nat.xor_assoc, crcIter_xor 8 (c ^^^ y), show (256 : Nat) = 2 ^ 8 from rfl, crcIter_shift]
theorem le_lt : ∀ (l : List Nat), (∀ y ∈ l, y < 256) → le l < 256 ^ l.length
  | [], _ => by simp [le]
  | y :: l, h => by
    have h1 := le_lt l fun x hx => h x (by simp [hx])
    have h2 := h y (by simp)
    simp only [le, List.length_cons, Nat.pow_succ]
    omega
theorem le_zero : ∀ (l : List Nat), le l = 0 → ∀ y ∈ l, y = 0
  | [], _, y, hy => by simp at hy
  | x :: l, h, y, hy => by
    simp only [le] at h
    rcases List.mem_cons.1 hy with rfl | hy
    · omega
    · exact le_zero l (by omega) y hy
theorem crcRun_zeros : ∀ (k c : Nat), c < 4294967296 → (crcRun c (List.replicate k 0) = 0 ↔ c = 0)
  | 0, c, _ => by simp [crcRun]
  | k + 1, c, h => by
    show crcRun (crcStep c 0) (List.replicate k 0) = 0 ↔ _
    rw [crcRun_zeros k _ (crcStep_lt h (by omega)), crcStep_iter]
    exact ⟨crcIter_zero 8 h, fun e => by subst e; decide⟩
/-- A change within four bytes: e is the change. -/
theorem crcRun_burst (k r : Nat) (y : List Nat) (h4 : y.length ≤ 4) (h : ∀ x ∈ y, x < 256) : crcRun 0 (List.replicate k 0 ++ (y ++ List.replicate r 0)) = 0 ↔ ∀ x ∈ y, x = 0 := by
  have h0 : crcRun 0 (List.replicate k 0) = 0 := (crcRun_zeros k 0 (by omega)).2 rfl
  have hl := le_lt y h
  have hp : 256 ^ y.length ≤ 256 ^ 4 := Nat.pow_le_pow_right (by omega) h4
  have hle : le y < 4294967296 := Nat.lt_of_lt_of_le hl hp
  have hr : crcRun 0 y < 4294967296 := crcRun_lt y (by omega) h
  rw [crcRun_append, h0, crcRun_append, crcRun_zeros r _ hr, crcRun_word y 0 h, Nat.zero_xor]
  constructor
  · intro e
    exact le_zero y (zIter_zero _ hle e)
  · intro e
    have hz : le y = 0 := by
      clear hl hp hle hr h h4
      induction y with
      | nil => rfl
      | cons a l ih =>
        simp only [le]
        have := e a (by simp)
        have := ih (fun x hx => e x (by simp [hx]))
        omega
    rw [hz]
    clear hz hl hp hle hr e h h4
    generalize y.length = n
    induction n with
    | zero => rfl
    | succ n ih => rw [zIter, show crcIter 8 0 = 0 by decide]; exact ih
theorem zx_zero : ∀ (b : List Nat), zx b (List.replicate b.length 0) = b
  | [] => rfl
  | x :: b => by
    show (x ^^^ 0) :: zx b (List.replicate b.length 0) = _
    rw [zx_zero b, Nat.xor_zero]
theorem burst_get (b y : List Nat) (p i r j : Nat) (hj : j < b.length) (hy : i ≤ y.length) (hl : b.length = (List.replicate p 0 ++ (y.take i ++ List.replicate r 0)).length) :
    (zx b (List.replicate p 0 ++ (y.take i ++ List.replicate r 0)))[j]? = some (if p ≤ j ∧ j < p + i then b.getD j 0 ^^^ y.getD (j - p) 0 else b.getD j 0) := by
  have hti : (y.take i).length = i := by rw [List.length_take]; omega
  have hbj : b.getD j 0 = b[j] := by rw [List.getD, List.getElem?_eq_getElem hj]; rfl
  have key : (List.replicate p 0 ++ (y.take i ++ List.replicate r 0))[j]? = some (if p ≤ j ∧ j < p + i then y.getD (j - p) 0 else 0) := by
    simp only [List.length_append, List.length_replicate, hti] at hl
    rcases Nat.lt_or_ge j p with h1 | h1
    · rw [List.getElem?_append_left (by simpa using h1), List.getElem?_replicate, if_pos h1, if_neg (by omega)]
    · rw [List.getElem?_append_right (by simpa using h1), List.length_replicate]
      rcases Nat.lt_or_ge j (p + i) with h2 | h2
      · rw [List.getElem?_append_left (by omega), List.getElem?_take, if_pos (by omega), if_pos ⟨h1, h2⟩, List.getD, List.getElem?_eq_getElem (by omega)]; rfl
      · rw [List.getElem?_append_right (by omega), List.getElem?_replicate, if_pos (by omega), if_neg (by omega)]
  unfold zx
  rw [List.getElem?_zipWith, List.getElem?_eq_getElem hj, key, hbj]
  by_cases hc : p ≤ j ∧ j < p + i
  · simp [hc]
  · rw [if_neg hc, if_neg hc]; simp
/-- **THE PLAIN LAW.** -/
theorem crcBurst_plain (b e : List Nat) (hbe : b.length = e.length) (hb : ∀ x ∈ b, x < 256) (he : ∀ x ∈ e, x < 256) : crcFeed 0 (zx b e) = crcFeed 0 b ↔ crcRun 0 e = 0 := by
  rw [crcFeed_not 0 b hb, crcFeed_not 0 _ (zx_lt hb he)]
  have h1 := crcRun_xor b e 4294967295 0 hbe
  rw [Nat.xor_zero] at h1
  rw [show 4294967295 - 0 = 4294967295 from rfl, h1]
  generalize crcRun 4294967295 b = r
  generalize crcRun 0 e = s
  constructor
  · intro h
    have h2 : r ^^^ s = r := by
      have := congrArg (fun z => 4294967295 ^^^ z) h
      simpa [← Nat.xor_assoc] using this
    have := congrArg (fun z => r ^^^ z) h2
    simpa [← Nat.xor_assoc] using this
  · rintro rfl
    rw [Nat.xor_zero]

end Go.Proofs.Yteaapmfpojeibaa
