/-
  CRC-32, THE PLAIN PART: what the functions compute, as functions on numbers. Conditions: none; nothing of the program is imported but words for memory.
-/
import Derived.Laws.BitsAllLaws
import Derived.Test.YteaapmfpojeibaaMem
namespace Go.Proofs.Yteaapmfpojeibaa
open Go

def crcBit (c : Nat) : Nat := (c / 2) ^^^ (3988292384 * (c % 2))
def crcIter : Nat → Nat → Nat
  | 0, c => c
  | k + 1, c => crcIter k (crcBit c)
def crcRow (b : Nat) : Nat := crcIter 8 b
def crcStep (c b : Nat) : Nat := crcRow ((c % 256) ^^^ b) ^^^ (c / 256)
def crcRun (c : Nat) (l : List Nat) : Nat := l.foldl crcStep c
def crcFeed (c : Nat) (l : List Nat) : Nat := 4294967295 - crcRun (4294967295 - c) l

theorem crcBit_lt {c : Nat} (h : c < 4294967296) : crcBit c < 4294967296 := by
  unfold crcBit
  have h2 : c % 2 < 2 := Nat.mod_lt _ (by omega)
  exact Nat.xor_lt_two_pow (n := 32) (by omega) (by omega)
theorem crcIter_lt : ∀ (k : Nat) {c : Nat}, c < 4294967296 → crcIter k c < 4294967296
  | 0, _, h => h
  | k + 1, _, h => crcIter_lt k (crcBit_lt h)
theorem crcRow_lt {b : Nat} (h : b < 4294967296) : crcRow b < 4294967296 := crcIter_lt 8 h
theorem crcIter_succ : ∀ (k c : Nat), crcIter (k + 1) c = crcBit (crcIter k c)
  | 0, _ => rfl
  | k + 1, c => by rw [crcIter, crcIter_succ k, ← crcIter]
theorem crcIdx_lt {c b : Nat} (hb : b < 256) : (c % 256) ^^^ b < 256 := Nat.xor_lt_two_pow (n := 8) (by omega) (by omega)
theorem crcStep_lt {c b : Nat} (hc : c < 4294967296) (hb : b < 256) : crcStep c b < 4294967296 := by
  unfold crcStep
  have := crcIdx_lt (c := c) hb
  exact Nat.xor_lt_two_pow (n := 32) (crcRow_lt (by omega)) (by omega)
theorem crcRun_lt : ∀ (l : List Nat) {c : Nat}, c < 4294967296 → (∀ b ∈ l, b < 256) → crcRun c l < 4294967296
  | [], _, h, _ => h
  | b :: l, _, h, hl => crcRun_lt l (crcStep_lt h (hl b (by simp))) fun x hx => hl x (by simp [hx])
theorem crcRun_append (c : Nat) (l m : List Nat) : crcRun c (l ++ m) = crcRun (crcRun c l) m := by simp [crcRun]
theorem crcRun_snoc (c : Nat) (l : List Nat) (b : Nat) : crcRun c (l ++ [b]) = crcStep (crcRun c l) b := by simp [crcRun]
theorem crcFeed_lt (c : Nat) (l : List Nat) : crcFeed c l < 4294967296 := by unfold crcFeed; omega
theorem crcFeed_append (c : Nat) (l m : List Nat) (hl : ∀ b ∈ l, b < 256) : crcFeed c (l ++ m) = crcFeed (crcFeed c l) m := by
  unfold crcFeed
  have h : crcRun (4294967295 - c) l < 4294967296 := crcRun_lt l (by omega) hl
  rw [crcRun_append]
  congr 2
  omega

theorem not32 (c : Nat) (h : c < 4294967296) : 4294967295 ^^^ c = 4294967295 - c := by
  apply Nat.eq_of_testBit_eq
  intro i
  have h1 : 4294967295 - c = 2 ^ 32 - (c + 1) := by omega
  have h2 : (4294967295 : Nat) = 2 ^ 32 - 1 := rfl
  rw [Nat.testBit_xor, h1, Nat.testBit_two_pow_sub_succ (by omega), h2, Nat.testBit_two_pow_sub_one]
  by_cases hi : i < 32
  · simp [hi]
  · have : c.testBit i = false := Nat.testBit_lt_two_pow (Nat.lt_of_lt_of_le h (by
      have : 2 ^ 32 ≤ 2 ^ i := Nat.pow_le_pow_right (by omega) (by omega)
      omega))
    simp [hi, this]
theorem crcNot (c : Nat) (h : c < 4294967296) : bits .xor .u32 IntKind.u32.max (c : Int) = ((4294967295 - c : Nat) : Int) := by
  have e : IntKind.u32.max = ((4294967295 : Nat) : Int) := by decide
  rw [e, u32_xor_nat _ _ (by omega) h, not32 c h]
def crcPut (c : Nat) : List Nat := [c / 16777216, c / 65536 % 256, c / 256 % 256, c % 256]
def crcTake : List Nat → Nat × Bool
  | a :: b :: c :: d :: _ => (a * 16777216 + b * 65536 + c * 256 + d, true)
  | _ => (0, false)
theorem crcPut_lt (c : Nat) (h : c < 4294967296) : ∀ b ∈ crcPut c, b < 256 := by
  intro b hb
  simp only [crcPut, List.mem_cons, List.not_mem_nil, or_false] at hb
  omega
theorem crcTake_put (c : Nat) (l : List Nat) : crcTake (crcPut c ++ l) = (c, true) := by
  have e : c / 16777216 * 16777216 + c / 65536 % 256 * 65536 + c / 256 % 256 * 256 + c % 256 = c := by omega
  show (c / 16777216 * 16777216 + c / 65536 % 256 * 65536 + c / 256 % 256 * 256 + c % 256, true) = (c, true)
  rw [e]
theorem take_flat {ps : List (List Nat)} {i : Nat} (h : i < ps.length) : (ps.take (i + 1)).flatten = (ps.take i).flatten ++ ps[i] := by
  rw [List.take_succ_eq_append_getElem h, List.flatten_append, List.flatten_cons, List.flatten_nil, List.append_nil]
theorem take_one {p : List Nat} {k : Nat} (h : k < p.length) : p.take (k + 1) = p.take k ++ [p[k]] := List.take_succ_eq_append_getElem h
theorem crcIdx_ops (c b : Nat) (hb : b < 256) : bits .xor .u8 ((c : Int) % 256) (b : Int) = (((c % 256) ^^^ b : Nat) : Int) := by
  rw [show ((c : Int) % 256) = ((c % 256 : Nat) : Int) by omega, u8_xor_nat _ _ (by omega) hb]
theorem crcStep_ops (c b : Nat) (hc : c < 4294967296) (hb : b < 256) : bits .xor .u32 (crcRow ((c % 256) ^^^ b) : Int) ((c : Int) / 256) = (crcStep c b : Int) := by
  have hi := crcIdx_lt (c := c) hb
  rw [show ((c : Int) / 256) = ((c / 256 : Nat) : Int) by omega, u32_xor_nat _ _ (crcRow_lt (by omega)) (by omega)]
  rfl

theorem crcTake_short : ∀ (l : List Nat), l.length < 4 → crcTake l = (0, false)
  | [], _ => rfl
  | [_], _ => rfl
  | [_, _], _ => rfl
  | [_, _, _], _ => rfl
  | _ :: _ :: _ :: _ :: _, h => by simp at h; omega
theorem four_of : ∀ (l : List Nat), ¬ l.length < 4 → ∃ a b c d r, l = a :: b :: c :: d :: r
  | a :: b :: c :: d :: r, _ => ⟨a, b, c, d, r, rfl⟩
  | [], h => by simp at h
  | [_], h => by simp at h
  | [_, _], h => by simp at h
  | [_, _, _], h => by simp at h
theorem takeStep (c b : Nat) (hc : c < 16777216) (hb : b < 256) : bits .or .u32 ((c : Int) * 256 % 4294967296) ((b : Int) % 4294967296) = ((c * 256 + b : Nat) : Int) := by
  rw [show ((c : Int) * 256 % 4294967296) = ((c * 256 : Nat) : Int) by omega, show ((b : Int) % 4294967296) = ((b : Nat) : Int) by omega, u32_or_nat _ _ (by omega) (by omega)]
  rw [nat_join 8 (c * 256) b (by omega) (by omega)]
theorem crcTake_ops (a b c d : Nat) (ha : a < 256) (hb : b < 256) (hc : c < 256) (hd : d < 256) :
    bits .or .u32 (bits .or .u32 (bits .or .u32 (bits .or .u32 0 ((a : Int) % 4294967296) * 256 % 4294967296) ((b : Int) % 4294967296) * 256 % 4294967296) ((c : Int) % 4294967296) * 256 % 4294967296) ((d : Int) % 4294967296)
      = ((a * 16777216 + b * 65536 + c * 256 + d : Nat) : Int) := by
  have h0 := takeStep 0 a (by omega) ha
  rw [show (((0 : Nat) : Int) * 256 % 4294967296) = 0 by omega] at h0
  have e1 := takeStep (0 * 256 + a) b (by omega) hb
  have e2 := takeStep ((0 * 256 + a) * 256 + b) c (by omega) hc
  have e3 := takeStep (((0 * 256 + a) * 256 + b) * 256 + c) d (by omega) hd
  rw [h0, e1, e2, e3]
  exact congrArg (fun n : Nat => (n : Int)) (by omega)

/-- One bit's step, as the program's operations compute it. -/
theorem crcBit_ops (n : Nat) (h : n < 4294967296) : bits .xor .u32 ((n : Int) / 2) (3988292384 * bits .and .u32 (n : Int) 1 % 4294967296) = (crcBit n : Int) := by
  have h1 : bits .and .u32 (n : Int) 1 = ((n % 2 : Nat) : Int) := by
    have := u32_and_nat n 1 h (by omega)
    rw [nat_mask1] at this
    exact this
  rw [h1]
  have h2 : (3988292384 : Int) * ((n % 2 : Nat) : Int) % 4294967296 = ((3988292384 * (n % 2) : Nat) : Int) := by omega
  have h3 : ((n : Int) / 2) = ((n / 2 : Nat) : Int) := by omega
  rw [h2, h3, u32_xor_nat (n / 2) (3988292384 * (n % 2)) (by omega) (by omega)]
  rfl

/-! ### The checksum is affine -/
theorem crcBit_xor (x y : Nat) : crcBit (x ^^^ y) = crcBit x ^^^ crcBit y := by
  unfold crcBit
  rw [Nat.xor_div_two, show (x ^^^ y) % 2 = (x % 2) ^^^ (y % 2) from Nat.xor_mod_two_pow (n := 1)]
  have hx := Nat.mod_two_eq_zero_or_one x
  have hy := Nat.mod_two_eq_zero_or_one y
  rcases hx with hx | hx <;> rcases hy with hy | hy <;> rw [hx, hy] <;> simp
  · rw [Nat.xor_assoc]
  · rw [Nat.xor_assoc, Nat.xor_assoc, Nat.xor_comm (y / 2)]
  · rw [Nat.xor_assoc, Nat.xor_comm 3988292384, Nat.xor_assoc, Nat.xor_self, Nat.xor_zero]
theorem crcIter_xor : ∀ (k x y : Nat), crcIter k (x ^^^ y) = crcIter k x ^^^ crcIter k y
  | 0, _, _ => rfl
  | k + 1, x, y => by rw [crcIter, crcBit_xor, crcIter_xor k]; rfl
theorem crcRow_xor (x y : Nat) : crcRow (x ^^^ y) = crcRow x ^^^ crcRow y := crcIter_xor 8 x y
theorem xor_swap (a b c d : Nat) : (a ^^^ b) ^^^ (c ^^^ d) = (a ^^^ c) ^^^ (b ^^^ d) := by
  rw [Nat.xor_assoc, Nat.xor_assoc, ← Nat.xor_assoc b, Nat.xor_comm b c, Nat.xor_assoc]
theorem crcStep_xor (c d x y : Nat) : crcStep (c ^^^ d) (x ^^^ y) = crcStep c x ^^^ crcStep d y := by
  unfold crcStep
  rw [show (c ^^^ d) % 256 = (c % 256) ^^^ (d % 256) from Nat.xor_mod_two_pow (n := 8), show (c ^^^ d) / 256 = (c / 256) ^^^ (d / 256) from Nat.xor_div_two_pow (n := 8), xor_swap (c % 256), crcRow_xor, xor_swap]
def zx (a b : List Nat) : List Nat := List.zipWith (· ^^^ ·) a b
theorem crcRun_xor : ∀ (a b : List Nat) (c d : Nat), a.length = b.length → crcRun (c ^^^ d) (zx a b) = crcRun c a ^^^ crcRun d b
  | [], [], _, _, _ => rfl
  | [], _ :: _, _, _, h => by simp at h
  | _ :: _, [], _, _, h => by simp at h
  | x :: a, y :: b, c, d, h => by
    show crcRun (crcStep (c ^^^ d) (x ^^^ y)) (zx a b) = crcRun (crcStep c x) a ^^^ crcRun (crcStep d y) b
    rw [crcStep_xor, crcRun_xor a b _ _ (by simpa using h)]
theorem crcFeed_not (c : Nat) (l : List Nat) (h : ∀ b ∈ l, b < 256) : crcFeed c l = 4294967295 ^^^ crcRun (4294967295 - c) l := by
  rw [not32 _ (crcRun_lt l (by omega) h)]; rfl
theorem zx_length (a b : List Nat) (h : a.length = b.length) : (zx a b).length = a.length := by simp [zx, h]
theorem zx_lt {a b : List Nat} (ha : ∀ x ∈ a, x < 256) (hb : ∀ x ∈ b, x < 256) : ∀ x ∈ zx a b, x < 256 := by
  intro x hx
  obtain ⟨i, hi⟩ := List.mem_iff_getElem?.1 hx
  simp only [zx, List.getElem?_zipWith] at hi
  split at hi
  · rename_i p q h1 h2
    injection hi with hi
    subst hi
    exact Nat.xor_lt_two_pow (n := 8) (ha _ (List.mem_of_getElem? h1)) (hb _ (List.mem_of_getElem? h2))
  · cases hi
/-- **THE PLAIN LAW.** -/
theorem crcSums_plain (a b c : List Nat) (hab : a.length = b.length) (hac : a.length = c.length) (ha : ∀ x ∈ a, x < 256) (hb : ∀ x ∈ b, x < 256) (hc : ∀ x ∈ c, x < 256) :
    (crcFeed 0 a ^^^ crcFeed 0 b) ^^^ crcFeed 0 c = crcFeed 0 (zx (zx a b) c) := by
  have hd := zx_lt (zx_lt ha hb) hc
  rw [crcFeed_not 0 a ha, crcFeed_not 0 b hb, crcFeed_not 0 c hc, crcFeed_not 0 _ hd]
  have h1 := crcRun_xor (zx a b) c (4294967295 ^^^ 4294967295) 4294967295 (by rw [zx_length a b hab, hac])
  rw [crcRun_xor a b 4294967295 4294967295 hab] at h1
  rw [show (4294967295 ^^^ 4294967295) ^^^ 4294967295 = 4294967295 by decide] at h1
  rw [show 4294967295 - 0 = 4294967295 from rfl, h1, xor_swap 4294967295 (crcRun 4294967295 a), Nat.xor_self, Nat.zero_xor, ← Nat.xor_assoc, Nat.xor_comm _ 4294967295, Nat.xor_assoc]

def crcTab : List Nat := (List.range 256).map crcRow
def crcTabV : Array Value := (u32s crcTab).toArray
def crcZero : Array Value := Array.replicate 256 (.int .u32 0)
theorem crcTabV_size : crcTabV.size = 256 := by simp [crcTabV, u32s, crcTab]
theorem crcZero_size : crcZero.size = 256 := by simp [crcZero]
theorem crcTabV_get {i : Nat} (h : i < 256) : crcTabV[i]? = some (.int .u32 (crcRow i : Int)) := by simp [crcTabV, u32s, crcTab, h]
theorem crcTabV_one : crcTabV.all (·.oneCell') = true := by
  rw [Array.all_eq_true_iff_forall_mem]
  intro v hv
  simp [crcTabV, u32s] at hv
  obtain ⟨b, _, rfl⟩ := hv
  rfl
theorem crcTabV_of {cs : Array Value} (hs : cs.size = 256) (h : ∀ j, j < 256 → cs[j]? = some (.int .u32 (crcRow j : Int))) : cs = crcTabV := by
  apply Array.ext_getElem?
  intro i
  by_cases hi : i < 256
  · rw [h i hi, crcTabV_get hi]
  · rw [Array.getElem?_eq_none (by omega), Array.getElem?_eq_none (by rw [crcTabV_size]; omega)]

end Go.Proofs.Yteaapmfpojeibaa
