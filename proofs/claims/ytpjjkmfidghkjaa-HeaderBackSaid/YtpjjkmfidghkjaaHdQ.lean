/-
  HEADERS: the plain laws of markers. Conditions: none.
-/
import Derived.Test.YtpjjkmfidghkjaaHdP
set_option linter.all false
namespace Go.Proofs.Ytpjjkmfidghkjaa
namespace VarA
open Go Go.RowKit AM ArEnv

/-- What comes behind a number. -/
def mThen (n : Int) (f : Int → MS) : Int × Option (List Nat) × Int → MS × Option (List Nat) × Int
  | (x, some r, _) => mTake n (f x) r
  | (_, none, e) => (mNone, none, e)
theorem mstep_go {n : Int} {t : MS} {c : Nat} (hv : mValid n t = true) (h4 : ¬ t.a = 4) (h6 : ¬ t.a = 6) : mStep n t c = if (mGo n t c).2 = false then (mNone, false, 242) else ((mGo n t c).1, decide ((mGo n t c).1.a = 4 ∨ (mGo n t c).1.a = 6), 0) := by
  unfold mStep
  rw [if_neg (by rw [hv]; simp [h4, h6])]
theorem mvalid_n0 {n : Int} (hn : inR n 1 65536 = true) : mValid n mNone = true := by simp [mValid, hn, mRight, mNone]
theorem mstep_00 {n : Int} (hn : inR n 1 65536 = true) : mStep n mNone 0 = (⟨5, 0, 0, 0, 0, 0, 0⟩, false, 0) := by
  rw [mstep_go (mvalid_n0 hn) (by decide) (by decide)]; rfl
theorem mstep_01 {n : Int} (hn : inR n 1 65536 = true) : mStep n mNone 1 = (⟨1, 0, 0, 0, 0, 0, 0⟩, false, 0) := by
  rw [mstep_go (mvalid_n0 hn) (by decide) (by decide)]; rfl
theorem mstep_0n {n : Int} {c : Nat} (hn : inR n 1 65536 = true) (hc : ¬ c ≤ 1) : mStep n mNone c = (mNone, false, 242) := by
  rw [mstep_go (mvalid_n0 hn) (by decide) (by decide)]
  have : (mGo n mNone c).2 = false := by simp [mGo, mNone]; omega
  rw [if_pos this]
theorem mgo_1 {n v k m p y : Int} {s c : Nat} : mGo n ⟨1, v, k, m, p, s, y⟩ c = (if (gStep v k c n).2.2.1 = true then ⟨2, 0, 0, (gStep v k c n).1, 0, 0, 0⟩ else ⟨1, (gStep v k c n).1, (gStep v k c n).2.1, m, p, s, y⟩, (gStep v k c n).2.2.2) := by
  unfold mGo; rw [if_neg (by simp), if_pos rfl]
theorem mgo_2 {n v k m p y : Int} {s c : Nat} : mGo n ⟨2, v, k, m, p, s, y⟩ c = (if (gStep v k c m).2.2.1 = true then ⟨3, 0, 0, m, (gStep v k c m).1, 0, 0⟩ else ⟨2, (gStep v k c m).1, (gStep v k c m).2.1, m, p, s, y⟩, (gStep v k c m).2.2.2) := by
  unfold mGo; rw [if_neg (by simp), if_neg (by simp), if_pos rfl]
theorem mgo_3 {n a v k m p y : Int} {s c : Nat} (h0 : ¬ a = 0) (h1 : ¬ a = 1) (h2 : ¬ a = 2) : mGo n ⟨a, v, k, m, p, s, y⟩ c = (⟨if y + 1 = 4 then a + 1 else a, v, k, m, p, s * 256 + c, y + 1⟩, true) := by
  unfold mGo; rw [if_neg h0, if_neg h1, if_neg h2]
theorem mstep_1 {n v k : Int} {c : Nat} (hn : inR n 1 65536 = true) (hv : comes v k n = true) : mStep n ⟨1, v, k, 0, 0, 0, 0⟩ c = if (gStep v k c n).2.2.2 = false then (mNone, false, 242) else if (gStep v k c n).2.2.1 = true then (⟨2, 0, 0, (gStep v k c n).1, 0, 0, 0⟩, false, 0) else (⟨1, (gStep v k c n).1, (gStep v k c n).2.1, 0, 0, 0, 0⟩, false, 0) := by
  rw [mstep_go (by simp [mValid, hn, mRight, hv]) (by simp) (by simp)]
  rw [mgo_1]
  simp only []
  split
  · rfl
  · split <;> simp
theorem mstep_2 {n v k m : Int} {c : Nat} (hn : inR n 1 65536 = true) (hm : inR m 1 n = true) (hv : comes v k m = true) : mStep n ⟨2, v, k, m, 0, 0, 0⟩ c = if (gStep v k c m).2.2.2 = false then (mNone, false, 242) else if (gStep v k c m).2.2.1 = true then (⟨3, 0, 0, m, (gStep v k c m).1, 0, 0⟩, false, 0) else (⟨2, (gStep v k c m).1, (gStep v k c m).2.1, m, 0, 0, 0⟩, false, 0) := by
  rw [mstep_go (by simp [mValid, hn, mRight, hv, hm]) (by simp) (by simp)]
  rw [mgo_2]
  simp only []
  split
  · rfl
  · split <;> simp
theorem m_num1 {n : Int} (hn : inR n 1 65536 = true) : ∀ (l : List Nat) (v k : Int), By l → comes v k n = true → mTake n ⟨1, v, k, 0, 0, 0, 0⟩ l = mThen n (fun x => ⟨2, 0, 0, x, 0, 0, 0⟩) (gTake n v k l)
  | [], v, k, hb, hv => rfl
  | c :: l, v, k, hb, hv => by
    have hv1 : vValid v k = true := by simp only [comes, Bool.and_eq_true] at hv; exact hv.1
    rw [mTake, gTake, mstep_1 hn hv]
    rcases gstep_cases (most := n) hv1 hb.head with h | ⟨h1, h2, h3, h⟩ | ⟨h1, h2, h3, h, h5⟩
    · simp [h, mThen]
    · simp [h, mThen]
    · simp only [h, Bool.true_eq_false, Bool.false_eq_true, if_false, if_true]
      exact m_num1 hn l _ _ hb.tail (by simp [comes, h5, h3])
theorem m_num2 {n m : Int} (hn : inR n 1 65536 = true) (hm : inR m 1 n = true) : ∀ (l : List Nat) (v k : Int), By l → comes v k m = true → mTake n ⟨2, v, k, m, 0, 0, 0⟩ l = mThen n (fun x => ⟨3, 0, 0, m, x, 0, 0⟩) (gTake m v k l)
  | [], v, k, hb, hv => rfl
  | c :: l, v, k, hb, hv => by
    have hv1 : vValid v k = true := by simp only [comes, Bool.and_eq_true] at hv; exact hv.1
    rw [mTake, gTake, mstep_2 hn hm hv]
    rcases gstep_cases (most := m) hv1 hb.head with h | ⟨h1, h2, h3, h⟩ | ⟨h1, h2, h3, h, h5⟩
    · simp [h, mThen]
    · simp [h, mThen]
    · simp only [h, Bool.true_eq_false, Bool.false_eq_true, if_false, if_true]
      exact m_num2 hn hm l _ _ hb.tail (by simp [comes, h5, h3])
/-- Where a checksum is read. -/
def Base (n a m p : Int) : Prop := (a = 3 ∧ inR m 1 n = true ∧ inR p 1 m = true) ∨ (a = 5 ∧ m = 0 ∧ p = 0)
theorem mvalid_sum {n a m p y : Int} {s : Nat} (hn : inR n 1 65536 = true) (hb : Base n a m p) (hs : sums s y = true) : mValid n ⟨a, 0, 0, m, p, s, y⟩ = true := by
  rcases hb with ⟨rfl, h1, h2⟩ | ⟨rfl, rfl, rfl⟩
  · simp [mValid, hn, mRight, h1, h2, hs]
  · simp [mValid, hn, mRight, hs]
theorem mstep_sum {n a m p y : Int} {s c : Nat} (hn : inR n 1 65536 = true) (hb : Base n a m p) (hs : sums s y = true) : mStep n ⟨a, 0, 0, m, p, s, y⟩ c = (⟨if y + 1 = 4 then a + 1 else a, 0, 0, m, p, s * 256 + c, y + 1⟩, decide (y + 1 = 4), 0) := by
  have ha : a = 3 ∨ a = 5 := by rcases hb with ⟨h, _⟩ | ⟨h, _⟩ <;> simp [h]
  rw [mstep_go (mvalid_sum hn hb hs) (by show ¬ a = 4; omega) (by show ¬ a = 6; omega)]
  rw [mgo_3 (by omega) (by omega) (by omega)]
  simp only [Bool.true_eq_false, if_false, Prod.mk.injEq, true_and, and_true]
  rw [decide_eq_decide]
  split <;> omega
theorem mss_lt {n a m p y : Int} {s c : Nat} (hn : inR n 1 65536 = true) (hb : Base n a m p) (hs : sums s y = true) (h : ¬ y + 1 = 4) : mStep n ⟨a, 0, 0, m, p, s, y⟩ c = (⟨a, 0, 0, m, p, s * 256 + c, y + 1⟩, false, 0) := by
  rw [mstep_sum hn hb hs, if_neg h, decide_eq_false h]
theorem mss_4 {n a m p y : Int} {s c : Nat} (hn : inR n 1 65536 = true) (hb : Base n a m p) (hs : sums s y = true) (h : y + 1 = 4) : mStep n ⟨a, 0, 0, m, p, s, y⟩ c = (⟨a + 1, 0, 0, m, p, s * 256 + c, y + 1⟩, true, 0) := by
  rw [mstep_sum hn hb hs, if_pos h, decide_eq_true h]
theorem sums_ok {s : Nat} {y : Int} (h0 : 0 ≤ y) (h3 : y ≤ 3) (hs : s < 256 ^ y.toNat) : sums s y = true := by simp [sums, inR, h0, h3, hs]
theorem m_sum4 {n a m p : Int} {c1 c2 c3 c4 : Nat} {r : List Nat} (hn : inR n 1 65536 = true) (hb : Base n a m p) (h1 : c1 < 256) (h2 : c2 < 256) (h3 : c3 < 256) :
    mTake n ⟨a, 0, 0, m, p, 0, 0⟩ (c1 :: c2 :: c3 :: c4 :: r) = (⟨a + 1, 0, 0, m, p, ((c1 * 256 + c2) * 256 + c3) * 256 + c4, 4⟩, some r, 0) := by
  have s0 : sums 0 0 = true := by decide
  have s1 : sums (0 * 256 + c1) 1 = true := sums_ok (by omega) (by omega) (by show _ < 256; omega)
  have s2 : sums ((0 * 256 + c1) * 256 + c2) 2 = true := sums_ok (by omega) (by omega) (by show _ < 65536; omega)
  have s3 : sums (((0 * 256 + c1) * 256 + c2) * 256 + c3) 3 = true := sums_ok (by omega) (by omega) (by show _ < 16777216; omega)
  have e0 : mStep n ⟨a, 0, 0, m, p, 0, 0⟩ c1 = (⟨a, 0, 0, m, p, 0 * 256 + c1, 1⟩, false, 0) := mss_lt hn hb s0 (by decide)
  have e1 : mStep n ⟨a, 0, 0, m, p, 0 * 256 + c1, 1⟩ c2 = (⟨a, 0, 0, m, p, (0 * 256 + c1) * 256 + c2, 2⟩, false, 0) := mss_lt hn hb s1 (by decide)
  have e2 : mStep n ⟨a, 0, 0, m, p, (0 * 256 + c1) * 256 + c2, 2⟩ c3 = (⟨a, 0, 0, m, p, ((0 * 256 + c1) * 256 + c2) * 256 + c3, 3⟩, false, 0) := mss_lt hn hb s2 (by decide)
  have e3 : mStep n ⟨a, 0, 0, m, p, ((0 * 256 + c1) * 256 + c2) * 256 + c3, 3⟩ c4 = (⟨a + 1, 0, 0, m, p, (((0 * 256 + c1) * 256 + c2) * 256 + c3) * 256 + c4, 4⟩, true, 0) := mss_4 hn hb s3 (by decide)
  rw [mTake, e0]
  simp only [if_true, Bool.false_eq_true, if_false]
  rw [mTake, e1]
  simp only [if_true, Bool.false_eq_true, if_false]
  rw [mTake, e2]
  simp only [if_true, Bool.false_eq_true, if_false]
  rw [mTake, e3]
  simp only [if_true, Nat.zero_mul, Nat.zero_add]
theorem m_sum_short {n a m p : Int} {l : List Nat} (hn : inR n 1 65536 = true) (hb : Base n a m p) (hl : By l) (h4 : l.length < 4) :
    mTake n ⟨a, 0, 0, m, p, 0, 0⟩ l = (mNone, none, 50) := by
  have s0 : sums 0 0 = true := by decide
  match l, hl, h4 with
  | [], _, _ => rfl
  | [c1], hl, _ =>
    have e0 : mStep n ⟨a, 0, 0, m, p, 0, 0⟩ c1 = (⟨a, 0, 0, m, p, 0 * 256 + c1, 1⟩, false, 0) := mss_lt hn hb s0 (by decide)
    rw [mTake, e0]; rfl
  | [c1, c2], hl, _ =>
    have h1 := hl.head
    have s1 : sums (0 * 256 + c1) 1 = true := sums_ok (by omega) (by omega) (by show _ < 256; omega)
    have e0 : mStep n ⟨a, 0, 0, m, p, 0, 0⟩ c1 = (⟨a, 0, 0, m, p, 0 * 256 + c1, 1⟩, false, 0) := mss_lt hn hb s0 (by decide)
    have e1 : mStep n ⟨a, 0, 0, m, p, 0 * 256 + c1, 1⟩ c2 = (⟨a, 0, 0, m, p, (0 * 256 + c1) * 256 + c2, 2⟩, false, 0) := mss_lt hn hb s1 (by decide)
    rw [mTake, e0]
    simp only [if_true, Bool.false_eq_true, if_false]
    rw [mTake, e1]; rfl
  | [c1, c2, c3], hl, _ =>
    have h1 := hl.head
    have h2 := hl.tail.head
    have s1 : sums (0 * 256 + c1) 1 = true := sums_ok (by omega) (by omega) (by show _ < 256; omega)
    have s2 : sums ((0 * 256 + c1) * 256 + c2) 2 = true := sums_ok (by omega) (by omega) (by show _ < 65536; omega)
    have e0 : mStep n ⟨a, 0, 0, m, p, 0, 0⟩ c1 = (⟨a, 0, 0, m, p, 0 * 256 + c1, 1⟩, false, 0) := mss_lt hn hb s0 (by decide)
    have e1 : mStep n ⟨a, 0, 0, m, p, 0 * 256 + c1, 1⟩ c2 = (⟨a, 0, 0, m, p, (0 * 256 + c1) * 256 + c2, 2⟩, false, 0) := mss_lt hn hb s1 (by decide)
    have e2 : mStep n ⟨a, 0, 0, m, p, (0 * 256 + c1) * 256 + c2, 2⟩ c3 = (⟨a, 0, 0, m, p, ((0 * 256 + c1) * 256 + c2) * 256 + c3, 3⟩, false, 0) := mss_lt hn hb s2 (by decide)
    rw [mTake, e0]
    simp only [if_true, Bool.false_eq_true, if_false]
    rw [mTake, e1]
    simp only [if_true, Bool.false_eq_true, if_false]
    rw [mTake, e2]; rfl
theorem be_sum {s : Nat} (hs : s < 4294967296) : ((s / 16777216 % 256 * 256 + s / 65536 % 256) * 256 + s / 256 % 256) * 256 + s % 256 = s := by omega
theorem m_be {n a m p : Int} {s : Nat} (r : List Nat) (hn : inR n 1 65536 = true) (hb : Base n a m p) (hs : s < 4294967296) : mTake n ⟨a, 0, 0, m, p, 0, 0⟩ (be s ++ r) = (⟨a + 1, 0, 0, m, p, s, 4⟩, some r, 0) := by
  have := m_sum4 (c1 := s / 16777216 % 256) (c2 := s / 65536 % 256) (c3 := s / 256 % 256) (c4 := s % 256) (r := r) hn hb (by omega) (by omega) (by omega)
  rw [be_sum hs] at this
  exact this
theorem m_start1 {n : Int} (hn : inR n 1 65536 = true) {l : List Nat} (hb : By l) : mTake n mNone (1 :: l) = mThen n (fun x => ⟨2, 0, 0, x, 0, 0, 0⟩) (gTake n 0 0 l) := by
  rw [mTake, mstep_01 hn, ← m_num1 hn l 0 0 hb (comes_zero (by rw [inR_true] at hn; omega))]
  rfl
theorem m_start0 {n : Int} (hn : inR n 1 65536 = true) (l : List Nat) : mTake n mNone (0 :: l) = mTake n ⟨5, 0, 0, 0, 0, 0, 0⟩ l := by
  rw [mTake, mstep_00 hn]
  rfl
theorem m_back {n : Int} {m p s : Nat} (hn : inR n 1 65536 = true) (hm : 1 ≤ m ∧ (m : Int) ≤ n) (hp : 1 ≤ p ∧ p ≤ m) (hs : s < 4294967296) {l : List Nat} (hb : By l) : mTake n mNone (blockOf m p s ++ l) = (⟨4, 0, 0, m, p, s, 4⟩, some l, 0) := by
  rw [inR_true] at hn
  obtain ⟨N, rfl⟩ : ∃ N : Nat, n = N := ⟨n.toNat, by omega⟩
  have hn' : inR N 1 65536 = true := inR_true.2 hn
  have e : blockOf m p s ++ l = 1 :: (enc m ++ (enc p ++ (be s ++ l))) := by simp [blockOf]
  have him : inR m 1 N = true := inR_true.2 (by omega)
  have hip : inR p 1 m = true := inR_true.2 (by omega)
  rw [e, m_start1 hn' ((enc_by m).append ((enc_by p).append ((be_by s).append hb))), g_back (most := N) (by omega) hm.1 (by omega), mThen, m_num2 hn' him _ 0 0 ((enc_by p).append ((be_by s).append hb)) (comes_zero (by omega)), g_back (most := m) (by omega) hp.1 hp.2, mThen]
  exact m_be l hn' (.inl ⟨rfl, him, hip⟩) hs
theorem m_back_end {n : Int} {s : Nat} (hn : inR n 1 65536 = true) (hs : s < 4294967296) (l : List Nat) : mTake n mNone (endOf s ++ l) = (⟨6, 0, 0, 0, 0, s, 4⟩, some l, 0) := by
  rw [show endOf s ++ l = 0 :: (be s ++ l) from rfl, m_start0 hn]
  exact m_be l hn (.inr ⟨rfl, rfl, rfl⟩) hs
theorem m_short {n : Int} {m p s : Nat} (hn : inR n 1 65536 = true) (hm : 1 ≤ m ∧ (m : Int) ≤ n) (hp : 1 ≤ p ∧ p ≤ m) : mTake n mNone ((blockOf m p s).take ((blockOf m p s).length - 1)) = (mNone, none, 50) := by
  rw [inR_true] at hn
  obtain ⟨N, rfl⟩ : ∃ N : Nat, n = N := ⟨n.toNat, by omega⟩
  have hn' : inR N 1 65536 = true := inR_true.2 hn
  have hb3 : By ((be s).take 3) := (be_by s).take 3
  have e : (blockOf m p s).take ((blockOf m p s).length - 1) = 1 :: (enc m ++ (enc p ++ (be s).take 3)) := by
    have : blockOf m p s = (1 :: (enc m ++ (enc p ++ (be s).take 3))) ++ [s % 256] := by simp [blockOf, be]
    rw [this, List.length_append, List.length_singleton, Nat.add_sub_cancel, List.take_left']
    rfl
  have him : inR m 1 N = true := inR_true.2 (by omega)
  have hip : inR p 1 m = true := inR_true.2 (by omega)
  rw [e, m_start1 hn' ((enc_by m).append ((enc_by p).append hb3)), g_back (most := N) (by omega) hm.1 (by omega), mThen, m_num2 hn' him _ 0 0 ((enc_by p).append hb3) (comes_zero (by omega)), g_back (most := m) (by omega) hp.1 hp.2, mThen]
  exact m_sum_short hn' (.inl ⟨rfl, him, hip⟩) hb3 (by simp [be])
theorem m_short_end {n : Int} {s : Nat} (hn : inR n 1 65536 = true) : mTake n mNone ((endOf s).take 4) = (mNone, none, 50) := by
  rw [show (endOf s).take 4 = 0 :: (be s).take 3 from rfl, m_start0 hn]
  exact m_sum_short hn (.inr ⟨rfl, rfl, rfl⟩) ((be_by s).take 3) (by simp [be])
/-- A checksum from any bytes. -/
theorem m_sum_any {n a m p : Int} {l : List Nat} (hn : inR n 1 65536 = true) (hb : Base n a m p) (hl : By l) :
    (∃ s r, s < 4294967296 ∧ l = be s ++ r ∧ mTake n ⟨a, 0, 0, m, p, 0, 0⟩ l = (⟨a + 1, 0, 0, m, p, s, 4⟩, some r, 0)) ∨ mTake n ⟨a, 0, 0, m, p, 0, 0⟩ l = (mNone, none, 50) := by
  by_cases h4 : l.length < 4
  · exact .inr (m_sum_short hn hb hl h4)
  · match l, hl, h4 with
    | c1 :: c2 :: c3 :: c4 :: r, hl, _ =>
      have h1 := hl.head
      have h2 := hl.tail.head
      have h3 := hl.tail.tail.head
      have h5 := hl.tail.tail.tail.head
      refine .inl ⟨((c1 * 256 + c2) * 256 + c3) * 256 + c4, r, by omega, ?_, m_sum4 hn hb h1 h2 h3⟩
      simp only [be, List.cons_append, List.nil_append, List.cons.injEq, and_true]
      omega
    | [], _, h => simp at h
    | [_], _, h => simp at h
    | [_, _], _, h => simp at h
    | [_, _, _], _, h => simp at h
theorem m_only {n : Int} {l : List Nat} (hn : inR n 1 65536 = true) (hb : By l) :
    (∃ m p s : Nat, ∃ r : List Nat, (1 ≤ m ∧ (m : Int) ≤ n) ∧ (1 ≤ p ∧ p ≤ m) ∧ s < 4294967296 ∧ l = blockOf m p s ++ r ∧ mTake n mNone l = (⟨4, 0, 0, m, p, s, 4⟩, some r, 0)) ∨
    (∃ s r, s < 4294967296 ∧ l = endOf s ++ r ∧ mTake n mNone l = (⟨6, 0, 0, 0, 0, s, 4⟩, some r, 0)) ∨
    (∃ x, mTake n mNone l = (mNone, none, x) ∧ (x = 50 ∨ x = 242)) := by
  cases l with
  | nil => exact .inr (.inr ⟨50, rfl, .inl rfl⟩)
  | cons c l =>
    by_cases h0 : c = 0
    · subst h0
      rw [m_start0 hn]
      rcases m_sum_any (n := n) (a := 5) (m := 0) (p := 0) hn (.inr ⟨rfl, rfl, rfl⟩) hb.tail with ⟨s, r, g1, g2, g3⟩ | g
      · exact .inr (.inl ⟨s, r, g1, by rw [g2]; rfl, g3⟩)
      · exact .inr (.inr ⟨50, g, .inl rfl⟩)
    by_cases h1 : c = 1
    · subst h1
      rw [m_start1 hn hb.tail]
      rcases g_only0 (most := n) hb.tail with ⟨m, r, g1, g2, g3, g4⟩ | ⟨x, g1, g2⟩
      · rw [g1, mThen]
        have hbr : By r := by
          have := hb.tail
          rw [g4] at this
          exact fun x hx => this x (by simp [hx])
        have him : inR m 1 n = true := inR_true.2 (by omega)
        rw [m_num2 hn him r 0 0 hbr (comes_zero (by omega))]
        rcases g_only0 (most := (m : Int)) hbr with ⟨p, q, f1, f2, f3, f4⟩ | ⟨x, f1, f2⟩
        · rw [f1, mThen]
          have hbq : By q := by
            rw [f4] at hbr
            exact fun x hx => hbr x (by simp [hx])
          have hip : inR p 1 m = true := inR_true.2 (by omega)
          rcases m_sum_any (n := n) (a := 3) (m := m) (p := p) hn (.inl ⟨rfl, him, hip⟩) hbq with ⟨s, r', e1, e2, e3⟩ | e
          · exact .inl ⟨m, p, s, r', ⟨g2, g3⟩, ⟨f2, by omega⟩, e1, by rw [g4, f4, e2]; simp [blockOf], e3⟩
          · exact .inr (.inr ⟨50, e, .inl rfl⟩)
        · rw [f1, mThen]; exact .inr (.inr ⟨x, rfl, f2⟩)
      · rw [g1, mThen]; exact .inr (.inr ⟨x, rfl, g2⟩)
    · refine .inr (.inr ⟨242, ?_, .inr rfl⟩)
      rw [mTake, mstep_0n hn (by omega)]
      rfl
/-- With fewer bytes: too short, or the same error. -/
theorem m_prefix {n : Int} : ∀ (l : List Nat) (i : Nat) (t : MS), (mTake n t (l.take i)).2.2 = 50 ∨ ((mTake n t (l.take i)).2.2 = (mTake n t l).2.2)
  | [], i, t => by rw [List.take_nil]; exact .inr rfl
  | c :: l, 0, t => .inl rfl
  | c :: l, i + 1, t => by
    rw [List.take_succ_cons, mTake, mTake]
    split
    · split
      · exact .inr rfl
      · exact m_prefix l i _
    · exact .inr rfl
/-- A step leads to a valid state. -/
theorem mstep_valid {n : Int} {t : MS} {c : Nat} (hc : c < 256) (h : (mStep n t c).2.2 = 0) : mValid n (mStep n t c).1 = true := by
  obtain ⟨a, v, k, m, p, s, y⟩ := t
  cases hv : mValid n ⟨a, v, k, m, p, s, y⟩ with
  | false => unfold mStep at h; rw [if_pos (.inl hv)] at h; simp at h
  | true =>
    by_cases h46 : a = 4 ∨ a = 6
    · unfold mStep at h; rw [if_pos (.inr h46)] at h; simp at h
    have hv' := hv
    simp only [mValid, Bool.and_eq_true] at hv'
    obtain ⟨hn, hr⟩ := hv'
    by_cases h0 : a = 0
    · subst h0
      have e : (⟨0, v, k, m, p, s, y⟩ : MS) = mNone := by simp [mRight] at hr; simp [mNone, hr]
      rw [e] at h ⊢
      by_cases hc0 : c = 0
      · subst hc0; rw [mstep_00 hn]; simp [mValid, hn, mRight]; decide
      by_cases hc1 : c = 1
      · subst hc1; rw [mstep_01 hn]; simp [mValid, hn, mRight]; exact comes_zero (by rw [inR_true] at hn; omega)
      · rw [mstep_0n hn (by omega)] at h; simp at h
    by_cases h1 : a = 1
    · subst h1
      simp [mRight] at hr
      obtain ⟨hcm, rfl, rfl, rfl, rfl⟩ := hr
      have hv1 : vValid v k = true := by simp only [comes, Bool.and_eq_true] at hcm; exact hcm.1
      rw [mstep_1 hn hcm] at h ⊢
      rcases gstep_cases (most := n) hv1 hc with g | ⟨h1, h2, h3, g⟩ | ⟨h1, h2, h3, g, h5⟩
      · rw [if_pos g] at h; simp at h
      · simp [g, mValid, hn, mRight, inR_true, comes_zero (show (0 : Int) ≤ v * 128 + c by omega)]; omega
      · simp [g, mValid, hn, mRight, comes, h5, h3]
    by_cases h2 : a = 2
    · subst h2
      simp [mRight] at hr
      obtain ⟨⟨him, hcm⟩, rfl, rfl, rfl⟩ := hr
      have hv1 : vValid v k = true := by simp only [comes, Bool.and_eq_true] at hcm; exact hcm.1
      rw [mstep_2 hn him hcm] at h ⊢
      rcases gstep_cases (most := m) hv1 hc with g | ⟨h1, h2, h3, g⟩ | ⟨h1, h2, h3, g, h5⟩
      · rw [if_pos g] at h; simp at h
      · simp [g, mValid, hn, mRight, him, sums, inR_true]; omega
      · simp [g, mValid, hn, mRight, comes, h5, h3, him]
    have hb : Base n a m p ∧ v = 0 ∧ k = 0 ∧ sums s y = true := by
      by_cases h3 : a = 3
      · subst h3; simp [mRight] at hr; exact ⟨.inl ⟨rfl, hr.1.1.1, hr.1.1.2⟩, hr.2.1, hr.2.2, hr.1.2⟩
      by_cases h5 : a = 5
      · subst h5; simp [mRight] at hr; exact ⟨.inr ⟨rfl, hr.2.2.2.1, hr.2.2.2.2⟩, hr.2.1, hr.2.2.1, hr.1⟩
      · simp only [mRight] at hr
        rw [if_neg h0, if_neg h1, if_neg h2, if_neg h3, if_neg (by omega), if_neg h5, if_neg (by omega)] at hr
        cases hr
    obtain ⟨hb, rfl, rfl, hs⟩ := hb
    rw [mstep_sum hn hb hs]
    have hs' := hs
    simp only [sums, Bool.and_eq_true, inR_true, decide_eq_true_eq] at hs'
    by_cases h4 : y + 1 = 4
    · rw [if_pos h4, h4]
      rcases hb with ⟨rfl, b1, b2⟩ | ⟨rfl, rfl, rfl⟩
      · simp [mValid, hn, mRight, b1, b2]
      · simp [mValid, hn, mRight]
    · rw [if_neg h4]
      refine mvalid_sum hn hb (sums_ok (by omega) (by omega) ?_)
      rw [show (y + 1).toNat = y.toNat + 1 by omega, Nat.pow_succ]
      omega
end VarA
end Go.Proofs.Ytpjjkmfidghkjaa
