/-
  THE WALKS OF THE REFERENCE OF LAYER 4 (winepressref04): it returns what the plain functions say. Conditions: each argument is in its type's range.
-/
import Derived.Test.YteaapmfpojeibaaCrcWalks
import Derived.BigQuiet
namespace Go.Proofs.Yteaapmfpojeibaa
open Go.RowKit

theorem crcBit_even {n : Nat} (h : n % 2 = 0) : crcBit n = n / 2 := by unfold crcBit; rw [h]; simp
theorem crcBit_odd {n : Nat} (h : n % 2 = 1) : crcBit n = n / 2 ^^^ 3988292384 := by unfold crcBit; rw [h]

set_option maxRecDepth 100000 in
set_option maxHeartbeats 400000 in
theorem refRow_any (b : Nat) (w : World) (h1 : b < 256) :
    Calls Try.prog 17 #[.int .u8 b] w fun e w' => e = .returned (.int .u32 (crcRow b)) ∧ w = w' := by
  go_enter Try.func17, Try.ntmps17
  go_wp2
  go_loop [3, 4] (fun c i => ∃ k n : Nat, k ≤ 8 ∧ i = .int .i64 k ∧ n < 4294967296 ∧ c = .int .u32 n ∧ Hid (crcIter (8 - k) n = crcRow b)) (fun _ i => 8 - (intOf i).toNat)
  case atStart => exact ⟨0, b, by omega, rfl, by omega, rfl, rfl⟩
  case round =>
    obtain ⟨k, n, hk, rfl, hn, rfl, hc⟩ := hrel
    by_cases hlt : k < 8
    · have hstep : Hid (crcIter (8 - (k + 1)) (crcBit n) = crcRow b) := by
        have := hc.out
        rw [show 8 - k = (8 - (k + 1)) + 1 by omega, crcIter] at this
        exact this
      have hl := crcBit_lt hn
      rcases Nat.mod_two_eq_zero_or_one n with h2 | h2
      · have he := hide (crcBit_even h2)
        have ht : ((n : Int) % 2 == 1) = false := beq_eq_false_iff_ne.2 (by omega)
        clear h2
        go_wp2
        go_round
        case rel => exact ⟨k + 1, crcBit n, by omega, by go_num, hl, by rw [he.out]; exact congrArg (Value.int .u32) (by omega), hstep⟩
        case measure => simp [intOf]; omega
      · have he := hide (crcBit_odd h2)
        have hx := hide (u32_xor_nat (n / 2) 3988292384 (by omega) (by omega))
        have ht : ((n : Int) % 2 == 1) = true := beq_iff_eq.2 (by omega)
        clear h2
        go_wp2
        go_round
        case rel => exact ⟨k + 1, crcBit n, by omega, by go_num, hl, by rw [he.out]; exact congrArg (Value.int .u32) hx.out, hstep⟩
        case measure => simp [intOf]; omega
    · go_wp2
      go_ret
      have := hc.out
      rw [show 8 - k = 0 by omega, crcIter] at this
      exact ⟨ret_int (by rw [this]), rfl⟩

set_option maxHeartbeats 400000 in
theorem refStep_any (c b : Nat) (w : World) (hc : c < 4294967296) (hb : b < 256) :
    Calls Try.prog 19 #[.int .u32 c, .int .u8 b] w fun e w' => e = .returned (.int .u32 (crcStep c b)) ∧ w = w' := by
  have hi := crcIdx_lt (c := c) hb
  have H1 := hide (crcIdx_ops c b hb)
  go_enter Try.func19, Try.ntmps19
  go_wp2_with fail
  rw [H1.out]
  refine (refRow_any _ _ hi).mono ?_
  rintro e w' ⟨rfl, rfl⟩
  go_wp2_with fail
  go_ret
  exact ⟨ret_int (crcStep_ops c b hc hb), rfl⟩

theorem crcNot' (c : Nat) (h : c < 4294967296) : bits .xor .u32 (c : Int) 4294967295 = ((4294967295 - c : Nat) : Int) := by
  rw [show (4294967295 : Int) = ((4294967295 : Nat) : Int) from rfl, u32_xor_nat _ _ h (by omega), Nat.xor_comm, not32 c h]

set_option maxRecDepth 100000 in
set_option maxHeartbeats 400000 in
theorem refFeed_any (c : Nat) (A : Option Addr) (ps : List (List Nat)) (cap : Nat) (w : World) (hc : c < 4294967296) (hP : Pieces w A ps) (hn : ps.length ≤ maxLen) :
    Calls Try.prog 23 #[.int .u32 c, .slice A ps.length cap] w fun e w' => e = .returned (.int .u32 (crcFeed c ps.flatten)) ∧ w = w' := by
  unfold maxLen at hn
  go_enter Try.func23, Try.ntmps23
  go_wp2_with fail
  rw [crcNot' c hc]
  go_loop [0, 5] (fun r i => ∃ k n : Nat, k ≤ ps.length ∧ i = .int .i64 k ∧ n < 4294967296 ∧ r = .int .u32 n ∧ Hid (n = crcRun (4294967295 - c) (ps.take k).flatten)) (fun _ i => ps.length - (intOf i).toNat)
  case atStart => exact ⟨0, 4294967295 - c, by omega, rfl, by omega, rfl, by show _ = _; simp [crcRun]⟩
  case round =>
    obtain ⟨k, n, hk, rfl, hn', rfl, hr⟩ := hrel
    by_cases hlt : k < ps.length
    · obtain ⟨ad, B, c2, rfl, hcell, hat, hl, hm, h8⟩ := hP k ps[k] (List.getElem?_eq_getElem hlt)
      have hfl := hide (take_flat hlt)
      generalize ps[k] = p at *
      unfold maxLen at hm
      clear hP
      go_wp2_with fail
      go_loop [0, 6] (fun r i => ∃ j m : Nat, j ≤ p.length ∧ i = .int .i64 j ∧ m < 4294967296 ∧ r = .int .u32 m ∧ Hid (m = crcRun n (p.take j))) (fun _ i => p.length - (intOf i).toNat)
      case atStart => exact ⟨0, n, by omega, rfl, hn', rfl, by show _ = _; simp [crcRun]⟩
      case round =>
        obtain ⟨j, m, hj, rfl, hm', rfl, hr2⟩ := hrel
        by_cases hlt2 : j < p.length
        · obtain ⟨ad2, rfl, hc2⟩ := hat.u8 hlt2
          have hb8 : p[j] < 256 := h8 _ (List.getElem_mem hlt2)
          have htk := hide (take_one hlt2)
          generalize p[j] = b at *
          have hsl := crcStep_lt hm' hb8
          clear h8 hat
          go_wp2_with fail
          refine (refStep_any m b _ hm' hb8).mono ?_
          rintro e w' ⟨rfl, rfl⟩
          go_wp2_with fail
          go_round
          case rel =>
            refine ⟨j + 1, crcStep m b, by omega, by go_num, hsl, rfl, ?_⟩
            show _ = _
            rw [htk.out, crcRun_snoc, ← hr2.out]
          case measure => simp [intOf]; omega
        · obtain rfl : j = p.length := by omega
          go_wp2_with fail
          go_round
          case rel =>
            refine ⟨k + 1, m, by omega, by go_num, hm', rfl, ?_⟩
            show _ = _
            rw [hfl.out, crcRun_append, ← hr.out, hr2.out, List.take_length]
          case measure => simp [intOf]; omega
    · obtain rfl : k = ps.length := by omega
      go_wp2_with fail
      go_ret
      refine ⟨ret_int ?_, rfl⟩
      rw [crcNot' n hn', crcFeed, hr.out, List.take_length]

set_option maxHeartbeats 400000 in
theorem refOf_any (A : Option Addr) (ps : List (List Nat)) (cap : Nat) (w : World) (hP : Pieces w A ps) (hn : ps.length ≤ maxLen) :
    Calls Try.prog 21 #[.slice A ps.length cap] w fun e w' => e = .returned (.int .u32 (crcFeed 0 ps.flatten)) ∧ w = w' := by
  go_enter Try.func21, Try.ntmps21
  go_wp2_with fail
  refine (refFeed_any 0 A ps cap w (by omega) hP hn).mono ?_
  rintro e w1 ⟨rfl, rfl⟩
  go_wp2_with fail
  go_ret
  exact ⟨rfl, rfl⟩

set_option maxRecDepth 100000 in
set_option maxHeartbeats 400000 in
theorem refPut_any (c : Nat) (w : World) (hc : c < 4294967296) :
    Calls Try.prog 25 #[.int .u32 c] w fun e w' => e = .returned (.slice (some ⟨w.heap.size, 0, none⟩) 4 4) ∧ w.alloc (.cells (u8s (crcPut c)).toArray 5) = w' := by
  have he := hide (put_ends c)
  go_enter Try.func25, Try.ntmps25
  go_wp2
  go_ret
  exact ⟨rfl, by rw [he.out]⟩

set_option maxRecDepth 100000 in
set_option maxHeartbeats 400000 in
theorem refTake_any (A : Option Addr) (l : List Nat) (cap : Nat) (w : World) (hA : At w A (u8s l)) (h8 : ∀ b ∈ l, b < 256) (hn : l.length ≤ cap) (_hm : cap ≤ maxLen) :
    Calls Try.prog 16 #[.slice A l.length cap] w fun e w' => e = .returned (.tuple #[.int .u32 (crcTake l).1, .bool (crcTake l).2]) ∧ Below w.heap.size w w' := by
  unfold maxLen at _hm
  by_cases h4 : l.length < 4
  · rw [crcTake_short l h4]
    go_enter Try.func16, Try.ntmps16
    go_wp2
    go_ret2
    exact ⟨rfl, Below.refl _ _⟩
  · obtain ⟨b0, b1, b2, b3, r, rfl⟩ := four_of l h4
    obtain ⟨ad, rfl, hc0⟩ := hA 0 _ rfl
    obtain ⟨ad', e1, hc1⟩ := hA 1 _ rfl
    injection e1 with e1; subst e1
    obtain ⟨ad', e1, hc2⟩ := hA 2 _ rfl
    injection e1 with e1; subst e1
    obtain ⟨ad', e1, hc3⟩ := hA 3 _ rfl
    injection e1 with e1; subst e1
    rw [add0] at hc0
    rw [addN _ _ (by omega)] at hc1 hc2 hc3
    have k0 : b0 < 256 := h8 _ (by simp)
    have k1 : b1 < 256 := h8 _ (by simp)
    have k2 : b2 < 256 := h8 _ (by simp)
    have k3 : b3 < 256 := h8 _ (by simp)
    have hl : 4 ≤ (b0 :: b1 :: b2 :: b3 :: r).length := by simp
    unfold crcTake
    generalize (b0 :: b1 :: b2 :: b3 :: r).length = n at *
    clear hA h8
    have i0 : (0 : Int) < n := by omega
    have i1 : (1 : Int) < n := by omega
    have i2 : (2 : Int) < n := by omega
    have i3 : (3 : Int) < n := by omega
    go_enter Try.func16, Try.ntmps16
    go_wp2_with fail
    go_quiet (fail)
    go_wp2_with fail
    go_ret2
    refine ⟨?_, below_drewN _ _⟩
    show Ending.returned (.tuple #[.int .u32 _, .bool true]) = _
    rw [show ((b0 * 16777216 + b1 * 65536 + b2 * 256 + b3 : Nat) : Int) = (b0 : Int) * 16777216 + (b1 : Int) * 65536 + (b2 : Int) * 256 + (b3 : Int) by omega]

/-- It returns some bool. -/
def SomeBool (w : World) (e : Ending) (w' : World) : Prop := ∃ g : Bool, e = .returned (.bool g) ∧ w = w'

set_option maxRecDepth 100000 in
set_option maxHeartbeats 1000000 in
theorem refGreat_any (A : Option Addr) (ps : List (List Nat)) (cap : Nat) (w : World) (hP : Pieces w A ps) (hn : ps.length ≤ maxLen) :
    Calls Try.prog 12 #[.slice A ps.length cap] w (SomeBool w) := by
  unfold maxLen at hn
  go_enter Try.func12, Try.ntmps12
  go_wp2_with fail
  go_loop [3, 4] (fun n i => ∃ k m : Nat, k ≤ ps.length ∧ i = .int .i64 k ∧ m ≤ 7000 ∧ n = .int .i64 m) (fun _ i => ps.length - (intOf i).toNat)
  case atStart => exact ⟨0, 0, by omega, rfl, by omega, rfl⟩
  case round =>
    obtain ⟨k, m, hk, rfl, hm, rfl⟩ := hrel
    by_cases hlt : k < ps.length
    · obtain ⟨ad, B, c2, rfl, hcell, hat, hl, hmm, h8⟩ := hP k ps[k] (List.getElem?_eq_getElem hlt)
      generalize ps[k] = p at *
      unfold maxLen at hmm
      clear hP h8 hat
      by_cases h60 : k ≤ 60
      · by_cases h3 : m ≤ 3000
        · go_wp2_with fail
          all_goals
            go_round
            case rel => (refine ⟨k + 1, m + min p.length 4000, by omega, by go_num, by omega, ?_⟩; apply congrArg; first | (split <;> omega) | omega)
            case measure => simp [intOf]; omega
        · go_wp2_with fail
          all_goals
            go_ret
            exact ⟨_, rfl, rfl⟩
      · go_wp2_with fail
        all_goals
          go_ret
          exact ⟨_, rfl, rfl⟩
    · obtain rfl : k = ps.length := by omega
      go_wp2_with fail
      all_goals
        go_ret
        exact ⟨_, rfl, rfl⟩

end Go.Proofs.Yteaapmfpojeibaa
