/-
  THE WALKS OF PACKAGE kraft: each function returns what the plain functions say. Conditions: each argument is in its type's range.
-/
import Derived.Test.YteaapmfpojeibaaProg
import Derived.Test.YteaapmfpojeibaaMem
import Derived.Test.YteaapmfpojeibaaKraftPlain
import Derived.WalkSpells
import Derived.WalkLawsBesides
namespace Go.Proofs.Yteaapmfpojeibaa
open Go.RowKit

set_option maxHeartbeats 400000 in
theorem share_any (n : Nat) (w : World) (h : n < 256) :
    Calls Try.prog 41 #[.int .u8 n] w fun e w' => e = .returned (.int .i64 (kShare n)) ∧ w = w' := by
  by_cases h0 : n = 0
  · subst h0
    go_enter Try.func41, Try.ntmps41
    go_wp2
    go_ret
    exact ⟨rfl, rfl⟩
  · have h0' : ((n : Int) == 0) = false := beq_eq_false_iff_ne.2 (by omega)
    by_cases h15 : 15 < n
    · have hs := hide (show kShare n = 32769 by unfold kShare; rw [if_neg h0, if_pos h15])
      go_enter Try.func41, Try.ntmps41
      go_wp2
      go_ret
      exact ⟨ret_int (by rw [hs.out]; rfl), rfl⟩
    · have hs := hide (show kShare n = 32768 / 2 ^ n by unfold kShare; rw [if_neg h0, if_neg h15])
      go_enter Try.func41, Try.ntmps41
      go_wp2
      go_ret
      exact ⟨ret_int (by rw [hs.out]; simp), rfl⟩

theorem size_lens : (Try.prog.info? 45).map (·.size) = some 258 := by kernel_rfl
theorem size_u8 : (Try.prog.info? 5).map (·.size) = some 1 := by kernel_rfl
theorem u8a_size (l : List Nat) : (u8s l).toArray.size = l.length := by simp [u8s]
theorem u8a_get {l : List Nat} {i : Nat} (h : i < l.length) : (u8s l).toArray[i]? = some (.int .u8 (l[i] : Int)) := by simp [u8s, h]

set_option maxRecDepth 100000 in
set_option maxHeartbeats 400000 in
theorem kSum_any (l : List Nat) (w : World) (hl : l.length = 258) (h8 : ∀ b ∈ l, b < 256) :
    Calls Try.prog 28 #[.agg (u8s l).toArray] w fun e w' => e = .returned (.int .i64 (kSum l)) ∧ Below w.heap.size w w' := by
  have Hl := hide hl
  have hi := hide (show (Try.prog.info? 45).map (·.size) = some (u8s l).toArray.size by rw [u8a_size, hl]; exact size_lens)
  clear hl
  go_enter Try.func28, Try.ntmps28
  go_wp2_with (refine wpList_load_box rfl 45 _ rfl w.heap.size rfl 45 (u8s l).toArray (Box.new _ _ _) Try.underlying45 hi.out ?_)
  have hb0 := below_new w (.cells (u8s l).toArray 45)
  generalize w.alloc (.cells (u8s l).toArray 45) = w0 at *
  go_loop [2, 6] (fun s i => ∃ k : Nat, k ≤ 258 ∧ i = .int .i64 k ∧ s = .int .i64 (kSum (l.take k) : Nat)) (fun _ i => 258 - (intOf i).toNat)
  case atStart => exact ⟨0, by omega, rfl, rfl⟩
  case round =>
    obtain ⟨k, hk, rfl, rfl⟩ := hrel
    by_cases hlt : k < 258
    · have hkl : k < l.length := by rw [Hl.out]; exact hlt
      have hix := run_index_arr (P := Try.prog) Try.underlying45 Try.underlying5 size_u8 k hlt _ (u8a_get hkl)
      have h8k : l[k] < 256 := h8 _ (List.getElem_mem hkl)
      have hst := hide (kSum_take hkl)
      have hle : kSum (l.take k) ≤ 32769 * 258 := Nat.le_trans (kSum_le _) (Nat.mul_le_mul_left _ (by rw [List.length_take]; omega))
      have hsl := kShare_le l[k]
      generalize l[k] = b at *
      go_wp2_with fail
      refine (share_any b _ h8k).mono ?_
      rintro e w' ⟨rfl, rfl⟩
      go_wp2_with fail
      go_round
      case rel => exact ⟨k + 1, by omega, by go_num, by rw [hst.out]; exact congrArg (Value.int .i64) (by omega)⟩
      case measure => simp [intOf]; omega
    · obtain rfl : k = 258 := by omega
      have hfin := hide (show l.take 258 = l from List.take_of_length_le (by rw [Hl.out]; omega))
      go_wp2_with fail
      go_ret
      exact ⟨by rw [hfin.out]; rfl, hb0⟩

set_option maxRecDepth 100000 in
set_option maxHeartbeats 400000 in
theorem kFits_any (l : List Nat) (w : World) (hl : l.length = 258) (h8 : ∀ b ∈ l, b < 256) :
    Calls Try.prog 29 #[.agg (u8s l).toArray] w fun e w' => e = .returned (.bool (kFits l)) ∧ Below w.heap.size w w' := by
  have hi := hide (show (Try.prog.info? 45).map (·.size) = some (u8s l).toArray.size by rw [u8a_size, hl]; exact size_lens)
  have Hl := hide hl
  clear hl
  go_enter Try.func29, Try.ntmps29
  go_wp2_with (first
    | (refine wpList_load_box rfl 45 _ rfl w.heap.size rfl 45 (u8s l).toArray (Box.new _ _ _) Try.underlying45 hi.out ?_
       have hb0 := below_new w (.cells (u8s l).toArray 45)
       have hx0 := Box.new w 45 (u8s l).toArray
       generalize w.alloc (.cells (u8s l).toArray 45) = w0 at *))
  refine (kSum_any l _ Hl.out h8).mono ?_
  rintro e w1 ⟨rfl, hb1⟩
  go_wp2_with fail
  go_ret
  refine ⟨ret_bool ?_, below_then hb0 hb1⟩
  unfold kFits
  rw [decide_eq_decide]
  omega

set_option maxRecDepth 100000 in
set_option maxHeartbeats 400000 in
theorem kComplete_any (l : List Nat) (w : World) (hl : l.length = 258) (h8 : ∀ b ∈ l, b < 256) :
    Calls Try.prog 30 #[.agg (u8s l).toArray] w fun e w' => e = .returned (.bool (kComplete l)) ∧ Below w.heap.size w w' := by
  have hi := hide (show (Try.prog.info? 45).map (·.size) = some (u8s l).toArray.size by rw [u8a_size, hl]; exact size_lens)
  have Hl := hide hl
  clear hl
  go_enter Try.func30, Try.ntmps30
  go_wp2_with (first
    | (refine wpList_load_box rfl 45 _ rfl w.heap.size rfl 45 (u8s l).toArray (Box.new _ _ _) Try.underlying45 hi.out ?_
       have hb0 := below_new w (.cells (u8s l).toArray 45)
       have hx0 := Box.new w 45 (u8s l).toArray
       generalize w.alloc (.cells (u8s l).toArray 45) = w0 at *))
  refine (kSum_any l _ Hl.out h8).mono ?_
  rintro e w1 ⟨rfl, hb1⟩
  go_wp2_with fail
  go_ret
  refine ⟨ret_bool ?_, below_then hb0 hb1⟩
  unfold kComplete
  rw [Bool.eq_iff_iff, beq_iff_eq, beq_iff_eq]
  omega

set_option maxRecDepth 100000 in
set_option maxHeartbeats 400000 in
theorem kTable_any (l : List Nat) (w : World) (hl : l.length = 258) (h8 : ∀ b ∈ l, b < 256) :
    Calls Try.prog 31 #[.agg (u8s l).toArray] w fun e w' => e = .returned (.bool (kTable l)) ∧ Below w.heap.size w w' := by
  have hi := hide (show (Try.prog.info? 45).map (·.size) = some (u8s l).toArray.size by rw [u8a_size, hl]; exact size_lens)
  have Hl := hide hl
  clear hl
  go_enter Try.func31, Try.ntmps31
  go_wp2_with (first
    | (refine wpList_load_box rfl 45 _ rfl w.heap.size rfl 45 (u8s l).toArray (Box.new _ _ _) Try.underlying45 hi.out ?_
       have hb0 := below_new w (.cells (u8s l).toArray 45)
       have hx0 := Box.new w 45 (u8s l).toArray
       generalize w.alloc (.cells (u8s l).toArray 45) = w0 at *))
  refine (kComplete_any l _ Hl.out h8).mono ?_
  rintro e w1 ⟨rfl, hb1⟩
  have hc := (hx0.keep hb1).cell 257
  rw [u8a_get (by rw [Hl.out]; omega)] at hc
  have hg := hide (show l.getD 257 0 = l[257]'(by rw [Hl.out]; omega) by rw [List.getD, List.getElem?_eq_getElem (by rw [Hl.out]; omega)]; rfl)
  generalize (l[257]'(by rw [Hl.out]; omega)) = b at *
  have hb2 := below_then hb0 hb1
  clear hx0 hb0 hb1
  cases hk : kComplete l
  · go_wp2_with fail
    go_ret
    refine ⟨ret_bool ?_, hb2⟩
    unfold kTable
    rw [hk]; rfl
  · go_wp2_with fail
    go_ret
    refine ⟨ret_bool ?_, hb2⟩
    unfold kTable
    rw [hk, hg.out, Bool.true_and, decide_eq_decide]

theorem size_hist : (Try.prog.info? 47).map (·.size) = some 258 := by kernel_rfl
theorem size_i64 : (Try.prog.info? 3).map (·.size) = some 1 := by kernel_rfl
theorem zero_c16 (w : World) : (zeroValue 51).run Try.prog w = .ok (.agg (kCountsV [])) w := by kernel_rfl
theorem size_c16 : (Try.prog.info? 51).map (·.size) = some 16 := by kernel_rfl

set_option maxRecDepth 100000 in
set_option maxHeartbeats 400000 in
theorem valid_any (t : List Int) (w : World) (hl : t.length = 258) (h8 : ∀ b ∈ t, -9223372036854775808 ≤ b ∧ b ≤ 9223372036854775807) :
    Calls Try.prog 42 #[.agg (i64s t).toArray] w fun e w' => e = .returned (.bool (hValid t)) ∧ Below w.heap.size w w' := by
  have Hl := hide hl
  have hi := hide (show (Try.prog.info? 47).map (·.size) = some (i64s t).toArray.size by rw [i64a_size, hl]; exact size_hist)
  clear hl
  go_enter Try.func42, Try.ntmps42
  go_wp2_with (refine wpList_load_box rfl 47 _ rfl w.heap.size rfl 47 (i64s t).toArray (Box.new _ _ _) Try.underlying47 hi.out ?_)
  have hb0 := below_new w (.cells (i64s t).toArray 47)
  generalize w.alloc (.cells (i64s t).toArray 47) = w0 at *
  go_loop [6] (fun i => ∃ k : Nat, k ≤ 258 ∧ i = .int .i64 k ∧ Hid (hValid (t.take k) = true)) (fun i => 258 - (intOf i).toNat)
  case atStart => exact ⟨0, by omega, rfl, by simp [Hid, hValid]⟩
  case round =>
    obtain ⟨k, hk, rfl, hv⟩ := hrel
    by_cases hlt : k < 258
    · have hkl : k < t.length := by rw [Hl.out]; exact hlt
      have hix := run_index_arr (P := Try.prog) Try.underlying47 Try.underlying3 size_i64 k hlt _ (i64a_get hkl)
      have h8k := h8 _ (List.getElem_mem hkl)
      have hst := hide (hValid_take hkl)
      have hbad := hide (hValid_bad hkl)
      generalize t[k] = b at *
      by_cases hn : b < 0
      · go_wp2_with fail
        go_ret
        exact ⟨ret_bool (by rw [hbad.out (.inl hn)]), hb0⟩
      · by_cases hn2 : 2147483647 < b
        · go_wp2_with fail
          go_ret
          exact ⟨ret_bool (by rw [hbad.out (.inr hn2)]), hb0⟩
        · go_wp2_with fail
          go_round
          case rel => exact ⟨k + 1, by omega, by go_num, by show _ = _; rw [hst.out, hv.out]; simp; omega⟩
          case measure => simp [intOf]; omega
    · obtain rfl : k = 258 := by omega
      have hfin := hide (show t.take 258 = t from List.take_of_length_le (by rw [Hl.out]; omega))
      go_wp2_with fail
      go_ret
      exact ⟨ret_bool (by rw [← hfin.out, hv.out]), hb0⟩

set_option maxRecDepth 100000 in
set_option maxHeartbeats 400000 in
theorem kCounts_any (l : List Nat) (w : World) (hl : l.length = 258) (h8 : ∀ b ∈ l, b < 256) :
    Calls Try.prog 33 #[.agg (u8s l).toArray] w fun e w' => e = .returned (.agg (kCountsV l)) ∧ Below w.heap.size w w' := by
  have Hl := hide hl
  have hi := hide (show (Try.prog.info? 45).map (·.size) = some (u8s l).toArray.size by rw [u8a_size, hl]; exact size_lens)
  clear hl
  have hz := zero_c16
  go_enter Try.func33, Try.ntmps33
  go_wp2_with (first
    | (refine wpList_load_box rfl 45 _ rfl w.heap.size rfl 45 (u8s l).toArray ((Box.new _ _ _).alloc _) Try.underlying45 hi.out ?_))
  have hb0 := (below_new w (.cells (u8s l).toArray 45)).alloc (by simp) (.cells (kCountsV []) 51)
  have hx0 := Box.new (w.alloc (.cells (u8s l).toArray 45)) 51 (kCountsV [])
  clear hz
  generalize (w.alloc (.cells (u8s l).toArray 45)).alloc (.cells (kCountsV []) 51) = w0 at *
  simp only [size_alloc] at hx0
  have hg1 : w.heap.size ≤ w.heap.size + 1 := by omega
  generalize w.heap.size + 1 = g at *
  go_loopw [6] (fun i wr => ∃ (k : Nat) (cs : Array Value), k ≤ 258 ∧ i = .int .i64 k ∧ Box wr g 51 cs ∧ Hid (cs.size = 16) ∧ Hid (∀ j, j < 16 → cs[j]? = some (.int .i64 ((l.take k).count j : Nat))) ∧ Below w.heap.size w wr) (fun i _ => 258 - (intOf i).toNat)
  case atStart => exact ⟨0, kCountsV [], by omega, rfl, hx0, kCountsV_size _, fun j hj => kCountsV_get [] hj, hb0⟩
  case round =>
    obtain ⟨k, cs, hk, rfl, hbx, hs, hj, hb⟩ := hrel
    clear hx0 hb0
    by_cases hlt : k < 258
    · have hkl : k < l.length := by rw [Hl.out]; exact hlt
      have hix := run_index_arr (P := Try.prog) Try.underlying45 Try.underlying5 size_u8 k hlt _ (u8a_get hkl)
      have h8k : l[k] < 256 := h8 _ (List.getElem_mem hkl)
      have hct := hide (fun j => count_take hkl j)
      have hle : ∀ j, (l.take k).count j ≤ 258 := fun j => Nat.le_trans List.count_le_length (by rw [List.length_take]; omega)
      generalize l[k] = b at *
      by_cases h16 : b < 16
      · have hcell : wr.cell? ⟨g, b, none⟩ = some (.int .i64 ((l.take k).count b : Nat)) := by rw [hbx.cell, hj.out b h16]
        have hfree := hbx.free b
        have hleb := hle b
        have hst := hbx.set b (.int .i64 (((l.take k).count b : Nat) + 1 : Int))
        have hbe := hb.setCell (p := ⟨g, b, none⟩) hg1 (.int .i64 (((l.take k).count b : Nat) + 1 : Int))
        have hjb := hide (show ((List.take k l).count b : Int) = ((l.take k).count b : Nat) from rfl)
        generalize hcn : (l.take k).count b = n at *
        have Hcn := hide hcn
        clear hcn hle
        go_wp2_with fail
        go_roundw
        case rel =>
          refine ⟨k + 1, cs.setIfInBounds b (.int .i64 ((n : Int) + 1)), by omega, by go_num, hst, by show _ = 16; simp [hs.out], fun j hj16 => ?_, hbe⟩
          rw [Array.getElem?_setIfInBounds, hct.out j]
          have hq := Hcn.out
          by_cases hbj : b = j
          · subst hbj
            rw [if_pos rfl, if_pos (by rw [hs.out]; exact hj16), if_pos rfl, hq]; rfl
          · rw [if_neg hbj, if_neg hbj, hj.out j hj16]; rfl
        case measure => simp [intOf]; omega
      · go_wp2_with fail
        go_roundw
        case rel =>
          refine ⟨k + 1, cs, by omega, by go_num, hbx, hs, fun j hj16 => ?_, hb⟩
          rw [hct.out j, if_neg (by omega), hj.out j hj16]; rfl
        case measure => simp [intOf]; omega
    · obtain rfl : k = 258 := by omega
      have hcs := kCountsV_of hs.out hj.out
      rw [List.take_of_length_le (by rw [Hl.out]; omega)] at hcs
      subst hcs
      clear hs hj
      have hi : (Try.prog.info? 51).map (·.size) = some (kCountsV l).size := by rw [kCountsV_size]; exact size_c16
      go_wp2_with (first
        | (refine wpList_load_row rfl 51 _ rfl g rfl 51 (kCountsV l) (0, 0) _ hbx Try.underlying51 rfl hi ?_)
        | (refine wpList_store_box rfl 51 _ _ rfl g rfl (kCountsV l) rfl 51 (kCountsV l) hbx hi rfl (kCountsV_one l) ?_))
      refine bodyPost_ret (results_cell_row rfl _ _ g 51 (kCountsV l) (0, 0) _ rfl (hbx.row (kCountsV l)) Try.underlying51 rfl hi) rfl ?_
      exact ⟨rfl, below_row hb hg1 _⟩


set_option maxRecDepth 100000 in
set_option maxHeartbeats 400000 in
theorem kCost_any (t : List Int) (l : List Nat) (w : World) (ht : t.length = 258) (h64 : ∀ b ∈ t, -9223372036854775808 ≤ b ∧ b ≤ 9223372036854775807) (hl : l.length = 258) (h8 : ∀ b ∈ l, b < 256) :
    Calls Try.prog 35 #[.agg (i64s t).toArray, .agg (u8s l).toArray] w fun e w' => e = .returned (.int .i64 (kCost t l)) ∧ Below w.heap.size w w' := by
  have hi := hide (show (Try.prog.info? 47).map (·.size) = some (i64s t).toArray.size by rw [i64a_size, ht]; exact size_hist)
  have Hl := hide hl
  have Ht := hide ht
  clear hl ht
  go_enter Try.func35, Try.ntmps35
  go_wp2_with (refine wpList_load_box rfl 47 _ rfl w.heap.size rfl 47 (i64s t).toArray ((Box.new _ _ _).alloc _) Try.underlying47 hi.out ?_)
  have hb0 := (below_new w (.cells (i64s t).toArray 47)).alloc (by simp) (.cells (u8s l).toArray 45)
  have hx0 := (Box.new w 47 (i64s t).toArray).alloc (.cells (u8s l).toArray 45)
  have hx1 := Box.new (w.alloc (.cells (i64s t).toArray 47)) 45 (u8s l).toArray
  generalize (w.alloc (.cells (i64s t).toArray 47)).alloc (.cells (u8s l).toArray 45) = w0 at *
  simp only [size_alloc] at hx1
  generalize w.heap.size + 1 = g at *
  refine (valid_any t _ Ht.out h64).mono ?_
  rintro e w1 ⟨rfl, hb1⟩
  have hx0 := hx0.keep hb1
  have hx1 := hx1.keep hb1
  have hb := below_then hb0 hb1
  clear hb0 hb1
  cases hv : hValid t
  · go_wp2_with fail
    go_ret
    exact ⟨ret_int (by unfold kCost; rw [hv]; rfl), hb⟩
  · have Hv := hide hv
    clear hv
    go_wp2_with (refine wpList_load_box rfl 47 _ rfl w.heap.size rfl 47 (i64s t).toArray hx0 Try.underlying47 hi.out ?_)
    go_loop [4, 11] (fun s i => ∃ k : Nat, k ≤ 258 ∧ i = .int .i64 k ∧ s = .int .i64 (kDot (t.take k) (l.take k))) (fun _ i => 258 - (intOf i).toNat)
    case atStart => exact ⟨0, by omega, rfl, rfl⟩
    case round =>
      obtain ⟨k, hk, rfl, rfl⟩ := hrel
      by_cases hlt : k < 258
      · have hkt : k < t.length := by rw [Ht.out]; exact hlt
        have hkl : k < l.length := by rw [Hl.out]; exact hlt
        have hix := run_index_arr (P := Try.prog) Try.underlying47 Try.underlying3 size_i64 k hlt _ (i64a_get hkt)
        have hcell := hx1.cell k
        rw [u8a_get hkl] at hcell
        have h8k : l[k] < 256 := h8 _ (List.getElem_mem hkl)
        have hvk := hValid_at Hv.out hkt
        have hst := hide (kDot_take t l k hkt hkl)
        have hbd := kDot_bound (t.take k) (l.take k) (hValid_takes Hv.out k) (fun b hb => h8 b (List.mem_of_mem_take hb))
        rw [List.length_take] at hbd
        have hm : (min k t.length : Nat) ≤ 258 := by omega
        have h4 : 0 ≤ t[k] * (l[k] : Int) := Int.mul_nonneg hvk.1 (by omega)
        have h5 : t[k] * (l[k] : Int) ≤ 2147483647 * 255 := Int.mul_le_mul hvk.2 (by omega) (by omega) (by omega)
        generalize l[k] = b at *
        generalize t[k] = a at *
        generalize hd : kDot (t.take k) (l.take k) = d at *
        clear hd
        have hbd2 : 0 ≤ d ∧ d ≤ 547608329985 * 258 := by omega
        clear hbd hm
        go_wp2_with fail
        go_round
        case rel => exact ⟨k + 1, by omega, by go_num, by rw [hst.out]⟩
        case measure => simp [intOf]; omega
      · obtain rfl : k = 258 := by omega
        have hf1 := hide (show t.take 258 = t from List.take_of_length_le (by rw [Ht.out]; omega))
        have hf2 := hide (show l.take 258 = l from List.take_of_length_le (by rw [Hl.out]; omega))
        go_wp2_with fail
        go_ret
        exact ⟨ret_int (by unfold kCost; rw [Hv.out, hf1.out, hf2.out]; rfl), hb⟩

end Go.Proofs.Yteaapmfpojeibaa
