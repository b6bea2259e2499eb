/-
  THE WALKS OF PACKAGE crc: each function returns what the plain functions say. Conditions: each argument is in its type's range.
-/
import Derived.Test.YteaapmfpojeibaaProg
import Derived.Test.YteaapmfpojeibaaMem
import Derived.Test.YteaapmfpojeibaaCrcPlain
import Derived.WalkSpells
import Derived.WalkLawsBesides
namespace Go.Proofs.Yteaapmfpojeibaa
open Go.RowKit

set_option maxHeartbeats 400000 in
theorem row_any (b : Nat) (w : World) (h1 : b < 256) :
    Calls Try.prog 39 #[.int .u8 b] w fun e w' => e = .returned (.int .u32 (crcRow b)) ∧ w = w' := by
  go_enter Try.func39, Try.ntmps39
  go_wp2
  go_loop [3, 6] (fun c i => ∃ k n : Nat, k ≤ 8 ∧ i = .int .i64 k ∧ n < 4294967296 ∧ c = .int .u32 n ∧ Hid (crcIter (8 - k) n = crcRow b)) (fun _ i => 8 - (intOf i).toNat)
  case atStart => exact ⟨0, b, by omega, rfl, by omega, rfl, rfl⟩
  case round =>
    obtain ⟨k, n, hk, rfl, hn, rfl, hc⟩ := hrel
    by_cases hlt : k < 8
    · have hb := crcBit_ops n hn
      have hl := crcBit_lt hn
      have HB : Hid (bits .xor .u32 ((n : Int) / 2) (3988292384 * bits .and .u32 (n : Int) 1 % 4294967296) = (crcBit n : Int)) := hb
      clear hb
      go_wp2
      go_round
      case rel =>
        refine ⟨k + 1, crcBit n, by omega, by go_num, hl, by rw [HB.out], ?_⟩
        have := hc.out
        rw [show 8 - k = (8 - (k + 1)) + 1 by omega, crcIter] at this
        exact this
      case measure => simp [intOf]; omega
    · go_wp2
      go_ret
      have := hc.out
      rw [show 8 - k = 0 by omega, crcIter] at this
      exact ⟨ret_int (by rw [this]), rfl⟩

theorem zero_tab (w : World) : (zeroValue 27).run Try.prog w = .ok (.agg crcZero) w := by kernel_rfl
theorem size_tab : (Try.prog.info? 27).map (·.size) = some 256 := by kernel_rfl

set_option maxRecDepth 100000 in
set_option maxHeartbeats 400000 in
theorem table_any (w : World) :
    Calls Try.prog 14 #[] w fun e w' => e = .returned (.agg crcTabV) ∧ Below w.heap.size w w' := by
  have hz := zero_tab
  go_enter Try.func14, Try.ntmps14
  go_wp2
  have hb0 : Below w.heap.size w (w.alloc (.cells crcZero 27)) := (Below.refl _ _).alloc (Nat.le_refl _) _
  have hx0 := Box.new w 27 crcZero
  generalize w.alloc (.cells crcZero 27) = w0 at *
  clear hz
  generalize hg : w.heap.size = g at *
  have Hg := hide hg
  clear hg
  go_loopw [2] (fun i wr => ∃ (k : Nat) (cs : Array Value), k ≤ 256 ∧ i = .int .i64 k ∧ Box wr g 27 cs ∧ Hid (cs.size = 256) ∧ Hid (∀ j, j < k → cs[j]? = some (.int .u32 (crcRow j : Int))) ∧ Below g w wr) (fun i _ => 256 - (intOf i).toNat)
  case atStart => exact ⟨0, crcZero, by omega, rfl, hx0, crcZero_size, fun j hj => by omega, hb0⟩
  case round =>
    obtain ⟨k, cs, hk, rfl, hbx, hs, hj, hb⟩ := hrel
    clear hx0 hb0
    by_cases hlt : k < 256
    · have hkc : k < cs.size := by rw [hs.out]; exact hlt
      have hcell : wr.cell? ⟨g, k, none⟩ = some cs[k] := by rw [hbx.cell, Array.getElem?_eq_getElem hkc]
      have hfree := hbx.free k
      generalize cs[k] = old at hcell
      clear hkc
      go_wp2_with (go_at_call 39; refine (row_any k _ hlt).mono ?_; rintro e w' ⟨rfl, rfl⟩)
      go_roundw
      case rel =>
        refine ⟨k + 1, cs.setIfInBounds k (.int .u32 (crcRow k : Int)), by omega, by go_num, hbx.set k _, by show _ = 256; simp [hs.out], fun j hjk => ?_, hb.setCell (Nat.le_refl _) _⟩
        have hs' := hs.out
        rw [Array.getElem?_setIfInBounds]
        split
        · subst_vars; simp
          omega
        · exact hj.out j (by omega)
      case measure => simp [intOf]; omega
    · obtain rfl : k = 256 := by omega
      have hcs := crcTabV_of hs.out hj.out
      subst hcs
      clear hs hj
      have hi : (Try.prog.info? 27).map (·.size) = some crcTabV.size := by rw [crcTabV_size]; exact size_tab
      go_wp2_with (first
        | (refine wpList_load_row rfl 27 _ rfl g rfl 27 crcTabV (0, 0) _ hbx Try.underlying27 rfl hi ?_)
        | (refine wpList_store_box rfl 27 _ _ rfl g rfl crcTabV rfl 27 crcTabV hbx hi rfl crcTabV_one ?_))
      refine bodyPost_ret (results_cell_row rfl _ _ g 27 crcTabV (0, 0) _ rfl (hbx.row crcTabV) Try.underlying27 rfl hi) rfl ?_
      exact ⟨rfl, by rw [Hg.out]; exact below_row hb (Nat.le_refl _) _⟩

set_option maxHeartbeats 400000 in
theorem step_any (c b : Nat) (w : World) (hc : c < 4294967296) (hb : b < 256) :
    Calls Try.prog 18 #[.int .u32 c, .int .u8 b] w fun e w' => e = .returned (.int .u32 (crcStep c b)) ∧ w = w' := by
  go_enter Try.func18, Try.ntmps18
  have hi := crcIdx_lt (c := c) hb
  have H1 := hide (crcIdx_ops c b hb)
  go_wp2_with fail
  rw [H1.out]
  refine (row_any _ _ hi).mono ?_
  rintro e w' ⟨rfl, rfl⟩
  go_wp2_with fail
  go_ret
  exact ⟨ret_int (crcStep_ops c b hc hb), rfl⟩

set_option maxRecDepth 100000 in
set_option maxHeartbeats 400000 in
theorem feed_any (c : Nat) (A : Option Addr) (ps : List (List Nat)) (cap : Nat) (w : World) (hc : c < 4294967296) (hP : Pieces w A ps) (hn : ps.length ≤ maxLen) :
    Calls Try.prog 22 #[.int .u32 c, .slice A ps.length cap] w fun e w' => e = .returned (.int .u32 (crcFeed c ps.flatten)) ∧ Below w.heap.size w w' := by
  unfold maxLen at hn
  have hz := zero_tab
  have hi : (Try.prog.info? 27).map (·.size) = some crcTabV.size := by rw [crcTabV_size]; exact size_tab
  have hsg : IntKind.u32.signed = false := rfl
  have hsz : Hid (crcZero.size = crcTabV.size) := hide (by rw [crcTabV_size, crcZero_size])
  go_enter Try.func22, Try.ntmps22
  go_wp2_with fail
  refine (table_any _).mono ?_
  rintro e w1 ⟨rfl, hb1⟩
  go_wp2_with (refine wpList_store_box rfl 27 _ _ rfl w1.heap.size rfl crcTabV rfl 27 crcZero (Box.new _ _ _) hi hsz.out crcTabV_one ?_)
  have hbx : Box ((w1.alloc (.cells crcZero 27)).setRow w1.heap.size crcTabV) w1.heap.size 27 crcTabV := (Box.new _ _ _).row _
  have hb2 : Below w.heap.size w ((w1.alloc (.cells crcZero 27)).setRow w1.heap.size crcTabV) := below_row (hb1.alloc hb1.size _) hb1.size _
  have hP2 := hP.below hb2
  generalize (w1.alloc (.cells crcZero 27)).setRow w1.heap.size crcTabV = ws at *
  generalize w1.heap.size = g at *
  rw [crcNot c hc]
  clear hz hi hsg hsz hP hb1
  go_loop [0, 15] (fun r i => ∃ k n : Nat, k ≤ ps.length ∧ i = .int .i64 k ∧ n < 4294967296 ∧ r = .int .u32 n ∧ Hid (n = crcRun (4294967295 - c) (ps.take k).flatten)) (fun _ i => ps.length - (intOf i).toNat)
  case atStart => exact ⟨0, 4294967295 - c, by omega, rfl, by omega, rfl, by show _ = _; simp [crcRun]⟩
  case round =>
    obtain ⟨k, n, hk, rfl, hn, rfl, hr⟩ := hrel
    by_cases hlt : k < ps.length
    · obtain ⟨ad, B, c2, rfl, hcell, hat, hl, hm, h8⟩ := hP2 k ps[k] (List.getElem?_eq_getElem hlt)
      have hfl := hide (take_flat hlt)
      generalize ps[k] = p at *
      unfold maxLen at hm
      clear hP2
      go_wp2
      go_loop [0, 21] (fun r i => ∃ j m : Nat, j ≤ p.length ∧ i = .int .i64 j ∧ m < 4294967296 ∧ r = .int .u32 m ∧ Hid (m = crcRun n (p.take j))) (fun _ i => p.length - (intOf i).toNat)
      case atStart => exact ⟨0, n, by omega, rfl, hn, rfl, by show _ = _; simp [crcRun]⟩
      case round =>
        obtain ⟨j, m, hj, rfl, hm', rfl, hr2⟩ := hrel
        by_cases hlt2 : j < p.length
        · obtain ⟨ad2, rfl, hc2⟩ := hat.u8 hlt2
          have hb8 : p[j] < 256 := h8 _ (List.getElem_mem hlt2)
          have htk := hide (take_one hlt2)
          generalize p[j] = b at *
          have hix := crcIdx_lt (c := m) hb8
          have hct := hbx.cell ((m % 256) ^^^ b)
          rw [crcTabV_get hix] at hct
          have hst := hide (crcStep_ops m b hm' hb8)
          have hsl := crcStep_lt hm' hb8
          have e1 := crcIdx_ops m b hb8
          generalize (m % 256) ^^^ b = ix at *
          clear h8 hat hbx hb8
          go_wp2
          go_round
          case rel =>
            refine ⟨j + 1, crcStep m b, by omega, by go_num, hsl, by rw [hst.out], ?_⟩
            show _ = _
            rw [htk.out, crcRun_snoc, ← hr2.out]
          case measure => simp [intOf]; omega
        · obtain rfl : j = p.length := by omega
          go_wp2
          go_round
          case rel =>
            refine ⟨k + 1, m, by omega, by go_num, hm', rfl, ?_⟩
            show _ = _
            rw [hfl.out, crcRun_append, ← hr.out, hr2.out, List.take_length]
          case measure => simp [intOf]; omega
    · obtain rfl : k = ps.length := by omega
      have hsg : IntKind.u32.signed = false := rfl
      go_wp2
      go_ret
      refine ⟨ret_int ?_, hb2⟩
      rw [crcNot n hn, crcFeed, hr.out, List.take_length]

set_option maxHeartbeats 400000 in
theorem of_any (A : Option Addr) (ps : List (List Nat)) (cap : Nat) (w : World) (hP : Pieces w A ps) (hn : ps.length ≤ maxLen) :
    Calls Try.prog 20 #[.slice A ps.length cap] w fun e w' => e = .returned (.int .u32 (crcFeed 0 ps.flatten)) ∧ Below w.heap.size w w' := by
  go_enter Try.func20, Try.ntmps20
  go_wp2_with fail
  refine (feed_any 0 A ps cap w (by omega) hP hn).mono ?_
  rintro e w1 ⟨rfl, hb⟩
  go_wp2
  go_ret
  exact ⟨rfl, hb⟩

theorem put_ends (c : Nat) : #[Value.int .u8 ((c : Int) / 16777216), Value.int .u8 ((c : Int) / 65536 % 256), Value.int .u8 ((c : Int) / 256 % 256), Value.int .u8 ((c : Int) % 256)] = (u8s (crcPut c)).toArray := by
  simp [u8s, crcPut]

set_option maxRecDepth 100000 in
set_option maxHeartbeats 400000 in
theorem put_any (c : Nat) (w : World) (hc : c < 4294967296) :
    Calls Try.prog 24 #[.int .u32 c] w fun e w' => e = .returned (.slice (some ⟨w.heap.size, 0, none⟩) 4 4) ∧ w.alloc (.cells (u8s (crcPut c)).toArray 41) = w' := by
  have he := hide (put_ends c)
  go_enter Try.func24, Try.ntmps24
  go_wp2
  refine wp_loop_rounds 5 ?_
  iterate 5 (rw [rounds_succ]; go_wp2)
  go_ret
  exact ⟨rfl, by rw [he.out]⟩

set_option maxRecDepth 100000 in
set_option maxHeartbeats 400000 in
theorem take_any (A : Option Addr) (l : List Nat) (cap : Nat) (w : World) (hA : At w A (u8s l)) (h8 : ∀ b ∈ l, b < 256) (hn : l.length ≤ cap) (hm : cap ≤ maxLen) :
    Calls Try.prog 15 #[.slice A l.length cap] w fun e w' => e = .returned (.tuple #[.int .u32 (crcTake l).1, .bool (crcTake l).2]) ∧ w = w' := by
  unfold maxLen at hm
  by_cases h4 : l.length < 4
  · rw [crcTake_short l h4]
    go_enter Try.func15, Try.ntmps15
    go_wp2
    go_ret2
    exact ⟨rfl, rfl⟩
  · obtain ⟨b0, b1, b2, b3, r, rfl⟩ := four_of l h4
    obtain ⟨ad, rfl, hc0⟩ := hA 0 _ rfl
    obtain ⟨ad', e1, hc1⟩ := hA 1 _ rfl
    injection e1 with e1; subst e1
    obtain ⟨ad', e1, hc2⟩ := hA 2 _ rfl
    injection e1 with e1; subst e1
    obtain ⟨ad', e1, hc3⟩ := hA 3 _ rfl
    injection e1 with e1; subst e1
    rw [add0] at hc0
    rw [addN _ _ (by omega)] at hc1 hc2 hc3
    have he := hide (crcTake_ops b0 b1 b2 b3 (h8 _ (by simp)) (h8 _ (by simp)) (h8 _ (by simp)) (h8 _ (by simp)))
    have hl : 4 ≤ (b0 :: b1 :: b2 :: b3 :: r).length := by simp
    unfold crcTake
    generalize (b0 :: b1 :: b2 :: b3 :: r).length = n at *
    clear hA h8
    go_enter Try.func15, Try.ntmps15
    go_wp2
    refine wp_loop_rounds 5 ?_
    iterate 5 (rw [rounds_succ]; go_wp2)
    go_ret2
    exact ⟨by rw [he.out]; rfl, rfl⟩

theorem take_at (A : Option Addr) (n cap : Nat) (w : World) (l : List Nat) (hl : l.length = n) (hA : At w A (u8s l)) (h8 : ∀ b ∈ l, b < 256) (hn : n ≤ cap) (hm : cap ≤ maxLen) :
    Calls Try.prog 15 #[.slice A n cap] w fun e w' => e = .returned (.tuple #[.int .u32 (crcTake l).1, .bool (crcTake l).2]) ∧ w = w' := by
  subst hl; exact take_any A l cap w hA h8 hn hm
theorem take_bl (A : Option Addr) (n cap : Nat) (w : World) (l : List Nat) (hl : l.length = n) (hA : At w A (u8s l)) (h8 : ∀ b ∈ l, b < 256) (hn : n ≤ cap) (hm : cap ≤ maxLen) :
    Calls Try.prog 15 #[.slice A n cap] w fun e w' => e = .returned (.tuple #[.int .u32 (crcTake l).1, .bool (crcTake l).2]) ∧ Below w.heap.size w w' :=
  (take_at A n cap w l hl hA h8 hn hm).mono fun _ _ ⟨h1, h2⟩ => ⟨h1, h2 ▸ Below.refl _ _⟩
theorem of_at (A : Option Addr) (n cap : Nat) (w : World) (ps : List (List Nat)) (hl : ps.length = n) (hP : Pieces w A ps) (hn : n ≤ maxLen) :
    Calls Try.prog 20 #[.slice A n cap] w fun e w' => e = .returned (.int .u32 (crcFeed 0 ps.flatten)) ∧ Below w.heap.size w w' := by
  subst hl; exact of_any A ps cap w hP hn
theorem feed_at (z : Int) (A : Option Addr) (n cap : Nat) (w : World) (c : Nat) (ps : List (List Nat)) (hz : (c : Int) = z) (hc : c < 4294967296) (hl : ps.length = n) (hP : Pieces w A ps) (hn : n ≤ maxLen) :
    Calls Try.prog 22 #[.int .u32 z, .slice A n cap] w fun e w' => e = .returned (.int .u32 (crcFeed c ps.flatten)) ∧ Below w.heap.size w w' := by
  subst hl; subst hz; exact feed_any c A ps cap w hc hP hn
theorem step_at (x y : Int) (w : World) (c b : Nat) (hx : (c : Int) = x) (hy : (b : Int) = y) (hc : c < 4294967296) (hb : b < 256) :
    Calls Try.prog 18 #[.int .u32 x, .int .u8 y] w fun e w' => e = .returned (.int .u32 (crcStep c b)) ∧ w = w' := by
  subst hx; subst hy; exact step_any c b w hc hb
theorem step_bl (x y : Int) (w : World) (c b : Nat) (hx : (c : Int) = x) (hy : (b : Int) = y) (hc : c < 4294967296) (hb : b < 256) :
    Calls Try.prog 18 #[.int .u32 x, .int .u8 y] w fun e w' => e = .returned (.int .u32 (crcStep c b)) ∧ Below w.heap.size w w' :=
  (step_at x y w c b hx hy hc hb).mono fun _ _ ⟨h1, h2⟩ => ⟨h1, h2 ▸ Below.refl _ _⟩
theorem put_at (x : Int) (w : World) (c : Nat) (hx : (c : Int) = x) (hc : c < 4294967296) :
    Calls Try.prog 24 #[.int .u32 x] w fun e w' => e = .returned (.slice (some ⟨w.heap.size, 0, none⟩) 4 4) ∧ w.alloc (.cells (u8s (crcPut c)).toArray 41) = w' := by
  subst hx; exact put_any c w hc

end Go.Proofs.Yteaapmfpojeibaa
