/-
  LAW CrcBurst: whatever the bytes, the position and the change: the call returns true. Conditions: none.
-/
import Derived.Test.YteaapmfpojeibaaCrcBack
import Derived.Test.YteaapmfpojeibaaCrcBurstPlain
import Derived.Test.YteaapmfpojeibaaMono
import Derived.Deep.DeepCutAuto
import Derived.BigRegion
namespace Go.Proofs.Yteaapmfpojeibaa
open Go Go.RowKit Go.ChangeShapes Go.WideShapes Go.ChangeAt

def allz (l : List Nat) : Bool := l.all (· == 0)
theorem allz_iff (l : List Nat) : allz l = true ↔ ∀ x ∈ l, x = 0 := by simp [allz]

set_option maxRecDepth 100000 in
set_option maxHeartbeats 1000000 in
theorem crcBurst_any (w : World) (A : Option Addr) (b : List Nat) (ca : Nat) (hA : At w A (u8s b)) (hb8 : ∀ x ∈ b, x < 256) (_hla : b.length ≤ ca) (_hma : ca ≤ maxLen)
    (t : Int) (_ht : -9223372036854775808 ≤ t) (_ht' : t ≤ 9223372036854775807) (y : List Nat) (hy : y.length = 4) (hy8 : ∀ x ∈ y, x < 256) :
    Calls Try.prog 6 #[.slice A b.length ca, .int .i64 t, .agg (u8s y).toArray] w fun e w' => e = .returned (.bool true) ∧ Below w.heap.size w w' := by
  unfold maxLen at _hma
  have Hy := hide hy
  clear hy
  by_cases h0 : b.length = 0
  · have h0' : ((b.length : Int) == 0) = true := beq_iff_eq.2 (by omega)
    clear h0
    go_enter Try.func6, Try.ntmps6
    go_wp2_with fail
    refine (crcWakes_any _).mono ?_
    rintro e w' ⟨rfl, hb⟩
    go_wp2_with fail
    go_ret
    exact ⟨rfl, below_then (below_new w _) hb⟩
  · have h0' : ((b.length : Int) == 0) = false := beq_eq_false_iff_ne.2 (by omega)
    by_cases h600 : 600 < b.length
    · go_enter Try.func6, Try.ntmps6
      go_wp2_with fail
      refine (crcWakes_any _).mono ?_
      rintro e w' ⟨rfl, hb⟩
      go_wp2_with fail
      go_ret
      exact ⟨rfl, below_then (below_new w _) hb⟩
    · go_enter Try.func6, Try.ntmps6
      go_upto_region 3 with (fail)
      go_cut [1] (fun s1 w' => ∃ p : Nat, p < b.length ∧ s1 = .int .i64 (p : Int) ∧ w.alloc (.cells (u8s y).toArray 41) = w')
      case first =>
        go_wp2_with fail
        all_goals
          go_meet
          case rel => first | (refine ⟨0, by omega, ?_, rfl⟩; apply congrArg; omega) | (refine ⟨b.length - 1, by omega, ?_, rfl⟩; apply congrArg; omega) | (refine ⟨t.toNat, by omega, ?_, rfl⟩; apply congrArg; omega)
      case rest =>
      obtain ⟨p, hp, rfl, rfl⟩ := hcut
      have hbx := Box.new w 41 (u8s y).toArray
      have hb1 := below_new w (.cells (u8s y).toArray 41)
      have hsz1 := size_alloc w (.cells (u8s y).toArray 41)
      generalize w.alloc (.cells (u8s y).toArray 41) = w1 at *
      have Hsz := hide hsz1
      clear hsz1
      have hA1 := hA.below hb1
      go_wp2_with (first
        | (at_builtin
           refine (wpList_append_at rfl (.tmp 25) (.tmp 26) _ rfl ety_u8 (.slice (some ⟨w1.heap.size, 0, none⟩) 0 0) rfl (n := 0) (xs := []) (own_new w1 _ w1.heap.size [] (Nat.le_refl _) (by simp)) (m := b.length) rfl (hA1.alloc _) (u8s_length _) (u8s_one _) (by omega) (by omega) (by simp) ?_)
           intro v2 w2 hown2 hg2 _
           have hb2 : Below w1.heap.size w1 w2 := (below_new w1 _).grown hg2 (by simp) (by simp [Value.ownBlock])
           rw [Nat.zero_add] at hown2
           obtain ⟨g, cap, cur, rfl, hgb, hx2, hn2, hm2, hcs, hct⟩ := own_box hown2 (by omega)))
      have hbx2 := hbx.below hb2 (by have := Hsz.out; omega)
      have hgw : w.heap.size ≤ g := by have := Hsz.out; omega
      have hne : w.heap.size ≠ g := by have := Hsz.out; omega
      have hbw := below_then hb1 hb2
      clear hown2 hg2 hb2 hA1 hbx hb1
      unfold maxLen at hm2
      have Hcs := hide hcs
      have Hct := hide hct
      clear hcs hct
      have hcur : ∀ j, j < b.length → cur[j]? = some (.int .u8 (b.getD j 0 : Int)) := fun j hj => by
        have h := congrArg (fun l : List Value => l[j]?) Hct.out
        simp only [List.nil_append, List.getElem?_take, if_pos hj, Array.getElem?_toList, u8s_get, List.getElem?_eq_getElem hj] at h
        rw [h]
        simp [List.getD, List.getElem?_eq_getElem hj]
      go_loopw [8, 9] (fun s8 s9 wr => ∃ (i : Nat) (cs : Array Value), i ≤ 4 ∧ p + i ≤ b.length ∧ s9 = .int .i64 (i : Int) ∧ s8 = .bool (allz (y.take i)) ∧ Box wr g 5 cs ∧ Hid (cs.size = cap) ∧
          Hid (∀ j, j < b.length → cs[j]? = some (.int .u8 ((if p ≤ j ∧ j < p + i then b.getD j 0 ^^^ y.getD (j - p) 0 else b.getD j 0 : Nat) : Int))) ∧ Below w.heap.size w wr ∧ Box wr w.heap.size 41 (u8s y).toArray) (fun _ s9 _ => 4 - (intOf s9).toNat)
      case atStart => exact ⟨0, cur, by omega, by omega, rfl, rfl, hx2, Hcs, fun j hj => by rw [if_neg (by omega)]; exact hcur j hj, hbw, hbx2⟩
      case round =>
        obtain ⟨i, cs, hi4, hin, rfl, rfl, hbc, hs, hj, hbr, hby⟩ := hrel
        clear hx2 hbw hbx2 hcur
        by_cases hlt : i < 4 ∧ p + i < b.length
        · obtain ⟨hl4, hln⟩ := hlt
          have hyi : i < y.length := by rw [Hy.out]; exact hl4
          have hc1 := hbc.cell (p + i)
          rw [hj.out (p + i) hln, if_neg (by omega)] at hc1
          have hf1 := hbc.free (p + i)
          have hc2 := hby.cell i
          rw [List.getElem?_toArray, u8s_get, List.getElem?_eq_getElem hyi] at hc2
          have hv8 : y[i] < 256 := hy8 _ (List.getElem_mem hyi)
          have hbv : b.getD (p + i) 0 < 256 := by
            rw [List.getD, List.getElem?_eq_getElem hln]
            exact hb8 _ (List.getElem_mem hln)
          have hxor := hide (u8_xor_nat _ _ hbv hv8)
          have htk := hide (show allz (y.take (i + 1)) = (allz (y.take i) && (y[i] == 0)) by rw [List.take_succ_eq_append_getElem hyi]; simp only [allz, List.all_append, List.all_cons, List.all_nil, Bool.and_true])
          have hyd := hide (show y.getD (p + i - p) 0 = y[i] by rw [Nat.add_sub_cancel_left, List.getD, List.getElem?_eq_getElem hyi]; rfl)
          simp only [Option.map_some] at hc2
          generalize y[i] = v at *
          generalize hbd : b.getD (p + i) 0 = u at *
          have Hbd := hide hbd
          clear hbd
          cases hz : allz (y.take i) with
          | false =>
            go_wp2_with fail
            go_region
            go_wp2_with fail
            go_roundw
            case rel =>
              refine ⟨i + 1, cs.setIfInBounds (p + i) (.int .u8 ((u ^^^ v : Nat) : Int)), by omega, by omega, by go_num, ?_, ?_, by show _ = _; simp [hs.out], fun j hjb => ?_, ?_, ?_⟩
              · rw [htk.out, hz]; rfl
              · rw [hxor.out]; exact hbc.set _ _
              · rw [Array.getElem?_setIfInBounds]
                split
                · obtain rfl : p + i = j := by assumption
                  have hpc : p + i < cs.size := by rw [hs.out]; omega
                  rw [if_pos (show p ≤ p + i ∧ p + i < p + (i + 1) by omega), Hbd.out, hyd.out, if_pos hpc]
                · rw [hj.out j hjb]
                  by_cases hc : p ≤ j ∧ j < p + i
                  · have hc' : p ≤ j ∧ j < p + (i + 1) := by omega
                    rw [if_pos hc, if_pos hc']
                  · have hc' : ¬ (p ≤ j ∧ j < p + (i + 1)) := by omega
                    rw [if_neg hc, if_neg hc']
              · exact (hbr.setCell hgw _).drew
              · exact hby.far hne _
            case measure => simp [intOf]; omega
          | true =>
            go_wp2_with fail
            go_region
            go_wp2_with fail
            go_roundw
            case rel =>
              refine ⟨i + 1, cs.setIfInBounds (p + i) (.int .u8 ((u ^^^ v : Nat) : Int)), by omega, by omega, by go_num, ?_, ?_, by show _ = _; simp [hs.out], fun j hjb => ?_, ?_, ?_⟩
              · rw [htk.out, hz]; rw [Bool.true_and]; exact congrArg Value.bool (by rw [Bool.eq_iff_iff, beq_iff_eq, beq_iff_eq]; omega)
              · rw [hxor.out]; exact hbc.set _ _
              · rw [Array.getElem?_setIfInBounds]
                split
                · obtain rfl : p + i = j := by assumption
                  have hpc : p + i < cs.size := by rw [hs.out]; omega
                  rw [if_pos (show p ≤ p + i ∧ p + i < p + (i + 1) by omega), Hbd.out, hyd.out, if_pos hpc]
                · rw [hj.out j hjb]
                  by_cases hc : p ≤ j ∧ j < p + i
                  · have hc' : p ≤ j ∧ j < p + (i + 1) := by omega
                    rw [if_pos hc, if_pos hc']
                  · have hc' : ¬ (p ≤ j ∧ j < p + (i + 1)) := by omega
                    rw [if_neg hc, if_neg hc']
              · exact (hbr.setCell hgw _).drew
              · exact hby.far hne _
            case measure => simp [intOf]; omega
        · have hend : i = 4 ∨ p + i = b.length := by omega
          have hAr := hA.below hbr
          have hyk : (y.take i).length = i := by rw [List.length_take, Hy.out]; omega
          have hyt : ∀ x ∈ y.take i, x < 256 := fun x hx => hy8 x (List.mem_of_mem_take hx)
          have hel : b.length = (List.replicate p 0 ++ (y.take i ++ List.replicate (b.length - p - i) 0)).length := by simp [hyk]; omega
          have he8 : ∀ x ∈ (List.replicate p 0 ++ (y.take i ++ List.replicate (b.length - p - i) 0)), x < 256 := by
            intro x hx
            simp only [List.mem_append, List.mem_replicate] at hx
            rcases hx with ⟨_, rfl⟩ | hx | ⟨_, rfl⟩
            · omega
            · exact hyt x hx
            · omega
          have hlaw := crcBurst_plain b _ hel hb8 he8
          rw [crcRun_burst p (b.length - p - i) (y.take i) (by omega) hyt, ← allz_iff] at hlaw
          have hzl : (zx b (List.replicate p 0 ++ (y.take i ++ List.replicate (b.length - p - i) 0))).length = b.length := zx_length _ _ hel
          have hz8 := zx_lt hb8 he8
          have hat : At wr (some ⟨g, 0, none⟩) (u8s (zx b (List.replicate p 0 ++ (y.take i ++ List.replicate (b.length - p - i) 0)))) := by
            intro j u hu
            have hjb : j < b.length := by
              have := (List.getElem?_eq_some_iff.1 hu).1
              rwa [u8s_length, hzl] at this
            refine ⟨_, rfl, ?_⟩
            rw [add_lit, Nat.zero_add, hbc.cell, hj.out j hjb, ← hu, u8s_get, burst_get b y p i (b.length - p - i) j hjb (by rw [Hy.out]; omega) hel]
            rfl
          clear hj
          generalize zx b (List.replicate p 0 ++ (y.take i ++ List.replicate (b.length - p - i) 0)) = d at *
          have Hzl := hide hzl
          clear hzl hel he8 hbc hs hby
          have hfd := crcFeed_lt 0 d
          have hfb := crcFeed_lt 0 b
          have hcmp : ((((crcFeed 0 d : Nat) : Int) == ((crcFeed 0 b : Nat) : Int)) == allz (y.take i)) = true := by
            rw [beq_iff_eq, Bool.eq_iff_iff, beq_iff_eq, ← hlaw]
            omega
          clear hlaw
          go_wp2_with fail
          all_goals
            (with_reducible refine (of_at _ _ _ _ [d] ?c1 ?c2 ?c3).mono ?_)
            case c2 => exact pieces_of wr _ [(some ⟨g, 0, none⟩, d, b.length, cap)] (by simp only [List.forall_mem_singleton]; exact ⟨hat, Hzl.out, by omega, by simp only [maxLen]; omega, hz8⟩)
            case c1 => rfl
            case c3 => decide
            rintro e w3 ⟨rfl, hb⟩
            have hb3 := below_then hbr (below_then (below_new wr _) hb)
            have hA3 := hAr.below (below_then (below_new wr _) hb)
            rw [show [d].flatten = d by simp]
            go_wp2_with fail
            (with_reducible refine (of_at _ _ _ _ [b] ?d1 ?d2 ?d3).mono ?_)
            case d2 => exact pieces_new w3 _ [(A, b, ca)] (by simp only [List.forall_mem_singleton]; exact ⟨hA3, _hla, by simp only [maxLen]; omega, hb8⟩)
            case d1 => rfl
            case d3 => decide
            rintro e w4 ⟨rfl, hb'⟩
            have hb4 := below_then hb3 (below_then (below_new w3 _) hb')
            rw [show [b].flatten = b by simp]
            go_wp2_with fail
            refine (crcWakes_any _).mono ?_
            rintro e w5 ⟨rfl, hb5⟩
            go_wp2_with fail
            go_ret
            exact ⟨rfl, below_then hb4 hb5⟩

theorem crcBurst_reads : ∀ t ∈ Try.f6.params.toList, Try.prog.readableRec t = true ∧ t < Try.prog.types.size := by
  rw [Try.params6]
  simp only [List.forall_mem_cons, List.not_mem_nil, false_imp_iff, implies_true, and_true]
  exact ⟨⟨by kernel_rfl, by decide +kernel⟩, ⟨by kernel_rfl, by decide +kernel⟩, ⟨by kernel_rfl, by decide +kernel⟩⟩

set_option maxRecDepth 100000 in
theorem crcBurst_lifted (os : Os) (started : os.Started) (H : Type) (enc : TypeId × Value → H) :
    ReturnsInHanded {} Try.checked os 6 .any (Rows.crcBurstSpec.pre6 enc Try.prog Try.f6 Rows.crcBurstRow.domain false) (Rows.crcBurstSpec.post enc Try.prog Try.f6 false true false false) := by
  refine returnsInHanded_of_change (C := Try.checked) own_knob started (by kernel_rfl) Try.func6
    (ChangeSpec.witness6 (enc := enc) (C := Try.checked) false ⟨#[], #[.slice none 0 0, .int .i64 0, .agg #[.int .u8 0, .int .u8 0, .int .u8 0, .int .u8 0]], []⟩ 8 (by kernel_rfl) (by kernel_rfl) (by kernel_rfl) (by kernel_rfl)) ?_
  intro W base args ds gs before hval0 hW hcnd _
  have hval : ∀ (j : Nat) t v, Try.f6.params[j]? = some t → args[j]? = some v → Value.okWide Try.prog W .any base t v := hval0
  have hW' := hW
  obtain ⟨p, q, hA0, hV, rfl, hfz, hnd⟩ := hW
  have hA : DataW.TrodAll enc Try.prog W 0 (fun _ => true) true Try.f6.params.toList args.toList ds p := hA0
  rw [Try.params6] at hA hval
  obtain ⟨v0, v1, v2, d0, d1, d2, p0, p1, p2, rfl, rfl, rfl, h0, h1, h2⟩ := trodAll_three hA
  obtain ⟨rfl, rfl⟩ := trodVars_none hV
  obtain ⟨A0, l0, c0, rfl, ha0, hb0, hc0, hd0⟩ := open_bytes Try.underlying24 Try.underlying5 (by kernel_rfl) (hval 0 24 v0 rfl rfl) h0
  obtain ⟨x1, rfl, hx1, hy1⟩ := open_i64 Try.underlying3 (hval 1 3 v1 rfl rfl) h1
  obtain ⟨y2, rfl, ya2, yb2⟩ := open_arr8 Try.underlying41 Try.underlying5 (by kernel_rfl) (by kernel_rfl) (hval 2 41 v2 rfl rfl) h2
  refine (crcBurst_any W A0 l0 c0 ha0 hb0 hc0 hd0 x1 hx1 hy1 y2 ya2 yb2).mono fun e W' ⟨he, hb⟩ => ⟨_, he, ?_⟩
  exact law_post (tb := 4) hW' laid_out crcBurst_reads rfl rfl Try.underlying4 rfl hb

/-- **THE STATEMENT.** -/
theorem crcBurst_holds : Rows.CrcBurstSaid :=
  OpenClaim.holds_of_wide 6 Try.f6 rfl rfl rfl rfl rfl rfl rfl ⟨rfl, rfl, rfl, rfl, rfl⟩ rfl rfl rfl rfl rfl (by kernel_rfl) Try.func6 (by kernel_rfl)
    (of_decide_eq_true (by kernel_rfl)) (by unfold Func.isWrapper; rw [if_neg (of_decide_eq_false (by kernel_rfl))]; exact ⟨rfl, rfl⟩)
    (fun os started H enc _ => crcBurst_lifted os started H enc)

end Go.Proofs.Yteaapmfpojeibaa
