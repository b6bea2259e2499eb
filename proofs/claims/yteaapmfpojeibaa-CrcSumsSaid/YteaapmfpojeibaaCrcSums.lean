/-
  LAW CrcSums: whatever the three byte strings: the call returns true. Conditions: none.
-/
import Derived.Test.YteaapmfpojeibaaCrcBack
import Derived.Test.YteaapmfpojeibaaMono
import Derived.Deep.DeepCutAuto
import Derived.BigRegion
namespace Go.Proofs.Yteaapmfpojeibaa
open Go Go.RowKit Go.ChangeShapes Go.WideShapes Go.ChangeAt

set_option maxRecDepth 100000 in
set_option maxHeartbeats 1000000 in
theorem crcSums_any (w : World) (A : Option Addr) (a : List Nat) (ca : Nat) (hA : At w A (u8s a)) (ha8 : ∀ b ∈ a, b < 256) (_hla : a.length ≤ ca) (_hma : ca ≤ maxLen)
    (B : Option Addr) (b : List Nat) (cb : Nat) (hB : At w B (u8s b)) (hb8 : ∀ x ∈ b, x < 256) (_hlb : b.length ≤ cb) (_hmb : cb ≤ maxLen)
    (C : Option Addr) (c : List Nat) (cc : Nat) (hC : At w C (u8s c)) (hc8 : ∀ x ∈ c, x < 256) (_hlc : c.length ≤ cc) (_hmc : cc ≤ maxLen) :
    Calls Try.prog 5 #[.slice A a.length ca, .slice B b.length cb, .slice C c.length cc] w fun e w' => e = .returned (.bool true) ∧ Below w.heap.size w w' := by
  unfold maxLen at _hma _hmb _hmc
  go_enter Try.func5, Try.ntmps5
  go_upto_region 1 with (fail)
  go_cut [7] (fun s7 w' => ∃ n : Nat, n ≤ a.length ∧ n ≤ b.length ∧ n ≤ c.length ∧ s7 = .int .i64 (n : Int) ∧ w = w')
  case first =>
    go_wp2_with fail
    all_goals
      go_meet
      case rel => first | exact ⟨a.length, by omega, by omega, by omega, rfl, rfl⟩ | exact ⟨b.length, by omega, by omega, by omega, rfl, rfl⟩ | exact ⟨c.length, by omega, by omega, by omega, rfl, rfl⟩
  case rest =>
  obtain ⟨n, h1, h2, h3, rfl, rfl⟩ := hcut
  by_cases h600 : 600 < n
  · go_wp2_with fail
    refine (crcWakes_any _).mono ?_
    rintro e w' ⟨rfl, hb⟩
    go_wp2_with fail
    go_ret
    exact ⟨rfl, hb⟩
  · have hmk := run_make_at ety_u8 rfl n (by omega) (by omega)
    go_wp2_with fail
    have hb0 : Below w.heap.size w (w.alloc (.cells (Array.replicate n (.int .u8 0)) 5)) := below_new _ _
    have hx0 := Box.new w 5 (Array.replicate n (.int .u8 0))
    generalize w.alloc (.cells (Array.replicate n (.int .u8 0)) 5) = w0 at *
    generalize hg : w.heap.size = g at *
    have Hg := hide hg
    clear hg hmk
    have hd := hide (show zx (zx (a.take n) (b.take n)) (c.take n) = zx (zx (a.take n) (b.take n)) (c.take n) from rfl)
    go_loopw [9] (fun s9 wr => ∃ (k : Nat) (cs : Array Value), k ≤ n ∧ s9 = .int .i64 (k : Int) ∧ Box wr g 5 cs ∧ Hid (cs.size = n) ∧ Hid (∀ j, j < k → cs[j]? = some (.int .u8 (((a.getD j 0 ^^^ b.getD j 0) ^^^ c.getD j 0 : Nat) : Int))) ∧ Below g w wr) (fun s9 _ => n - (intOf s9).toNat)
    case atStart => exact ⟨0, _, by omega, rfl, hx0, by show _ = _; simp, fun j hj => by omega, hb0⟩
    case round =>
      obtain ⟨k, cs, hk, rfl, hbx, hs, hj, hbr⟩ := hrel
      clear hx0 hb0
      by_cases hlt : k < n
      · have hbr' : Below w.heap.size w wr := by rw [Hg.out]; exact hbr
        obtain ⟨ad, rfl, e1⟩ := (hA.below hbr').u8 (k := k) (by omega)
        obtain ⟨bd, rfl, e2⟩ := (hB.below hbr').u8 (k := k) (by omega)
        obtain ⟨cd, rfl, e3⟩ := (hC.below hbr').u8 (k := k) (by omega)
        have hkc : k < cs.size := by rw [hs.out]; exact hlt
        have hcell : wr.cell? ⟨g, k, none⟩ = some cs[k] := by rw [hbx.cell, Array.getElem?_eq_getElem hkc]
        have hfree := hbx.free k
        generalize cs[k] = old at hcell
        go_wp2_with fail
        go_region
        go_wp2_with fail
        go_roundw
        case rel =>
          have g1 : a[k] < 256 := ha8 _ (List.getElem_mem (by omega))
          have g2 : b[k] < 256 := hb8 _ (List.getElem_mem (by omega))
          have g3 : c[k] < 256 := hc8 _ (List.getElem_mem (by omega))
          have ev : bits .xor .u8 (bits .xor .u8 (a[k] : Int) (b[k] : Int)) (c[k] : Int) = (((a.getD k 0 ^^^ b.getD k 0) ^^^ c.getD k 0 : Nat) : Int) := by
            rw [u8_xor_nat _ _ g1 g2, u8_xor_nat _ _ (Nat.xor_lt_two_pow (n := 8) g1 g2) g3]
            simp [List.getD, List.getElem?_eq_getElem (show k < a.length by omega), List.getElem?_eq_getElem (show k < b.length by omega), List.getElem?_eq_getElem (show k < c.length by omega)]
          refine ⟨k + 1, cs.setIfInBounds k (.int .u8 (((a.getD k 0 ^^^ b.getD k 0) ^^^ c.getD k 0 : Nat) : Int)), by omega, by go_num, ?_, by show _ = _; simp [hs.out], fun j hjk => ?_, ?_⟩
          · rw [ev]; exact hbx.set k _
          · have hs' := hs.out
            rw [Array.getElem?_setIfInBounds]
            split
            · subst_vars; rfl
            · exact hj.out j (by omega)
          · exact (hbr.setCell (Nat.le_refl _) _).drew
        case measure => simp [intOf]; omega
      · obtain rfl : k = n := by omega
        have hbr' : Below w.heap.size w wr := by rw [Hg.out]; exact hbr
        have hat : At wr (some ⟨g, 0, none⟩) (u8s (zx (zx (a.take k) (b.take k)) (c.take k))) := by
          have e : cs.toList = u8s (zx (zx (a.take k) (b.take k)) (c.take k)) := by
            apply List.ext_getElem?
            intro j
            rcases Nat.lt_or_ge j k with hjk | hjk
            · have h := hj.out j hjk
              rw [Array.getElem?_toList, h, u8s_get]
              simp [zx, List.getElem?_zipWith, hjk, List.getD, List.getElem?_eq_getElem (show j < a.length by omega), List.getElem?_eq_getElem (show j < b.length by omega), List.getElem?_eq_getElem (show j < c.length by omega)]
            · have hs' := hs.out
              rw [List.getElem?_eq_none (by simpa [hs'] using hjk), List.getElem?_eq_none (by simp [u8s, zx]; omega)]
          rw [← e]
          exact hbx.at_
        have hAa : At wr.drew A (u8s (a.take k)) := by rw [u8s_take]; exact (hA.below hbr').take k
        have hBb : At wr.drew B (u8s (b.take k)) := by rw [u8s_take]; exact (hB.below hbr').take k
        have hCc : At wr.drew C (u8s (c.take k)) := by rw [u8s_take]; exact (hC.below hbr').take k
        have hDd : At wr.drew (some ⟨g, 0, none⟩) (u8s (zx (zx (a.take k) (b.take k)) (c.take k))) := hat
        have la : (a.take k).length = k := by simp; omega
        have lb : (b.take k).length = k := by simp; omega
        have lc : (c.take k).length = k := by simp; omega
        have ka : ∀ x ∈ a.take k, x < 256 := fun x hx => ha8 x (List.mem_of_mem_take hx)
        have kb : ∀ x ∈ b.take k, x < 256 := fun x hx => hb8 x (List.mem_of_mem_take hx)
        have kc : ∀ x ∈ c.take k, x < 256 := fun x hx => hc8 x (List.mem_of_mem_take hx)
        have kd := zx_lt (zx_lt ka kb) kc
        have ld : (zx (zx (a.take k) (b.take k)) (c.take k)).length = k := by simp [zx]; omega
        have hpl := crcSums_plain (a.take k) (b.take k) (c.take k) (by omega) (by omega) ka kb kc
        generalize zx (zx (a.take k) (b.take k)) (c.take k) = d at *
        have fa := crcFeed_lt 0 (a.take k)
        have fb := crcFeed_lt 0 (b.take k)
        have fc := crcFeed_lt 0 (c.take k)
        have x1 := u32_xor_nat _ _ fa fb
        have x2 := u32_xor_nat _ _ (Nat.xor_lt_two_pow (n := 32) fa fb) fc
        rw [hpl] at x2
        generalize crcFeed 0 (a.take k) ^^^ crcFeed 0 (b.take k) = u at *
        have La := hide la
        have Lb := hide lb
        have Lc := hide lc
        have Ld := hide ld
        have qa : k ≤ ca := by omega
        have qb : k ≤ cb := by omega
        have qc : k ≤ cc := by omega
        clear hA hB hC hat hbx hs hj la lb lc ld hpl hd h1 h2 h3
        generalize a.take k = a' at *
        generalize b.take k = b' at *
        generalize c.take k = c' at *
        go_wp2_with fail
        refine Mono.wp_region_mono 68 rfl (by kernel_rfl) (by kernel_rfl) Ext Ext.refl Ext.trans ?_
        repeat (refine Mono.regOk_ex ?_; apply Exists.intro; refine ⟨fun vs w' hR hF => ?_, ?_⟩; (focus ((try simp at hF); unfold Mono.gives; go_simp; exact ⟨rfl, Ext.refl _⟩)); simp only [Act.put, List.setIfInBounds_toArray, List.set_cons_zero, List.set_cons_succ])
        refine Mono.regOk_pred (fun v w => ∃ B, v = .slice B 1 1 ∧ Pieces w B [a']) (fun v w w' ⟨B, h1, h2⟩ h => ⟨B, h1, h2.below h⟩) (fun vs w' hR hF => ?_) ?_
        · have hA' := hAa.below hR
          simp at hF
          unfold Mono.gives
          go_simp
          refine ⟨⟨_, rfl, pieces_of w' _ [(_, a', k, ca)] ?_⟩, below_new _ _⟩
          simp only [List.forall_mem_singleton]
          exact ⟨hA', La.out, by omega, by simp only [maxLen]; omega, ka⟩
        simp only [Act.put, List.setIfInBounds_toArray, List.set_cons_zero, List.set_cons_succ]
        refine Mono.regOk_val (.int .u32 (crcFeed 0 (a') : Int)) (fun vs w' hR hF => ?_) ?_
        · simp at hF
          unfold Mono.gives
          go_simp
          obtain ⟨B, h1, h2⟩ := hF
          rw [h1]
          exact gives_call (of_at _ _ _ _ [a'] rfl h2 (by simp [maxLen])) (by simp)
        simp only [Act.put, List.setIfInBounds_toArray, List.set_cons_zero, List.set_cons_succ]
        repeat (refine Mono.regOk_ex ?_; apply Exists.intro; refine ⟨fun vs w' hR hF => ?_, ?_⟩; (focus ((try simp at hF); unfold Mono.gives; go_simp; exact ⟨rfl, Ext.refl _⟩)); simp only [Act.put, List.setIfInBounds_toArray, List.set_cons_zero, List.set_cons_succ])
        refine Mono.regOk_pred (fun v w => ∃ B, v = .slice B 1 1 ∧ Pieces w B [b']) (fun v w w' ⟨B, h1, h2⟩ h => ⟨B, h1, h2.below h⟩) (fun vs w' hR hF => ?_) ?_
        · have hA' := hBb.below hR
          simp at hF
          unfold Mono.gives
          go_simp
          refine ⟨⟨_, rfl, pieces_of w' _ [(_, b', k, cb)] ?_⟩, below_new _ _⟩
          simp only [List.forall_mem_singleton]
          exact ⟨hA', Lb.out, by omega, by simp only [maxLen]; omega, kb⟩
        simp only [Act.put, List.setIfInBounds_toArray, List.set_cons_zero, List.set_cons_succ]
        refine Mono.regOk_val (.int .u32 (crcFeed 0 (b') : Int)) (fun vs w' hR hF => ?_) ?_
        · simp at hF
          unfold Mono.gives
          go_simp
          obtain ⟨⟨B, h1, h2⟩, _⟩ := hF
          rw [h1]
          exact gives_call (of_at _ _ _ _ [b'] rfl h2 (by simp [maxLen])) (by simp)
        simp only [Act.put, List.setIfInBounds_toArray, List.set_cons_zero, List.set_cons_succ]
        repeat (refine Mono.regOk_ex ?_; apply Exists.intro; refine ⟨fun vs w' hR hF => ?_, ?_⟩; (focus ((try simp at hF); unfold Mono.gives; go_simp; exact ⟨rfl, Ext.refl _⟩)); simp only [Act.put, List.setIfInBounds_toArray, List.set_cons_zero, List.set_cons_succ])
        refine Mono.regOk_pred (fun v w => ∃ B, v = .slice B 1 1 ∧ Pieces w B [c']) (fun v w w' ⟨B, h1, h2⟩ h => ⟨B, h1, h2.below h⟩) (fun vs w' hR hF => ?_) ?_
        · have hA' := hCc.below hR
          simp at hF
          unfold Mono.gives
          go_simp
          refine ⟨⟨_, rfl, pieces_of w' _ [(_, c', k, cc)] ?_⟩, below_new _ _⟩
          simp only [List.forall_mem_singleton]
          exact ⟨hA', Lc.out, by omega, by simp only [maxLen]; omega, kc⟩
        simp only [Act.put, List.setIfInBounds_toArray, List.set_cons_zero, List.set_cons_succ]
        refine Mono.regOk_val (.int .u32 (crcFeed 0 (c') : Int)) (fun vs w' hR hF => ?_) ?_
        · simp at hF
          unfold Mono.gives
          go_simp
          obtain ⟨⟨B, h1, h2⟩, _⟩ := hF
          rw [h1]
          exact gives_call (of_at _ _ _ _ [c'] rfl h2 (by simp [maxLen])) (by simp)
        simp only [Act.put, List.setIfInBounds_toArray, List.set_cons_zero, List.set_cons_succ]
        repeat (refine Mono.regOk_ex ?_; apply Exists.intro; refine ⟨fun vs w' hR hF => ?_, ?_⟩; (focus ((try simp at hF); unfold Mono.gives; go_simp; exact ⟨rfl, Ext.refl _⟩)); simp only [Act.put, List.setIfInBounds_toArray, List.set_cons_zero, List.set_cons_succ])
        refine Mono.regOk_pred (fun v w => ∃ B, v = .slice B 1 1 ∧ Pieces w B [d]) (fun v w w' ⟨B, h1, h2⟩ h => ⟨B, h1, h2.below h⟩) (fun vs w' hR hF => ?_) ?_
        · have hA' := hDd.below hR
          simp at hF
          unfold Mono.gives
          go_simp
          refine ⟨⟨_, rfl, pieces_of w' _ [(_, d, k, k)] ?_⟩, below_new _ _⟩
          simp only [List.forall_mem_singleton]
          exact ⟨hA', Ld.out, by omega, by simp only [maxLen]; omega, kd⟩
        simp only [Act.put, List.setIfInBounds_toArray, List.set_cons_zero, List.set_cons_succ]
        refine Mono.regOk_val (.int .u32 (crcFeed 0 (d) : Int)) (fun vs w' hR hF => ?_) ?_
        · simp at hF
          unfold Mono.gives
          go_simp
          obtain ⟨⟨B, h1, h2⟩, _⟩ := hF
          rw [h1]
          exact gives_call (of_at _ _ _ _ [d] rfl h2 (by simp [maxLen])) (by simp)
        simp only [Act.put, List.setIfInBounds_toArray, List.set_cons_zero, List.set_cons_succ]
        repeat (refine Mono.regOk_ex ?_; apply Exists.intro; refine ⟨fun vs w' hR hF => ?_, ?_⟩; (focus ((try simp at hF); unfold Mono.gives; go_simp; exact ⟨rfl, Ext.refl _⟩)); simp only [Act.put, List.setIfInBounds_toArray, List.set_cons_zero, List.set_cons_succ])
        refine Mono.regOk_val (.bool true) (fun vs w' hR hF => ?_) ?_
        · simp at hF
          unfold Mono.gives
          go_simp
          exact gives_call (crcWakes_any _) rfl
        simp only [Act.put, List.setIfInBounds_toArray, List.set_cons_zero, List.set_cons_succ]
        repeat (refine Mono.regOk_ex ?_; apply Exists.intro; refine ⟨fun vs w' hR hF => ?_, ?_⟩; (focus ((try simp at hF); unfold Mono.gives; go_simp; exact ⟨rfl, Ext.refl _⟩)); simp only [Act.put, List.setIfInBounds_toArray, List.set_cons_zero, List.set_cons_succ])
        refine Mono.regOk_nil fun vs w' hR hF => ?_
        simp at hF
        simp only [hF]
        have hbe := below_then hbr' hR.drawn
        go_wp2_with fail
        all_goals
          go_ret
          exact ⟨rfl, hbe⟩

theorem crcSums_reads : ∀ t ∈ Try.f5.params.toList, Try.prog.readableRec t = true ∧ t < Try.prog.types.size := by
  rw [Try.params5]
  simp only [List.forall_mem_cons, List.not_mem_nil, false_imp_iff, implies_true, and_true]
  exact ⟨⟨by kernel_rfl, by decide +kernel⟩, ⟨by kernel_rfl, by decide +kernel⟩, ⟨by kernel_rfl, by decide +kernel⟩⟩

set_option maxRecDepth 100000 in
theorem crcSums_lifted (os : Os) (started : os.Started) (H : Type) (enc : TypeId × Value → H) :
    ReturnsInHanded {} Try.checked os 5 .any (Rows.crcSumsSpec.pre6 enc Try.prog Try.f5 Rows.crcSumsRow.domain false) (Rows.crcSumsSpec.post enc Try.prog Try.f5 false true false false) := by
  refine returnsInHanded_of_change (C := Try.checked) own_knob started (by kernel_rfl) Try.func5
    (ChangeSpec.witness6 (enc := enc) (C := Try.checked) false ⟨#[], #[.slice none 0 0, .slice none 0 0, .slice none 0 0], []⟩ 8 (by kernel_rfl) (by kernel_rfl) (by kernel_rfl) (by kernel_rfl)) ?_
  intro W base args ds gs before hval0 hW hcnd _
  have hval : ∀ (j : Nat) t v, Try.f5.params[j]? = some t → args[j]? = some v → Value.okWide Try.prog W .any base t v := hval0
  have hW' := hW
  obtain ⟨p, q, hA0, hV, rfl, hfz, hnd⟩ := hW
  have hA : DataW.TrodAll enc Try.prog W 0 (fun _ => true) true Try.f5.params.toList args.toList ds p := hA0
  rw [Try.params5] at hA hval
  obtain ⟨v0, v1, v2, d0, d1, d2, p0, p1, p2, rfl, rfl, rfl, h0, h1, h2⟩ := trodAll_three hA
  obtain ⟨rfl, rfl⟩ := trodVars_none hV
  obtain ⟨A0, l0, c0, rfl, ha0, hb0, hc0, hd0⟩ := open_bytes Try.underlying24 Try.underlying5 (by kernel_rfl) (hval 0 24 v0 rfl rfl) h0
  obtain ⟨A1, l1, c1, rfl, ha1, hb1, hc1, hd1⟩ := open_bytes Try.underlying24 Try.underlying5 (by kernel_rfl) (hval 1 24 v1 rfl rfl) h1
  obtain ⟨A2, l2, c2, rfl, ha2, hb2, hc2, hd2⟩ := open_bytes Try.underlying24 Try.underlying5 (by kernel_rfl) (hval 2 24 v2 rfl rfl) h2
  refine (crcSums_any W A0 l0 c0 ha0 hb0 hc0 hd0 A1 l1 c1 ha1 hb1 hc1 hd1 A2 l2 c2 ha2 hb2 hc2 hd2).mono fun e W' ⟨he, hb⟩ => ⟨_, he, ?_⟩
  exact law_post (tb := 4) hW' laid_out crcSums_reads rfl rfl Try.underlying4 rfl hb

/-- **THE STATEMENT.** -/
theorem crcSums_holds : Rows.CrcSumsSaid :=
  OpenClaim.holds_of_wide 5 Try.f5 rfl rfl rfl rfl rfl rfl rfl ⟨rfl, rfl, rfl, rfl, rfl⟩ rfl rfl rfl rfl rfl (by kernel_rfl) Try.func5 (by kernel_rfl)
    (of_decide_eq_true (by kernel_rfl)) (by unfold Func.isWrapper; rw [if_neg (of_decide_eq_false (by kernel_rfl))]; exact ⟨rfl, rfl⟩)
    (fun os started H enc _ => crcSums_lifted os started H enc)

end Go.Proofs.Yteaapmfpojeibaa
