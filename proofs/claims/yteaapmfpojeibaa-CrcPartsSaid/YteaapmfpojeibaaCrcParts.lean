/-
  LAW CrcParts: whatever the checksum, the bytes and the position: the call returns true. Conditions: none.
-/
import Derived.Test.YteaapmfpojeibaaCrcBack
import Derived.Test.YteaapmfpojeibaaMono
import Derived.Deep.DeepCutAuto
namespace Go.Proofs.Yteaapmfpojeibaa
open Go Go.RowKit Go.ChangeShapes Go.WideShapes Go.ChangeAt

set_option maxRecDepth 100000 in
set_option maxHeartbeats 1000000 in
theorem crcParts_any (w : World) (c : Nat) (hc : c < 4294967296) (A : Option Addr) (l : List Nat) (cap : Nat) (hA : At w A (u8s l)) (h8 : ∀ b ∈ l, b < 256) (_hl : l.length ≤ cap) (_hm : cap ≤ maxLen) (a : Int) (ha : -9223372036854775808 ≤ a) (ha' : a ≤ 9223372036854775807) :
    Calls Try.prog 4 #[.int .u32 c, .slice A l.length cap, .int .i64 a] w fun e w' => e = .returned (.bool true) ∧ Below w.heap.size w w' := by
  unfold maxLen at _hm
  by_cases h600 : 600 < l.length
  · go_enter Try.func4, Try.ntmps4
    go_wp2_with fail
    refine (crcWakes_any _).mono ?_
    rintro e w' ⟨rfl, hb⟩
    go_wp2_with fail
    go_ret
    exact ⟨rfl, hb⟩
  · go_enter Try.func4, Try.ntmps4
    go_upto_region 3 with (fail)
    go_cut [2] (fun s2 w' => ∃ k : Nat, k ≤ l.length ∧ s2 = .int .i64 (k : Int) ∧ w = w')
    case first =>
      go_wp2_with fail
      all_goals
        go_meet
        case rel => first | exact ⟨l.length, by omega, by rfl, rfl⟩ | exact ⟨0, by omega, by rfl, rfl⟩ | exact ⟨a.toNat, by omega, by rw [Int.toNat_of_nonneg (by omega)], rfl⟩
    case rest =>
    obtain ⟨k, hk, rfl, rfl⟩ := hcut
    go_wp2_with fail
    (with_reducible refine (feed_at _ _ _ _ _ c [l] ?c1 ?c2 ?c3 ?c4 ?c5).mono ?_)
    case c4 => exact pieces_new w _ [(A, l, cap)] (by simp only [List.forall_mem_singleton]; exact ⟨hA, _hl, by simp only [maxLen]; omega, h8⟩)
    case c1 => rfl
    case c2 => exact hc
    case c3 => rfl
    case c5 => decide
    rintro e w1 ⟨rfl, hb⟩
    have hb1 := below_then (below_new w _) hb
    have hA1 := hA.below hb1
    clear hb hA
    have hx : bits .xor .u32 (c : Int) 4294967295 = ((4294967295 - c : Nat) : Int) := by
      rw [show (4294967295 : Int) = ((4294967295 : Nat) : Int) from rfl, u32_xor_nat _ _ hc (by omega), Nat.xor_comm, not32 c hc]
    have Hx := hide hx
    clear hx
    rw [show crcFeed c [l].flatten = crcFeed c l by simp]
    have hfull := crcFeed_lt c l
    generalize hF : crcFeed c l = F at *
    have HF := hide hF
    clear hF
    go_wp2_with fail
    rw [Hx.out]
    go_loopw [8, 9, 10] (fun s8 s9 s10 wr => ∃ i n m : Nat, i ≤ l.length ∧ s10 = .int .i64 (i : Int) ∧ s8 = .int .u32 (n : Int) ∧ s9 = .int .u32 (m : Int) ∧ n < 4294967296 ∧ m < 4294967296 ∧ Hid (n = crcFeed c (l.take i)) ∧ Hid (m = crcRun (4294967295 - c) (l.take i)) ∧ Below w.heap.size w wr ∧ At wr A (u8s l)) (fun _ _ s10 _ => l.length - (intOf s10).toNat)
    case atStart => exact ⟨0, c, 4294967295 - c, by omega, rfl, rfl, rfl, hc, by omega, by show _ = _; simp [crcFeed, crcRun]; omega, by show _ = _; simp [crcRun], hb1, hA1⟩
    case round =>
      obtain ⟨i, n, m, hi, rfl, rfl, rfl, hn, hm, Hn, Hm, hbr, hAr⟩ := hrel
      clear hb1 hA1
      by_cases hlt : i < l.length
      · go_wp2_with fail
        have e1 : (l.drop i).take 1 = [l[i]] := by rw [List.drop_eq_getElem_cons hlt]; rfl
        have hone : At wr (A.map (·.add i)) (u8s [l[i]]) := by rw [← e1, u8s_take, u8s_drop]; exact (hAr.dropLt i).take 1
        have hb8 : l[i] < 256 := h8 _ (List.getElem_mem hlt)
        clear e1
        (with_reducible refine (feed_at _ _ _ _ _ n [[l[i]]] ?d1 ?d2 ?d3 ?d4 ?d5).mono ?_)
        case d4 => exact pieces_new wr _ [(A.map (·.add i), [l[i]], cap - i)] (by simp only [List.forall_mem_singleton]; exact ⟨hone, by simp; omega, by simp only [maxLen]; omega, by simpa using hb8⟩)
        case d1 => rfl
        case d2 => exact hn
        case d3 => rfl
        case d5 => decide
        rintro e w2 ⟨rfl, hb⟩
        have hb2 := below_then hbr (below_then (below_new wr _) hb)
        have hA2 := hAr.below (below_then (below_new wr _) hb)
        clear hb hbr hAr hone
        obtain ⟨ad, rfl, hcl⟩ := hA2.u8 hlt
        have hn2 := hide (show crcFeed n [[l[i]]].flatten = crcFeed c (l.take (i + 1)) by rw [take_one hlt, crcFeed_append c _ _ (fun b hb => h8 b (List.mem_of_mem_take hb)), ← Hn.out]; simp)
        have hm2 := hide (show crcStep m l[i] = crcRun (4294967295 - c) (l.take (i + 1)) by rw [take_one hlt, crcRun_snoc, ← Hm.out])
        rw [hn2.out]
        generalize l[i] = b at *
        go_wp2_with fail
        refine (step_any m b _ hm hb8).mono ?_
        rintro e w3 ⟨rfl, rfl⟩
        go_wp2_with fail
        go_roundw
        case rel => exact ⟨i + 1, crcFeed c (l.take (i + 1)), crcStep m b, by omega, by go_num, rfl, rfl, crcFeed_lt _ _, crcStep_lt hm hb8, rfl, hm2, hb2, hA2⟩
        case measure => simp [intOf]; omega
      · obtain rfl : i = l.length := by omega
        rw [List.take_length] at Hn Hm
        go_wp2_with fail
        have hnF : n = F := by rw [Hn.out, HF.out]
        subst hnF
        refine Mono.wp_region_mono 87 rfl (by kernel_rfl) (by kernel_rfl) Ext Ext.refl Ext.trans ?_
        have hkc : k ≤ cap := by omega
        have hfl := hide (show crcFeed c [l.take k, [], l.drop k].flatten = n by simp; exact HF.out)
        have hAd : At wr.drew A (u8s l) := hAr
        have hmx : cap ≤ maxLen := by simp only [maxLen]; omega
        have hG := crcFeed_lt c (l.take k)
        have hFG := hide (show crcFeed (crcFeed c (l.take k)) [l.drop k].flatten = n by
          rw [← HF.out]
          conv => rhs; rw [← List.take_append_drop k l]
          rw [crcFeed_append _ _ _ (fun b hb => h8 b (List.mem_of_mem_take hb))]
          simp)
        have hmF : bits .xor .u32 (n : Int) 4294967295 = (m : Int) := by
          have e : n = 4294967295 - m := by rw [← HF.out, crcFeed, Hm.out]
          rw [show (4294967295 : Int) = ((4294967295 : Nat) : Int) from rfl, u32_xor_nat _ _ hn (by omega), Nat.xor_comm, not32 n hn]
          exact congrArg (fun x : Nat => (x : Int)) (by omega)
        repeat (refine Mono.regOk_ex ?_; apply Exists.intro; refine ⟨fun vs w' hR hF => ?_, ?_⟩; focus ((try simp at hF); unfold Mono.gives; go_simp; exact ⟨rfl, Ext.refl _⟩))
        simp only [Act.put, List.setIfInBounds_toArray, List.set_cons_zero, List.set_cons_succ]
        refine Mono.regOk_pred (fun v w => ∃ B, v = .slice B 3 3 ∧ Pieces w B [l.take k, [], l.drop k]) (fun v w w' ⟨B, h1, h2⟩ h => ⟨B, h1, h2.below h⟩) (fun vs w' hR hF => ?_) ?_
        · have hA' := hAd.below hR
          simp at hF
          unfold Mono.gives
          go_simp
          refine ⟨⟨_, rfl, pieces_of w' _ [(A, l.take k, k, cap), (none, [], 0, 0), (_, l.drop k, l.length - k, cap - k)] ?_⟩, below_new _ _⟩
          simp only [List.forall_mem_cons]
          exact ⟨⟨by rw [u8s_take]; exact hA'.take k, by simp; omega, hkc, hmx, fun b hb => h8 b (List.mem_of_mem_take hb)⟩, ⟨At.nil, rfl, by omega, by simp [maxLen], by simp⟩,
            ⟨by rw [u8s_drop]; exact hA'.drop k cap (by rw [u8s_length]; exact _hl), by simp, by omega, by omega, fun b hb => h8 b (List.mem_of_mem_drop hb)⟩, by simp⟩
        refine Mono.regOk_val (.int .u32 (n : Int)) (fun vs w' hR hF => ?_) ?_
        · simp at hF
          unfold Mono.gives
          go_simp
          obtain ⟨h0, B, h1, h2⟩ := hF
          rw [h1]
          exact gives_call (feed_at _ _ _ _ _ c [l.take k, [], l.drop k] rfl hc rfl h2 (by simp [maxLen])) (by rw [hfl.out])
        repeat (refine Mono.regOk_ex ?_; apply Exists.intro; refine ⟨fun vs w' hR hF => ?_, ?_⟩; focus ((try simp at hF); unfold Mono.gives; go_simp; exact ⟨rfl, Ext.refl _⟩))
        simp only [Act.put, List.setIfInBounds_toArray, List.set_cons_zero, List.set_cons_succ]
        refine Mono.regOk_pred (fun v w => ∃ B, v = .slice B 1 1 ∧ Pieces w B [l.take k]) (fun v w w' ⟨B, h1, h2⟩ h => ⟨B, h1, h2.below h⟩) (fun vs w' hR hF => ?_) ?_
        · have hA' := hAd.below hR
          simp at hF
          unfold Mono.gives
          go_simp
          refine ⟨⟨_, rfl, pieces_of w' _ [(A, l.take k, k, cap)] ?_⟩, below_new _ _⟩
          simp only [List.forall_mem_singleton]
          exact ⟨by rw [u8s_take]; exact hA'.take k, by simp; omega, hkc, hmx, fun b hb => h8 b (List.mem_of_mem_take hb)⟩
        refine Mono.regOk_val (.int .u32 (crcFeed c (l.take k) : Int)) (fun vs w' hR hF => ?_) ?_
        · simp at hF
          unfold Mono.gives
          go_simp
          obtain ⟨_, ⟨B, h1, h2⟩, _⟩ := hF
          rw [h1]
          exact gives_call (feed_at _ _ _ _ _ c [l.take k] rfl hc rfl h2 (by simp [maxLen])) (by simp)
        repeat (refine Mono.regOk_ex ?_; apply Exists.intro; refine ⟨fun vs w' hR hF => ?_, ?_⟩; focus ((try simp at hF); unfold Mono.gives; go_simp; exact ⟨rfl, Ext.refl _⟩))
        simp only [Act.put, List.setIfInBounds_toArray, List.set_cons_zero, List.set_cons_succ]
        refine Mono.regOk_pred (fun v w => ∃ B, v = .slice B 1 1 ∧ Pieces w B [l.drop k]) (fun v w w' ⟨B, h1, h2⟩ h => ⟨B, h1, h2.below h⟩) (fun vs w' hR hF => ?_) ?_
        · have hA' := hAd.below hR
          simp at hF
          unfold Mono.gives
          go_simp
          refine ⟨⟨_, rfl, pieces_of w' _ [(_, l.drop k, l.length - k, cap - k)] ?_⟩, below_new _ _⟩
          simp only [List.forall_mem_singleton]
          exact ⟨by rw [u8s_drop]; exact hA'.drop k cap (by rw [u8s_length]; exact _hl), by simp, by omega, by omega, fun b hb => h8 b (List.mem_of_mem_drop hb)⟩
        refine Mono.regOk_val (.int .u32 (n : Int)) (fun vs w' hR hF => ?_) ?_
        · simp at hF
          unfold Mono.gives
          go_simp
          obtain ⟨_, ⟨B, h1, h2⟩, _⟩ := hF
          rw [h1]
          exact gives_call (feed_at _ _ _ _ _ (crcFeed c (l.take k)) [l.drop k] rfl hG rfl h2 (by simp [maxLen])) (by rw [hFG.out])
        repeat (refine Mono.regOk_ex ?_; apply Exists.intro; refine ⟨fun vs w' hR hF => ?_, ?_⟩; focus ((try simp at hF); unfold Mono.gives; go_simp; exact ⟨rfl, Ext.refl _⟩))
        refine Mono.regOk_val (.bool true) (fun vs w' hR hF => ?_) ?_
        · simp at hF
          unfold Mono.gives
          go_simp
          exact gives_call (crcWakes_any _) rfl
        repeat (refine Mono.regOk_ex ?_; apply Exists.intro; refine ⟨fun vs w' hR hF => ?_, ?_⟩; focus ((try simp at hF); unfold Mono.gives; go_simp; exact ⟨rfl, Ext.refl _⟩))
        refine Mono.regOk_nil fun vs w' hR hF => ?_
        simp at hF
        simp only [Act.put, List.setIfInBounds_toArray, List.set_cons_zero, List.set_cons_succ, hF]
        have hbe := below_then hbr hR.drawn
        go_wp2_with fail
        all_goals
          go_ret
          exact ⟨rfl, hbe⟩

theorem crcParts_reads : ∀ t ∈ Try.f4.params.toList, Try.prog.readableRec t = true ∧ t < Try.prog.types.size := by
  rw [Try.params4]
  simp only [List.forall_mem_cons, List.not_mem_nil, false_imp_iff, implies_true, and_true]
  exact ⟨⟨by kernel_rfl, by decide +kernel⟩, ⟨by kernel_rfl, by decide +kernel⟩, ⟨by kernel_rfl, by decide +kernel⟩⟩

set_option maxRecDepth 100000 in
theorem crcParts_lifted (os : Os) (started : os.Started) (H : Type) (enc : TypeId × Value → H) :
    ReturnsInHanded {} Try.checked os 4 .any (Rows.crcPartsSpec.pre6 enc Try.prog Try.f4 Rows.crcPartsRow.domain false) (Rows.crcPartsSpec.post enc Try.prog Try.f4 false true false false) := by
  refine returnsInHanded_of_change (C := Try.checked) own_knob started (by kernel_rfl) Try.func4
    (ChangeSpec.witness6 (enc := enc) (C := Try.checked) false ⟨#[], #[.int .u32 0, .slice none 0 0, .int .i64 0], []⟩ 8 (by kernel_rfl) (by kernel_rfl) (by kernel_rfl) (by kernel_rfl)) ?_
  intro W base args ds gs before hval0 hW hcnd _
  have hval : ∀ (j : Nat) t v, Try.f4.params[j]? = some t → args[j]? = some v → Value.okWide Try.prog W .any base t v := hval0
  have hW' := hW
  obtain ⟨p, q, hA0, hV, rfl, hfz, hnd⟩ := hW
  have hA : DataW.TrodAll enc Try.prog W 0 (fun _ => true) true Try.f4.params.toList args.toList ds p := hA0
  rw [Try.params4] at hA hval
  obtain ⟨v0, v1, v2, d0, d1, d2, p0, p1, p2, rfl, rfl, rfl, h0, h1, h2⟩ := trodAll_three hA
  obtain ⟨rfl, rfl⟩ := trodVars_none hV
  obtain ⟨x0, rfl, hx0⟩ := open_nat Try.underlying22 rfl (hval 0 22 v0 rfl rfl) h0
  have hb0 : x0 < 4294967296 := by
    have : IntKind.u32.max = 4294967295 := by decide
    omega
  obtain ⟨A1, l1, c1, rfl, ha1, hb1, hc1, hd1⟩ := open_bytes Try.underlying24 Try.underlying5 (by kernel_rfl) (hval 1 24 v1 rfl rfl) h1
  obtain ⟨x2, rfl, hx2, hy2⟩ := open_i64 Try.underlying3 (hval 2 3 v2 rfl rfl) h2
  refine (crcParts_any W x0 hb0 A1 l1 c1 ha1 hb1 hc1 hd1 x2 hx2 hy2).mono fun e W' ⟨he, hb⟩ => ⟨_, he, ?_⟩
  exact law_post (tb := 4) hW' laid_out crcParts_reads rfl rfl Try.underlying4 rfl hb

/-- **THE STATEMENT.** -/
theorem crcParts_holds : Rows.CrcPartsSaid :=
  OpenClaim.holds_of_wide 4 Try.f4 rfl rfl rfl rfl rfl rfl rfl ⟨rfl, rfl, rfl, rfl, rfl⟩ rfl rfl rfl rfl rfl (by kernel_rfl) Try.func4 (by kernel_rfl)
    (of_decide_eq_true (by kernel_rfl)) (by unfold Func.isWrapper; rw [if_neg (of_decide_eq_false (by kernel_rfl))]; exact ⟨rfl, rfl⟩)
    (fun os started H enc _ => crcParts_lifted os started H enc)

end Go.Proofs.Yteaapmfpojeibaa
