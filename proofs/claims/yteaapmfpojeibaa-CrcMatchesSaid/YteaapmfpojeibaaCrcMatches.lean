/-
  LAW CrcMatches: whatever the checksum, the byte, the parts and the bytes: the call returns true. Conditions: none.
-/
import Derived.Test.YteaapmfpojeibaaCrcBack
import Derived.Test.YteaapmfpojeibaaCrcRef
import Derived.Test.YteaapmfpojeibaaMono
namespace Go.Proofs.Yteaapmfpojeibaa
open Go Go.RowKit Go.ChangeShapes Go.WideShapes Go.ChangeAt

set_option maxRecDepth 100000 in
set_option maxHeartbeats 2000000 in
theorem crcMatches_any (w : World) (c : Nat) (hc : c < 4294967296) (x : Nat) (hx : x < 256) (A : Option Addr) (ps : List (List Nat)) (cap : Nat) (hP : Pieces w A ps) (_hl : ps.length ≤ cap) (_hm : cap ≤ maxLen)
    (B : Option Addr) (l : List Nat) (cb : Nat) (hB : At w B (u8s l)) (hb8 : ∀ b ∈ l, b < 256) (_hlb : l.length ≤ cb) (_hmb : cb ≤ maxLen) :
    Calls Try.prog 3 #[.int .u32 c, .int .u8 x, .slice A ps.length cap, .slice B l.length cb] w fun e w' => e = .returned (.bool true) ∧ Below w.heap.size w w' := by
  have hpm : ps.length ≤ maxLen := by omega
  have hlm := _hmb
  unfold maxLen at _hm _hmb
  have hz := zero_tab
  have hi : (Try.prog.info? 27).map (·.size) = some crcTabV.size := by rw [crcTabV_size]; exact size_tab
  have hsz : Hid (crcZero.size = crcTabV.size) := hide (by rw [crcTabV_size, crcZero_size])
  go_enter Try.func3, Try.ntmps3
  go_wp2_with fail
  refine (refGreat_any A ps cap w hP hpm).mono ?_
  rintro e w' ⟨g, rfl, rfl⟩
  by_cases hgd : g = true ∨ 300 < l.length
  · have hwakes : ∀ (Q : Prop), Q → Q := fun _ h => h
    clear hwakes
    cases g
    · have h300 : 300 < l.length := by simpa using hgd
      clear hgd
      go_wp2_with fail
      refine (crcWakes_any _).mono ?_
      rintro e w' ⟨rfl, hb⟩
      go_wp2_with fail
      go_ret
      exact ⟨rfl, hb⟩
    · clear hgd
      go_wp2_with fail
      refine (crcWakes_any _).mono ?_
      rintro e w' ⟨rfl, hb⟩
      go_wp2_with fail
      go_ret
      exact ⟨rfl, hb⟩
  · have hg : g = false := by cases g <;> simp_all
    subst hg
    have h300 : l.length ≤ 300 := by omega
    clear hgd
    go_wp2_with fail
    refine (table_any _).mono ?_
    rintro e w1 ⟨rfl, hb1⟩
    go_wp2_with (
      (refine wpList_store_box rfl 27 _ _ rfl w1.heap.size rfl crcTabV rfl 27 crcZero (Box.new _ _ _) hi hsz.out crcTabV_one ?_
       have hbx : Box ((w1.alloc (.cells crcZero 27)).setRow w1.heap.size crcTabV) w1.heap.size 27 crcTabV := (Box.new _ _ _).row _
       have hb2 : Below w.heap.size w ((w1.alloc (.cells crcZero 27)).setRow w1.heap.size crcTabV) := below_row (hb1.alloc hb1.size _) hb1.size _
       generalize (w1.alloc (.cells crcZero 27)).setRow w1.heap.size crcTabV = w2 at *
       generalize w1.heap.size = g at *
       clear hz hsz hi hb1))
    have hB2 := hB.below hb2
    refine (take_any B l cb _ hB2 hb8 _hlb hlm).mono ?_
    rintro e w' ⟨rfl, rfl⟩
    generalize hT : crcTake l = T
    have HT := hide hT
    clear hT
    go_wp2_with fail
    refine (refTake_any B l cb _ hB2 hb8 _hlb hlm).mono ?_
    rintro e w3 ⟨rfl, hb⟩
    rw [HT.out]
    have hb3 := below_then hb2 hb
    have hx3 := (hbx.keep hb).cell x
    rw [crcTabV_get hx] at hx3
    have hP3 : Pieces w3 A ps := hP.below hb3
    have hPd : Pieces w3.drew A ps := hP3
    have hxi : (x : Int) < 256 := by omega
    have hcl := crcPut_lt c hc
    clear hb hbx hB hB2 hb2 hP HT
    go_wp2_with fail
    refine Mono.wp_region_mono 86 rfl (by kernel_rfl) (by kernel_rfl) Ext Ext.refl Ext.trans ?_
    have hx3' : w3.drew.cell? ⟨g, x, none⟩ = some (.int .u32 (crcRow x : Int)) := hx3
    repeat (refine Mono.regOk_ex ?_; apply Exists.intro; refine ⟨fun vs w' hR hF => ?_, ?_⟩; (focus (have hRb := hR.out; have hxx := (Below.cell hR (block_lt_of_cell hx3')).trans hx3'; (try simp at hF); unfold Mono.gives; go_simp; first | exact ⟨rfl, Ext.refl _⟩ | with_reducible exact gives_same (refRow_any _ _ hx) rfl | with_reducible exact gives_same (step_any _ _ _ hc hx) rfl | with_reducible exact gives_same (refStep_any _ _ _ hc hx) rfl | with_reducible exact gives_call (of_any _ ps _ _ (hPd.below hRb) hpm) rfl | with_reducible exact gives_same (refOf_any _ ps _ _ (hPd.below hRb) hpm) rfl | with_reducible exact gives_call (feed_any _ _ ps _ _ hc (hPd.below hRb) hpm) rfl | with_reducible exact gives_same (refFeed_any _ _ ps _ _ hc (hPd.below hRb) hpm) rfl | with_reducible exact gives_call (crcWakes_any _) rfl)); simp only [Act.put, List.setIfInBounds_toArray, List.set_cons_zero, List.set_cons_succ])
    refine Mono.regOk_pred (fun v w => ∃ B, v = .slice B 4 4 ∧ At w B (u8s (crcPut c))) (fun v w w' ⟨B, h1, h2⟩ h => ⟨B, h1, h2.below h⟩) (fun vs w' hR hF => ?_) ?_
    · simp at hF
      unfold Mono.gives
      go_simp
      refine Calls.mono (put_any c w' hc) ?_
      rintro e w'' ⟨rfl, rfl⟩
      exact ⟨_, rfl, ⟨_, rfl, at_new _ _ _⟩, below_new _ _⟩
    simp only [Act.put, List.setIfInBounds_toArray, List.set_cons_zero, List.set_cons_succ]
    refine Mono.regOk_val (.string (str8 (crcPut c))) (fun vs w' hR hF => ?_) ?_
    · simp at hF
      obtain ⟨⟨B', h1, h2⟩, _⟩ := hF
      have hst := run_str (P := Try.prog) h2 24 9 5 4 4 rfl Try.underlying24 Try.underlying5 Try.underlying9
      unfold Mono.gives
      go_simp
      exact ⟨rfl, Ext.refl _⟩
    simp only [Act.put, List.setIfInBounds_toArray, List.set_cons_zero, List.set_cons_succ]
    repeat (refine Mono.regOk_ex ?_; apply Exists.intro; refine ⟨fun vs w' hR hF => ?_, ?_⟩; (focus (have hRb := hR.out; have hxx := (Below.cell hR (block_lt_of_cell hx3')).trans hx3'; (try simp at hF); unfold Mono.gives; go_simp; first | exact ⟨rfl, Ext.refl _⟩ | with_reducible exact gives_same (refRow_any _ _ hx) rfl | with_reducible exact gives_same (step_any _ _ _ hc hx) rfl | with_reducible exact gives_same (refStep_any _ _ _ hc hx) rfl | with_reducible exact gives_call (of_any _ ps _ _ (hPd.below hRb) hpm) rfl | with_reducible exact gives_same (refOf_any _ ps _ _ (hPd.below hRb) hpm) rfl | with_reducible exact gives_call (feed_any _ _ ps _ _ hc (hPd.below hRb) hpm) rfl | with_reducible exact gives_same (refFeed_any _ _ ps _ _ hc (hPd.below hRb) hpm) rfl | with_reducible exact gives_call (crcWakes_any _) rfl)); simp only [Act.put, List.setIfInBounds_toArray, List.set_cons_zero, List.set_cons_succ])
    refine Mono.regOk_pred (fun v w => ∃ B, v = .slice B 4 4 ∧ At w B (u8s (crcPut c))) (fun v w w' ⟨B, h1, h2⟩ h => ⟨B, h1, h2.below h⟩) (fun vs w' hR hF => ?_) ?_
    · simp at hF
      unfold Mono.gives
      go_simp
      refine Calls.mono (refPut_any c w' hc) ?_
      rintro e w'' ⟨rfl, rfl⟩
      exact ⟨_, rfl, ⟨_, rfl, at_new _ _ _⟩, below_new _ _⟩
    simp only [Act.put, List.setIfInBounds_toArray, List.set_cons_zero, List.set_cons_succ]
    refine Mono.regOk_val (.string (str8 (crcPut c))) (fun vs w' hR hF => ?_) ?_
    · simp at hF
      obtain ⟨⟨B', h1, h2⟩, _⟩ := hF
      have hst := run_str (P := Try.prog) h2 24 9 5 4 4 rfl Try.underlying24 Try.underlying5 Try.underlying9
      unfold Mono.gives
      go_simp
      exact ⟨rfl, Ext.refl _⟩
    simp only [Act.put, List.setIfInBounds_toArray, List.set_cons_zero, List.set_cons_succ]
    repeat (refine Mono.regOk_ex ?_; apply Exists.intro; refine ⟨fun vs w' hR hF => ?_, ?_⟩; (focus (have hRb := hR.out; have hxx := (Below.cell hR (block_lt_of_cell hx3')).trans hx3'; (try simp at hF); unfold Mono.gives; go_simp; first | exact ⟨rfl, Ext.refl _⟩ | with_reducible exact gives_same (refRow_any _ _ hx) rfl | with_reducible exact gives_same (step_any _ _ _ hc hx) rfl | with_reducible exact gives_same (refStep_any _ _ _ hc hx) rfl | with_reducible exact gives_call (of_any _ ps _ _ (hPd.below hRb) hpm) rfl | with_reducible exact gives_same (refOf_any _ ps _ _ (hPd.below hRb) hpm) rfl | with_reducible exact gives_call (feed_any _ _ ps _ _ hc (hPd.below hRb) hpm) rfl | with_reducible exact gives_same (refFeed_any _ _ ps _ _ hc (hPd.below hRb) hpm) rfl | with_reducible exact gives_call (crcWakes_any _) rfl)); simp only [Act.put, List.setIfInBounds_toArray, List.set_cons_zero, List.set_cons_succ])
    refine Mono.regOk_nil fun vs w' hR hF => ?_
    simp at hF
    simp only [hF]
    have hbe := below_then hb3 hR.drawn
    go_wp2_with fail
    go_ret
    exact ⟨rfl, hbe⟩

theorem crcMatches_reads : ∀ t ∈ Try.f3.params.toList, Try.prog.readableRec t = true ∧ t < Try.prog.types.size := by
  rw [Try.params3]
  simp only [List.forall_mem_cons, List.not_mem_nil, false_imp_iff, implies_true, and_true]
  exact ⟨⟨by kernel_rfl, by decide +kernel⟩, ⟨by kernel_rfl, by decide +kernel⟩, ⟨by kernel_rfl, by decide +kernel⟩, ⟨by kernel_rfl, by decide +kernel⟩⟩

set_option maxRecDepth 100000 in
theorem crcMatches_lifted (os : Os) (started : os.Started) (H : Type) (enc : TypeId × Value → H) :
    ReturnsInHanded {} Try.checked os 3 .any (Rows.crcMatchesSpec.pre6 enc Try.prog Try.f3 Rows.crcMatchesRow.domain false) (Rows.crcMatchesSpec.post enc Try.prog Try.f3 false true false false) := by
  refine returnsInHanded_of_change (C := Try.checked) own_knob started (by kernel_rfl) Try.func3
    (ChangeSpec.witness6 (enc := enc) (C := Try.checked) false ⟨#[], #[.int .u32 0, .int .u8 0, .slice none 0 0, .slice none 0 0], []⟩ 8 (by kernel_rfl) (by kernel_rfl) (by kernel_rfl) (by kernel_rfl)) ?_
  intro W base args ds gs before hval0 hW hcnd _
  have hval : ∀ (j : Nat) t v, Try.f3.params[j]? = some t → args[j]? = some v → Value.okWide Try.prog W .any base t v := hval0
  have hW' := hW
  obtain ⟨p, q, hA0, hV, rfl, hfz, hnd⟩ := hW
  have hA : DataW.TrodAll enc Try.prog W 0 (fun _ => true) true Try.f3.params.toList args.toList ds p := hA0
  rw [Try.params3] at hA hval
  obtain ⟨v0, v1, v2, v3, d0, d1, d2, d3, p0, p1, p2, p3, rfl, rfl, rfl, h0, h1, h2, h3⟩ := trodAll_four hA
  obtain ⟨rfl, rfl⟩ := trodVars_none hV
  obtain ⟨x0, rfl, hx0⟩ := open_nat Try.underlying22 rfl (hval 0 22 v0 rfl rfl) h0
  have hb0 : x0 < 4294967296 := by
    have : IntKind.u32.max = 4294967295 := by decide
    omega
  obtain ⟨x1, rfl, hx1⟩ := open_nat Try.underlying5 rfl (hval 1 5 v1 rfl rfl) h1
  have hb1 : x1 < 256 := by
    have : IntKind.u8.max = 255 := by decide
    omega
  obtain ⟨A2, l2, c2, rfl, ha2, hc2, hd2⟩ := open_pieces Try.underlying23 Try.underlying24 Try.underlying5 (by kernel_rfl) (by kernel_rfl) (hval 2 23 v2 rfl rfl) h2
  obtain ⟨A3, l3, c3, rfl, ha3, hb3, hc3, hd3⟩ := open_bytes Try.underlying24 Try.underlying5 (by kernel_rfl) (hval 3 24 v3 rfl rfl) h3
  refine (crcMatches_any W x0 hb0 x1 hb1 A2 l2 c2 ha2 hc2 hd2 A3 l3 c3 ha3 hb3 hc3 hd3).mono fun e W' ⟨he, hb⟩ => ⟨_, he, ?_⟩
  exact law_post (tb := 4) hW' laid_out crcMatches_reads rfl rfl Try.underlying4 rfl hb

/-- **THE STATEMENT.** -/
theorem crcMatches_holds : Rows.CrcMatchesSaid :=
  OpenClaim.holds_of_wide 3 Try.f3 rfl rfl rfl rfl rfl rfl rfl ⟨rfl, rfl, rfl, rfl, rfl⟩ rfl rfl rfl rfl rfl (by kernel_rfl) Try.func3 (by kernel_rfl)
    (of_decide_eq_true (by kernel_rfl)) (by unfold Func.isWrapper; rw [if_neg (of_decide_eq_false (by kernel_rfl))]; exact ⟨rfl, rfl⟩)
    (fun os started H enc _ => crcMatches_lifted os started H enc)

end Go.Proofs.Yteaapmfpojeibaa
