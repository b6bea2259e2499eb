/-
  LAW CrcBack: whatever the checksum and the bytes behind it: the call returns true. Conditions: none.
-/
import Derived.Test.YteaapmfpojeibaaCrcWakes
import Derived.Test.YteaapmfpojeibaaLaw
namespace Go.Proofs.Yteaapmfpojeibaa
open Go Go.RowKit Go.ChangeShapes Go.WideShapes Go.ChangeAt

theorem ety_u8 : Ety Try.prog 24 5 (.int .u8 0) 1 := ⟨Try.underlying24, by kernel_rfl, rfl⟩

set_option maxRecDepth 100000 in
set_option maxHeartbeats 1000000 in
theorem crcBack_any (w : World) (c : Nat) (hc : c < 4294967296) (A : Option Addr) (l : List Nat) (cap : Nat) (hA : At w A (u8s l)) (h8 : ∀ b ∈ l, b < 256) (_hl : l.length ≤ cap) (_hm : cap ≤ maxLen) :
    Calls Try.prog 7 #[.int .u32 c, .slice A l.length cap] w fun e w' => e = .returned (.bool true) ∧ Below w.heap.size w w' := by
  unfold maxLen at _hm
  by_cases h300 : 300 < l.length
  · go_enter Try.func7, Try.ntmps7
    go_wp2_with fail
    refine (crcWakes_any _).mono ?_
    rintro e w' ⟨rfl, hb⟩
    go_wp2_with fail
    go_ret
    exact ⟨rfl, hb⟩
  · go_enter Try.func7, Try.ntmps7
    go_wp2_with fail
    refine (put_any c _ hc).mono ?_
    rintro e w1 ⟨rfl, he⟩
    have hb1 : Below w.heap.size w w1 := he ▸ below_new _ _
    have hp1 : At w1 (some ⟨w.heap.size, 0, none⟩) (u8s (crcPut c)) := he ▸ at_new _ _ _
    have hA1 := hA.below hb1
    clear he hA
    have hl2 : l.length ≤ 300 := by omega
    go_wp2_with (first
      | (at_builtin
         refine (wpList_append_at rfl (.tmp 17) (.tmp 18) _ rfl ety_u8 (.slice (some ⟨w1.heap.size, 0, none⟩) 0 0) rfl (n := 0) (xs := []) (own_new w1 _ w1.heap.size [] (Nat.le_refl _) (by simp)) (m := 4) rfl (hp1.alloc _) rfl (u8s_one _) (by omega) (by omega) (by simp) ?_)
         intro v2 w2 hown2 hg2 _
         have hb2 : Below w1.heap.size w1 w2 := (below_new w1 _).grown hg2 (by simp) (by simp [Value.ownBlock])
         obtain ⟨A2, c2, rfl, _, _, hn2, hm2⟩ := own_form hown2
         have hA2 := hA1.below hb2)
      | (at_builtin
         refine (wpList_append_at rfl (.tmp 19) (.tmp 20) _ rfl ety_u8 (.slice A2 4 c2) rfl (n := 4) (xs := u8s (crcPut c)) hown2 (m := l.length) rfl hA2 (u8s_length _) (u8s_one _) (by omega) (by omega) hb2.size ?_)
         intro v3 w3 hown3 hg3 _
         have hb3 : Below w1.heap.size w1 w3 := hb2.grown hg3 hb2.size (fun k hk => (hown2.lt k hk).1)
         obtain ⟨A3, c3, rfl, hA3, _, hn3, hm3⟩ := own_form hown3))
    have hput := crcPut_lt c hc
    have hb4 := below_then hb1 hb3
    have hp3 := hp1.below hb3
    clear hown2 hg2 hown3 hg3 hb2 hp1 hA1 hA2 hb3
    unfold maxLen at hm2 hm3
    (with_reducible refine (take_bl _ _ _ _ (crcPut c ++ l) ?c1 ?c2 ?c3 ?c4 ?c5).mono ?_)
    case c1 => simp [crcPut]; omega
    case c2 => rw [u8s_append]; exact hA3
    case c3 => exact fun b hb => (List.mem_append.1 hb).elim (hput b) (h8 b)
    case c4 => exact hn3
    case c5 => exact hm3
    rintro e w4 ⟨rfl, hb⟩
    have hb5 := below_then hb4 hb
    have hp4 := hp3.below hb
    clear hb hb4 hA3 hp3
    rw [crcTake_put c l]
    go_wp2_with fail
    (with_reducible refine (take_bl _ _ _ _ ((crcPut c).take 3) ?d1 ?d2 ?d3 ?d4 ?d5).mono ?_)
    case d1 => rfl
    case d2 => rw [u8s_take]; exact hp4.take 3
    case d3 => exact fun b hb => hput b (List.mem_of_mem_take hb)
    case d4 => decide
    case d5 => decide
    rintro e w5 ⟨rfl, hb⟩
    have hb6 := below_then hb5 hb
    clear hb hb5 hp4
    rw [crcTake_short _ (show ((crcPut c).take 3).length < 4 from by simp; omega)]
    go_wp2_with fail
    refine (crcWakes_any _).mono ?_
    rintro e w6 ⟨rfl, hb⟩
    go_wp2_with fail
    go_ret
    exact ⟨rfl, below_then hb6 hb⟩

theorem crcBack_reads : ∀ t ∈ Try.f7.params.toList, Try.prog.readableRec t = true ∧ t < Try.prog.types.size := by
  rw [Try.params7]
  simp only [List.forall_mem_cons, List.not_mem_nil, false_imp_iff, implies_true, and_true]
  exact ⟨⟨by kernel_rfl, by decide +kernel⟩, ⟨by kernel_rfl, by decide +kernel⟩⟩

set_option maxRecDepth 100000 in
theorem crcBack_lifted (os : Os) (started : os.Started) (H : Type) (enc : TypeId × Value → H) :
    ReturnsInHanded {} Try.checked os 7 .any (Rows.crcBackSpec.pre6 enc Try.prog Try.f7 Rows.crcBackRow.domain false) (Rows.crcBackSpec.post enc Try.prog Try.f7 false true false false) := by
  refine returnsInHanded_of_change (C := Try.checked) own_knob started (by kernel_rfl) Try.func7
    (ChangeSpec.witness6 (enc := enc) (C := Try.checked) false ⟨#[], #[.int .u32 0, .slice none 0 0], []⟩ 8 (by kernel_rfl) (by kernel_rfl) (by kernel_rfl) (by kernel_rfl)) ?_
  intro W base args ds gs before hval0 hW hcnd _
  have hval : ∀ (j : Nat) t v, Try.f7.params[j]? = some t → args[j]? = some v → Value.okWide Try.prog W .any base t v := hval0
  have hW' := hW
  obtain ⟨p, q, hA0, hV, rfl, hfz, hnd⟩ := hW
  have hA : DataW.TrodAll enc Try.prog W 0 (fun _ => true) true Try.f7.params.toList args.toList ds p := hA0
  rw [Try.params7] at hA hval
  obtain ⟨v0, v1, d0, d1, p0, p1, rfl, rfl, rfl, h0, h1⟩ := trodAll_two hA
  obtain ⟨rfl, rfl⟩ := trodVars_none hV
  obtain ⟨x0, rfl, hx0⟩ := open_nat Try.underlying22 rfl (hval 0 22 v0 rfl rfl) h0
  have hb0 : x0 < 4294967296 := by
    have : IntKind.u32.max = 4294967295 := by decide
    omega
  obtain ⟨A1, l1, c1, rfl, ha1, hb1, hc1, hd1⟩ := open_bytes Try.underlying24 Try.underlying5 (by kernel_rfl) (hval 1 24 v1 rfl rfl) h1
  refine (crcBack_any W x0 hb0 A1 l1 c1 ha1 hb1 hc1 hd1).mono fun e W' ⟨he, hb⟩ => ⟨_, he, ?_⟩
  exact law_post (tb := 4) hW' laid_out crcBack_reads rfl rfl Try.underlying4 rfl hb

/-- **THE STATEMENT.** -/
theorem crcBack_holds : Rows.CrcBackSaid :=
  OpenClaim.holds_of_wide 7 Try.f7 rfl rfl rfl rfl rfl rfl rfl ⟨rfl, rfl, rfl, rfl, rfl⟩ rfl rfl rfl rfl rfl (by kernel_rfl) Try.func7 (by kernel_rfl)
    (of_decide_eq_true (by kernel_rfl)) (by unfold Func.isWrapper; rw [if_neg (of_decide_eq_false (by kernel_rfl))]; exact ⟨rfl, rfl⟩)
    (fun os started H enc _ => crcBack_lifted os started H enc)

end Go.Proofs.Yteaapmfpojeibaa
