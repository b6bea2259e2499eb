/-
  BitWriterMatches: Put, Pad, Len, Bytes, Get and Of return what the reference returns, operation by operation. Conditions: none.
-/
import Derived.Test.YtceecoagooalpaaBmF
set_option linter.all false
namespace Go.Proofs.Ytceecoagooalpaa
open Go Go.RowKit Go.ChangeShapes Go.WideShapes Go.ChangeAt Go.Deep AM Bt

theorem bitWriterMatches_reads : ∀ t ∈ Try.f8.params.toList, Try.prog.readableRec t = true ∧ t < Try.prog.types.size := by
  rw [Try.params8]
  simp only [List.forall_mem_cons, List.not_mem_nil, false_imp_iff, implies_true, and_true]
  exact ⟨⟨by kernel_rfl, by decide +kernel⟩, ⟨by kernel_rfl, by decide +kernel⟩, ⟨by kernel_rfl, by decide +kernel⟩, ⟨by kernel_rfl, by decide +kernel⟩⟩

set_option maxRecDepth 100000 in
theorem bitWriterMatches_lifted (os : Os) (started : os.Started) (H : Type) (enc : TypeId × Value → H) :
    ReturnsInHanded {} Try.checked os 8 .any (Rows.bitWriterMatchesSpec.pre6 enc Try.prog Try.f8 Rows.bitWriterMatchesRow.domain false) (Rows.bitWriterMatchesSpec.post enc Try.prog Try.f8 false true false false) := by
  refine returnsInHanded_of_change (C := Try.checked) own_knob started (by kernel_rfl) Try.func8
    (ChangeSpec.witness6 (enc := enc) (C := Try.checked) false ⟨#[], #[.slice none 0 0, .slice none 0 0, .int .i64 0, .int .i64 0], []⟩ 8 (by kernel_rfl) (by kernel_rfl) (by kernel_rfl) (by kernel_rfl)) ?_
  intro W base args ds gs before hval0 hW hcnd _
  have hval : ∀ (j : Nat) t v, Try.f8.params[j]? = some t → args[j]? = some v → Value.okWide Try.prog W .any base t v := hval0
  have hW' := hW
  obtain ⟨p, q, hA0, hV, rfl, hfz, hnd⟩ := hW
  have hA : DataW.TrodAll enc Try.prog W 0 (fun _ => true) true Try.f8.params.toList args.toList ds p := hA0
  rw [Try.params8] at hA hval
  obtain ⟨v0, vs0, d0, ds0, p0, q0, hargs, rfl, rfl, h0, r0⟩ := trodAll_cons hA
  obtain ⟨v1, vs1, d1, ds1, p1, q1, rfl, rfl, rfl, h1, r1⟩ := trodAll_cons r0
  obtain ⟨v2, vs2, d2, ds2, p2, q2, rfl, rfl, rfl, h2, r2⟩ := trodAll_cons r1
  obtain ⟨v3, vs3, d3, ds3, p3, q3, rfl, rfl, rfl, h3, r3⟩ := trodAll_cons r2
  obtain ⟨rfl, rfl, rfl⟩ := trodAll_nil r3
  obtain rfl : args = #[v0, v1, v2, v3] := by cases args; simp_all
  obtain ⟨rfl, rfl⟩ := trodVars_none hV
  have A0 := Argd.nil W
  obtain ⟨B0, l0, c0, rfl, ha0, hg0, hc0, hd0, he0, hf0⟩ := Bt.open_deeds Try.underlying40 Try.underlying51 Try.underlying49 Try.underlying3 Try.underlying4 ⟨rfl, rfl⟩ ⟨rfl, rfl⟩ ⟨rfl, rfl⟩ (by kernel_rfl) (by kernel_rfl) (by kernel_rfl) (by kernel_rfl) (hval 0 40 v0 rfl rfl) h0
  obtain ⟨X0, bs0, w0, A1, R0⟩ := A0.cells ha0 (Bt.deeds_sc l0) hc0 hd0 he0 hf0
  obtain ⟨B1, l1, c1, rfl, ha1, hb1, hc1, hd1, he1, hf1⟩ := open_bytes_am Try.underlying22 Try.underlying5 (by kernel_rfl) (hval 1 22 v1 rfl rfl) h1
  obtain ⟨X1, bs1, w1, A2, R1⟩ := A1.bytes ha1 hb1 hc1 hd1 he1 hf1
  obtain ⟨x2, rfl, hx2, hy2⟩ := open_i64 Try.underlying3 (hval 2 3 v2 rfl rfl) h2
  have A3 := A2.sc (v := .int .i64 x2) rfl
  obtain ⟨x3, rfl, hx3, hy3⟩ := open_i64 Try.underlying3 (hval 3 3 v3 rfl rfl) h3
  have A4 := A3.sc (v := .int .i64 x3) rfl
  refine (law_run ArEnv.env_or ArEnv.mixed A4 (match_arg l0 hg0 w0 R0 R1 x2 hx2 hy2 x3 hx3 hy3)).mono fun e W' ⟨he, hb⟩ => ⟨_, he, ?_⟩
  exact law_post (tb := 4) hW' laid_out bitWriterMatches_reads rfl rfl Try.underlying4 rfl hb

/-- **THE STATEMENT.** -/
theorem bitWriterMatches_holds : Rows.BitWriterMatchesSaid :=
  OpenClaim.holds_of_wide 8 Try.f8 rfl rfl rfl rfl rfl rfl rfl ⟨rfl, rfl, rfl, rfl, rfl⟩ rfl rfl rfl rfl rfl (by kernel_rfl) Try.func8 (by kernel_rfl)
    (of_decide_eq_true (by kernel_rfl)) (by unfold Func.isWrapper; rw [if_neg (of_decide_eq_false (by kernel_rfl))]; exact ⟨rfl, rfl⟩)
    (fun os started H enc _ => bitWriterMatches_lifted os started H enc)

end Go.Proofs.Ytceecoagooalpaa
