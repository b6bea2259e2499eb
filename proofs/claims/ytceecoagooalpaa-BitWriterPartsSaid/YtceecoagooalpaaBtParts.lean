/-
  BitWriterParts: writing a number in two parts produces the same bits as writing it at once, and Put accepts exactly the numbers that fit. Conditions: none.
-/
import Derived.Test.YtceecoagooalpaaBtLaw
import Derived.Test.YtceecoagooalpaaAArgs
set_option linter.all false
namespace Go.Proofs.Ytceecoagooalpaa
open Go Go.RowKit Go.ChangeShapes Go.WideShapes Go.ChangeAt Go.Deep AM Bt

theorem bitWriterParts_reads : ∀ t ∈ Try.f10.params.toList, Try.prog.readableRec t = true ∧ t < Try.prog.types.size := by
  rw [Try.params10]
  simp only [List.forall_mem_cons, List.not_mem_nil, false_imp_iff, implies_true, and_true]
  exact ⟨⟨by kernel_rfl, by decide +kernel⟩, ⟨by kernel_rfl, by decide +kernel⟩, ⟨by kernel_rfl, by decide +kernel⟩⟩

set_option maxRecDepth 100000 in
theorem bitWriterParts_lifted (os : Os) (started : os.Started) (H : Type) (enc : TypeId × Value → H) :
    ReturnsInHanded {} Try.checked os 10 .any (Rows.bitWriterPartsSpec.pre6 enc Try.prog Try.f10 Rows.bitWriterPartsRow.domain false) (Rows.bitWriterPartsSpec.post enc Try.prog Try.f10 false true false false) := by
  refine returnsInHanded_of_change (C := Try.checked) own_knob started (by kernel_rfl) Try.func10
    (ChangeSpec.witness6 (enc := enc) (C := Try.checked) false ⟨#[], #[.int .u32 0, .int .i64 0, .int .i64 0], []⟩ 8 (by kernel_rfl) (by kernel_rfl) (by kernel_rfl) (by kernel_rfl)) ?_
  intro W base args ds gs before hval0 hW hcnd _
  have hval : ∀ (j : Nat) t v, Try.f10.params[j]? = some t → args[j]? = some v → Value.okWide Try.prog W .any base t v := hval0
  have hW' := hW
  obtain ⟨p, q, hA0, hV, rfl, hfz, hnd⟩ := hW
  have hA : DataW.TrodAll enc Try.prog W 0 (fun _ => true) true Try.f10.params.toList args.toList ds p := hA0
  rw [Try.params10] at hA hval
  obtain ⟨v0, vs0, d0, ds0, p0, q0, hargs, rfl, rfl, h0, r0⟩ := trodAll_cons hA
  obtain ⟨v1, vs1, d1, ds1, p1, q1, rfl, rfl, rfl, h1, r1⟩ := trodAll_cons r0
  obtain ⟨v2, vs2, d2, ds2, p2, q2, rfl, rfl, rfl, h2, r2⟩ := trodAll_cons r1
  obtain ⟨rfl, rfl, rfl⟩ := trodAll_nil r2
  obtain rfl : args = #[v0, v1, v2] := by cases args; simp_all
  obtain ⟨rfl, rfl⟩ := trodVars_none hV
  have A0 := Argd.nil W
  obtain ⟨x0, rfl, hx0⟩ := open_nat Try.underlying49 rfl (hval 0 49 v0 rfl rfl) h0
  have hb0 : x0 < 4294967296 := by
    have : IntKind.u32.max = 4294967295 := by decide
    omega
  have A1 := A0.sc (v := .int .u32 x0) rfl
  obtain ⟨x1, rfl, hx1, hy1⟩ := open_i64 Try.underlying3 (hval 1 3 v1 rfl rfl) h1
  have A2 := A1.sc (v := .int .i64 x1) rfl
  obtain ⟨x2, rfl, hx2, hy2⟩ := open_i64 Try.underlying3 (hval 2 3 v2 rfl rfl) h2
  have A3 := A2.sc (v := .int .i64 x2) rfl
  refine (law_run ArEnv.env_or ArEnv.mixed A3 (parts_run x0 hb0 x1 hx1 hy1 x2 hx2 hy2)).mono fun e W' ⟨he, hb⟩ => ⟨_, he, ?_⟩
  exact law_post (tb := 4) hW' laid_out bitWriterParts_reads rfl rfl Try.underlying4 rfl hb

/-- **THE STATEMENT.** -/
theorem bitWriterParts_holds : Rows.BitWriterPartsSaid :=
  OpenClaim.holds_of_wide 10 Try.f10 rfl rfl rfl rfl rfl rfl rfl ⟨rfl, rfl, rfl, rfl, rfl⟩ rfl rfl rfl rfl rfl (by kernel_rfl) Try.func10 (by kernel_rfl)
    (of_decide_eq_true (by kernel_rfl)) (by unfold Func.isWrapper; rw [if_neg (of_decide_eq_false (by kernel_rfl))]; exact ⟨rfl, rfl⟩)
    (fun os started H enc _ => bitWriterParts_lifted os started H enc)

end Go.Proofs.Ytceecoagooalpaa
