/-
  HeaderSteps: repeated steps lead to what Take and TakeMark return, or to the same error, through valid states. Conditions: none.
-/
import Derived.Test.YtpjjkmfidghkjaaHdY
import Derived.Test.YtpjjkmfidghkjaaAArgs
set_option linter.all false
namespace Go.Proofs.Ytpjjkmfidghkjaa
open Go Go.RowKit Go.ChangeShapes Go.WideShapes Go.ChangeAt Go.Deep AM VarA

theorem headerSteps_reads : ∀ t ∈ Try.f6.params.toList, Try.prog.readableRec t = true ∧ t < Try.prog.types.size := by
  rw [Try.params6]
  simp only [List.forall_mem_cons, List.not_mem_nil, false_imp_iff, implies_true, and_true]
  exact ⟨⟨by kernel_rfl, by decide +kernel⟩, ⟨by kernel_rfl, by decide +kernel⟩⟩

set_option maxRecDepth 100000 in
theorem headerSteps_lifted (os : Os) (started : os.Started) (H : Type) (enc : TypeId × Value → H) :
    ReturnsInHanded {} Try.checked os 6 .any (Rows.headerStepsSpec.pre6 enc Try.prog Try.f6 Rows.headerStepsRow.domain false) (Rows.headerStepsSpec.post enc Try.prog Try.f6 false true false false) := by
  refine returnsInHanded_of_change (C := Try.checked) own_knob started (by kernel_rfl) Try.func6
    (ChangeSpec.witness6 (enc := enc) (C := Try.checked) false ⟨#[], #[.int .i64 0, .slice none 0 0], []⟩ 8 (by kernel_rfl) (by kernel_rfl) (by kernel_rfl) (by kernel_rfl)) ?_
  intro W base args ds gs before hval0 hW hcnd _
  have hval : ∀ (j : Nat) t v, Try.f6.params[j]? = some t → args[j]? = some v → Value.okWide Try.prog W .any base t v := hval0
  have hW' := hW
  obtain ⟨p, q, hA0, hV, rfl, hfz, hnd⟩ := hW
  have hA : DataW.TrodAll enc Try.prog W 0 (fun _ => true) true Try.f6.params.toList args.toList ds p := hA0
  rw [Try.params6] at hA hval
  obtain ⟨v0, vs0, d0, ds0, p0, q0, hargs, rfl, rfl, h0, r0⟩ := trodAll_cons hA
  obtain ⟨v1, vs1, d1, ds1, p1, q1, rfl, rfl, rfl, h1, r1⟩ := trodAll_cons r0
  obtain ⟨rfl, rfl, rfl⟩ := trodAll_nil r1
  obtain rfl : args = #[v0, v1] := by cases args; simp_all
  obtain ⟨rfl, rfl⟩ := trodVars_none hV
  have A0 := Argd.nil W
  obtain ⟨x0, rfl, hx0, hy0⟩ := open_i64 Try.underlying3 (hval 0 3 v0 rfl rfl) h0
  have A1 := A0.sc (v := .int .i64 x0) rfl
  obtain ⟨B1, l1, c1, rfl, ha1, hb1, hc1, hd1, he1, hf1⟩ := open_bytes_am Try.underlying33 Try.underlying5 (by kernel_rfl) (hval 1 33 v1 rfl rfl) h1
  obtain ⟨X1, bs1, w1, A2, R1⟩ := A1.bytes ha1 hb1 hc1 hd1 he1 hf1
  refine (law_run ArEnv.env_or ArEnv.mixed A2 (steps_law24 x0 hx0 hy0 R1)).mono fun e W' ⟨he, hb⟩ => ⟨_, he, ?_⟩
  exact law_post (tb := 4) hW' laid_out headerSteps_reads rfl rfl Try.underlying4 rfl hb

/-- **THE STATEMENT.** -/
theorem headerSteps_holds : Rows.HeaderStepsSaid :=
  OpenClaim.holds_of_wide 6 Try.f6 rfl rfl rfl rfl rfl rfl rfl ⟨rfl, rfl, rfl, rfl, rfl⟩ rfl rfl rfl rfl rfl (by kernel_rfl) Try.func6 (by kernel_rfl)
    (of_decide_eq_true (by kernel_rfl)) (by unfold Func.isWrapper; rw [if_neg (of_decide_eq_false (by kernel_rfl))]; exact ⟨rfl, rfl⟩)
    (fun os started H enc _ => headerSteps_lifted os started H enc)

end Go.Proofs.Ytpjjkmfidghkjaa
