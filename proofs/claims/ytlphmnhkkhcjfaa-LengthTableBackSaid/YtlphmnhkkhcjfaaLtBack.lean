/-
  LengthTableBack: Read and repeated Step return what Of wrote, whatever follows it; the state is done after the last bit and not before; and fewer bits are ErrShort. Conditions: none.
-/
import Derived.Test.YtlphmnhkkhcjfaaLtZ
import Derived.Test.YtlphmnhkkhcjfaaARows
set_option linter.all false
namespace Go.Proofs.Ytlphmnhkkhcjfaa
open Go Go.RowKit Go.ChangeShapes Go.WideShapes Go.ChangeAt Go.Deep AM LtA

theorem lengthTableBack_reads : ∀ t ∈ Try.f3.params.toList, Try.prog.readableRec t = true ∧ t < Try.prog.types.size := by
  rw [Try.params3]
  simp only [List.forall_mem_cons, List.not_mem_nil, false_imp_iff, implies_true, and_true]
  exact ⟨⟨by kernel_rfl, by decide +kernel⟩, ⟨by kernel_rfl, by decide +kernel⟩, ⟨by kernel_rfl, by decide +kernel⟩⟩

set_option maxRecDepth 100000 in
theorem lengthTableBack_lifted (os : Os) (started : os.Started) (H : Type) (enc : TypeId × Value → H) :
    ReturnsInHanded {} Try.checked os 3 .any (Rows.lengthTableBackSpec.pre6 enc Try.prog Try.f3 Rows.lengthTableBackRow.domain false) (Rows.lengthTableBackSpec.post enc Try.prog Try.f3 false true false false) := by
  refine returnsInHanded_of_change (C := Try.checked) own_knob started (by kernel_rfl) Try.func3
    (ChangeSpec.witness6 (enc := enc) (C := Try.checked) false ⟨#[], #[.agg (Array.replicate 258 (.int .u8 0)), .slice none 0 0, .int .i64 0], []⟩ 8 (by kernel_rfl) (by kernel_rfl) (by kernel_rfl) (by kernel_rfl)) ?_
  intro W base args ds gs before hval0 hW hcnd _
  have hval : ∀ (j : Nat) t v, Try.f3.params[j]? = some t → args[j]? = some v → Value.okWide Try.prog W .any base t v := hval0
  have hW' := hW
  obtain ⟨p, q, hA0, hV, rfl, hfz, hnd⟩ := hW
  have hA : DataW.TrodAll enc Try.prog W 0 (fun _ => true) true Try.f3.params.toList args.toList ds p := hA0
  rw [Try.params3] at hA hval
  obtain ⟨v0, vs0, d0, ds0, p0, q0, hargs, rfl, rfl, h0, r0⟩ := trodAll_cons hA
  obtain ⟨v1, vs1, d1, ds1, p1, q1, rfl, rfl, rfl, h1, r1⟩ := trodAll_cons r0
  obtain ⟨v2, vs2, d2, ds2, p2, q2, rfl, rfl, rfl, h2, r2⟩ := trodAll_cons r1
  obtain ⟨rfl, rfl, rfl⟩ := trodAll_nil r2
  obtain rfl : args = #[v0, v1, v2] := by cases args; simp_all
  obtain ⟨rfl, rfl⟩ := trodVars_none hV
  have A0 := Argd.nil W
  obtain ⟨x0, rfl, y0, z0⟩ := open_arr8 Try.underlying23 Try.underlying5 (by kernel_rfl) (by kernel_rfl) (hval 0 23 v0 rfl rfl) h0
  have A1 := A0.agg (cs := (u8s x0).toArray) (by first | (simp [AM.sc]; done) | (simp [AM.sc, u8s]; done) | (simp [AM.sc, i64s]; done))
  obtain ⟨B1, l1, c1, rfl, ha1, hc1, hd1, he1, hf1⟩ := open_introws Try.underlying24 Try.underlying3 (by kernel_rfl) (hval 1 24 v1 rfl rfl) h1
  obtain ⟨X1, bs1, w1, A2, R1⟩ := A1.cells ha1 (ints_sc .i64 l1) hc1 hd1 he1 hf1
  obtain ⟨x2, rfl, hx2, hy2⟩ := open_i64 Try.underlying3 (hval 2 3 v2 rfl rfl) h2
  have A3 := A2.sc (v := .int .i64 x2) rfl
  refine (law_run ArEnv.env_or ArEnv.mixed A3 (lback_arg x0 y0 z0 l1 w1 R1 x2 hx2 hy2)).mono fun e W' ⟨he, hb⟩ => ⟨_, he, ?_⟩
  exact law_post (tb := 4) hW' laid_out lengthTableBack_reads rfl rfl Try.underlying4 rfl hb

/-- **THE STATEMENT.** -/
theorem lengthTableBack_holds : Rows.LengthTableBackSaid :=
  OpenClaim.holds_of_wide 3 Try.f3 rfl rfl rfl rfl rfl rfl rfl ⟨rfl, rfl, rfl, rfl, rfl⟩ rfl rfl rfl rfl rfl (by kernel_rfl) Try.func3 (by kernel_rfl)
    (of_decide_eq_true (by kernel_rfl)) (by unfold Func.isWrapper; rw [if_neg (of_decide_eq_false (by kernel_rfl))]; exact ⟨rfl, rfl⟩)
    (fun os started H enc _ => lengthTableBack_lifted os started H enc)

end Go.Proofs.Ytlphmnhkkhcjfaa
