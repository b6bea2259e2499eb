/-
  HeaderBack: Take and TakeMark return what was written, whatever follows it, and one byte fewer is too short. Conditions: none.
-/
import Derived.Test.YtpjjkmfidghkjaaHdZ
import Derived.Test.YtpjjkmfidghkjaaHdK
import Derived.Test.YtpjjkmfidghkjaaAArgs
set_option linter.all false
namespace Go.Proofs.Ytpjjkmfidghkjaa
open Go Go.RowKit Go.ChangeShapes Go.WideShapes Go.ChangeAt Go.Deep AM VarA

theorem headerBack_reads : ∀ t ∈ Try.f4.params.toList, Try.prog.readableRec t = true ∧ t < Try.prog.types.size := by
  rw [Try.params4]
  simp only [List.forall_mem_cons, List.not_mem_nil, false_imp_iff, implies_true, and_true]
  exact ⟨⟨by kernel_rfl, by decide +kernel⟩, ⟨by kernel_rfl, by decide +kernel⟩, ⟨by kernel_rfl, by decide +kernel⟩, ⟨by kernel_rfl, by decide +kernel⟩⟩

set_option maxRecDepth 100000 in
theorem headerBack_lifted (os : Os) (started : os.Started) (H : Type) (enc : TypeId × Value → H) :
    ReturnsInHanded {} Try.checked os 4 .any (Rows.headerBackSpec.pre6 enc Try.prog Try.f4 Rows.headerBackRow.domain false) (Rows.headerBackSpec.post enc Try.prog Try.f4 false true false false) := by
  refine returnsInHanded_of_change (C := Try.checked) own_knob started (by kernel_rfl) Try.func4
    (ChangeSpec.witness6 (enc := enc) (C := Try.checked) false ⟨#[], #[.agg #[.int .i64 0], .agg #[.int .i64 0, .int .i64 0, .int .u32 0], .int .u32 0, .slice none 0 0], []⟩ 8 (by kernel_rfl) (by kernel_rfl) (by kernel_rfl) (by kernel_rfl)) ?_
  intro W base args ds gs before hval0 hW hcnd _
  have hval : ∀ (j : Nat) t v, Try.f4.params[j]? = some t → args[j]? = some v → Value.okWide Try.prog W .any base t v := hval0
  have hW' := hW
  obtain ⟨p, q, hA0, hV, rfl, hfz, hnd⟩ := hW
  have hA : DataW.TrodAll enc Try.prog W 0 (fun _ => true) true Try.f4.params.toList args.toList ds p := hA0
  rw [Try.params4] at hA hval
  obtain ⟨v0, vs0, d0, ds0, p0, q0, hargs, rfl, rfl, h0, r0⟩ := trodAll_cons hA
  obtain ⟨v1, vs1, d1, ds1, p1, q1, rfl, rfl, rfl, h1, r1⟩ := trodAll_cons r0
  obtain ⟨v2, vs2, d2, ds2, p2, q2, rfl, rfl, rfl, h2, r2⟩ := trodAll_cons r1
  obtain ⟨v3, vs3, d3, ds3, p3, q3, rfl, rfl, rfl, h3, r3⟩ := trodAll_cons r2
  obtain ⟨rfl, rfl, rfl⟩ := trodAll_nil r3
  obtain rfl : args = #[v0, v1, v2, v3] := by cases args; simp_all
  obtain ⟨rfl, rfl⟩ := trodVars_none hV
  have A0 := Argd.nil W
  obtain ⟨x0, rfl, y0⟩ := open_hdr Try.underlying23 (by kernel_rfl) Try.underlying3 (by kernel_rfl) (hval 0 23 v0 rfl rfl) h0
  have A1 := A0.agg (cs := #[.int .i64 x0]) (by first | (simp [AM.sc]; done) | (simp [AM.sc, u8s]; done) | (simp [AM.sc, i64s]; done) | exact tsC_sc' _)
  obtain ⟨x1, z1, s1, rfl, y1⟩ := open_blk Try.underlying26 (by kernel_rfl) Try.underlying3 Try.underlying24 (by kernel_rfl) (hval 1 26 v1 rfl rfl) h1
  have A2 := A1.agg (cs := #[.int .i64 x1, .int .i64 z1, .int .u32 s1]) (by first | (simp [AM.sc]; done) | (simp [AM.sc, u8s]; done) | (simp [AM.sc, i64s]; done) | exact tsC_sc' _)
  obtain ⟨x2, rfl, hx2⟩ := open_nat Try.underlying24 rfl (hval 2 24 v2 rfl rfl) h2
  have hb2 : x2 < 4294967296 := by
    have : IntKind.u32.max = 4294967295 := by decide
    omega
  have A3 := A2.sc (v := .int .u32 x2) rfl
  obtain ⟨B3, l3, c3, rfl, ha3, hb3, hc3, hd3, he3, hf3⟩ := open_bytes_am Try.underlying33 Try.underlying5 (by kernel_rfl) (hval 3 33 v3 rfl rfl) h3
  obtain ⟨X3, bs3, w3, A4, R3⟩ := A3.bytes ha3 hb3 hc3 hd3 he3 hf3
  refine (law_run ArEnv.env_or ArEnv.mixed A4 (back_law24 x0 y0 x1 z1 s1 y1 x2 hb2 R3)).mono fun e W' ⟨he, hb⟩ => ⟨_, he, ?_⟩
  exact law_post (tb := 4) hW' laid_out headerBack_reads rfl rfl Try.underlying4 rfl hb

/-- **THE STATEMENT.** -/
theorem headerBack_holds : Rows.HeaderBackSaid :=
  OpenClaim.holds_of_wide 4 Try.f4 rfl rfl rfl rfl rfl rfl rfl ⟨rfl, rfl, rfl, rfl, rfl⟩ rfl rfl rfl rfl rfl (by kernel_rfl) Try.func4 (by kernel_rfl)
    (of_decide_eq_true (by kernel_rfl)) (by unfold Func.isWrapper; rw [if_neg (of_decide_eq_false (by kernel_rfl))]; exact ⟨rfl, rfl⟩)
    (fun os started H enc _ => headerBack_lifted os started H enc)

end Go.Proofs.Ytpjjkmfidghkjaa
