/-
  HeaderMatches: all functions return what the reference returns. Conditions: none.
-/
import Derived.Test.YtpjjkmfidghkjaaHrN
import Derived.Test.YtpjjkmfidghkjaaAArgs
set_option linter.all false
namespace Go.Proofs.Ytpjjkmfidghkjaa
open Go Go.RowKit Go.ChangeShapes Go.WideShapes Go.ChangeAt Go.Deep AM VarA

theorem headerMatches_reads : ∀ t ∈ Try.f3.params.toList, Try.prog.readableRec t = true ∧ t < Try.prog.types.size := by
  rw [Try.params3]
  simp only [List.forall_mem_cons, List.not_mem_nil, false_imp_iff, implies_true, and_true]
  exact ⟨⟨by kernel_rfl, by decide +kernel⟩, ⟨by kernel_rfl, by decide +kernel⟩, ⟨by kernel_rfl, by decide +kernel⟩, ⟨by kernel_rfl, by decide +kernel⟩, ⟨by kernel_rfl, by decide +kernel⟩, ⟨by kernel_rfl, by decide +kernel⟩, ⟨by kernel_rfl, by decide +kernel⟩⟩

set_option maxRecDepth 100000 in
theorem headerMatches_lifted (os : Os) (started : os.Started) (H : Type) (enc : TypeId × Value → H) :
    ReturnsInHanded {} Try.checked os 3 .any (Rows.headerMatchesSpec.pre6 enc Try.prog Try.f3 Rows.headerMatchesRow.domain false) (Rows.headerMatchesSpec.post enc Try.prog Try.f3 false true false false) := by
  refine returnsInHanded_of_change (C := Try.checked) own_knob started (by kernel_rfl) Try.func3
    (ChangeSpec.witness6 (enc := enc) (C := Try.checked) false ⟨#[], #[.agg #[.int .i64 0], .int .i64 0, .agg #[.int .i64 0, .int .i64 0, .int .u32 0], .agg #[.int .i64 0, .int .i64 0, .int .i64 0, .int .i64 0], .agg #[.int .i64 0, .int .i64 0, .int .i64 0, .int .i64 0, .int .i64 0, .int .u32 0, .int .i64 0], .int .u8 0, .slice none 0 0], []⟩ 8 (by kernel_rfl) (by kernel_rfl) (by kernel_rfl) (by kernel_rfl)) ?_
  intro W base args ds gs before hval0 hW hcnd _
  have hval : ∀ (j : Nat) t v, Try.f3.params[j]? = some t → args[j]? = some v → Value.okWide Try.prog W .any base t v := hval0
  have hW' := hW
  obtain ⟨p, q, hA0, hV, rfl, hfz, hnd⟩ := hW
  have hA : DataW.TrodAll enc Try.prog W 0 (fun _ => true) true Try.f3.params.toList args.toList ds p := hA0
  rw [Try.params3] at hA hval
  obtain ⟨v0, vs0, d0, ds0, p0, q0, hargs, rfl, rfl, h0, r0⟩ := trodAll_cons hA
  obtain ⟨v1, vs1, d1, ds1, p1, q1, rfl, rfl, rfl, h1, r1⟩ := trodAll_cons r0
  obtain ⟨v2, vs2, d2, ds2, p2, q2, rfl, rfl, rfl, h2, r2⟩ := trodAll_cons r1
  obtain ⟨v3, vs3, d3, ds3, p3, q3, rfl, rfl, rfl, h3, r3⟩ := trodAll_cons r2
  obtain ⟨v4, vs4, d4, ds4, p4, q4, rfl, rfl, rfl, h4, r4⟩ := trodAll_cons r3
  obtain ⟨v5, vs5, d5, ds5, p5, q5, rfl, rfl, rfl, h5, r5⟩ := trodAll_cons r4
  obtain ⟨v6, vs6, d6, ds6, p6, q6, rfl, rfl, rfl, h6, r6⟩ := trodAll_cons r5
  obtain ⟨rfl, rfl, rfl⟩ := trodAll_nil r6
  obtain rfl : args = #[v0, v1, v2, v3, v4, v5, v6] := by cases args; simp_all
  obtain ⟨rfl, rfl⟩ := trodVars_none hV
  have A0 := Argd.nil W
  obtain ⟨x0, rfl, y0⟩ := open_hdr Try.underlying23 (by kernel_rfl) Try.underlying3 (by kernel_rfl) (hval 0 23 v0 rfl rfl) h0
  have A1 := A0.agg (cs := #[.int .i64 x0]) (by first | (simp [AM.sc]; done) | (simp [AM.sc, u8s]; done) | (simp [AM.sc, i64s]; done) | exact tsC_sc' _)
  obtain ⟨x1, rfl, hx1, hy1⟩ := open_i64 Try.underlying3 (hval 1 3 v1 rfl rfl) h1
  have A2 := A1.sc (v := .int .i64 x1) rfl
  obtain ⟨x2, z2, s2, rfl, y2⟩ := open_blk Try.underlying26 (by kernel_rfl) Try.underlying3 Try.underlying24 (by kernel_rfl) (hval 2 26 v2 rfl rfl) h2
  have A3 := A2.agg (cs := #[.int .i64 x2, .int .i64 z2, .int .u32 s2]) (by first | (simp [AM.sc]; done) | (simp [AM.sc, u8s]; done) | (simp [AM.sc, i64s]; done) | exact tsC_sc' _)
  obtain ⟨x3, z3, s3, t3, rfl, y3⟩ := open_hst Try.underlying30 (by kernel_rfl) Try.underlying3 (by kernel_rfl) (hval 3 30 v3 rfl rfl) h3
  have A4 := A3.agg (cs := #[.int .i64 x3, .int .i64 z3, .int .i64 s3, .int .i64 t3]) (by first | (simp [AM.sc]; done) | (simp [AM.sc, u8s]; done) | (simp [AM.sc, i64s]; done) | exact tsC_sc' _)
  obtain ⟨x4, z4, s4, t4, p4, q4, o4, rfl, y4⟩ := open_mst Try.underlying32 (by kernel_rfl) Try.underlying3 Try.underlying24 (by kernel_rfl) (hval 4 32 v4 rfl rfl) h4
  have A5 := A4.agg (cs := #[.int .i64 x4, .int .i64 z4, .int .i64 s4, .int .i64 t4, .int .i64 p4, .int .u32 q4, .int .i64 o4]) (by first | (simp [AM.sc]; done) | (simp [AM.sc, u8s]; done) | (simp [AM.sc, i64s]; done) | exact tsC_sc' _)
  obtain ⟨x5, rfl, hx5⟩ := open_nat Try.underlying5 rfl (hval 5 5 v5 rfl rfl) h5
  have hb5 : x5 < 256 := by
    have : IntKind.u8.max = 255 := by decide
    omega
  have A6 := A5.sc (v := .int .u8 x5) rfl
  obtain ⟨B6, l6, c6, rfl, ha6, hb6, hc6, hd6, he6, hf6⟩ := open_bytes_am Try.underlying33 Try.underlying5 (by kernel_rfl) (hval 6 33 v6 rfl rfl) h6
  obtain ⟨X6, bs6, w6, A7, R6⟩ := A6.bytes ha6 hb6 hc6 hd6 he6 hf6
  refine (law_run ArEnv.env_or ArEnv.mixed A7 (match_law24 x0 y0 x1 hx1 hy1 x2 z2 s2 y2 x3 z3 s3 t3 y3 x4 z4 s4 t4 p4 q4 o4 y4 x5 hb5 R6)).mono fun e W' ⟨he, hb⟩ => ⟨_, he, ?_⟩
  exact law_post (tb := 4) hW' laid_out headerMatches_reads rfl rfl Try.underlying4 rfl hb

/-- **THE STATEMENT.** -/
theorem headerMatches_holds : Rows.HeaderMatchesSaid :=
  OpenClaim.holds_of_wide 3 Try.f3 rfl rfl rfl rfl rfl rfl rfl ⟨rfl, rfl, rfl, rfl, rfl⟩ rfl rfl rfl rfl rfl (by kernel_rfl) Try.func3 (by kernel_rfl)
    (of_decide_eq_true (by kernel_rfl)) (by unfold Func.isWrapper; rw [if_neg (of_decide_eq_false (by kernel_rfl))]; exact ⟨rfl, rfl⟩)
    (fun os started H enc _ => headerMatches_lifted os started H enc)

end Go.Proofs.Ytpjjkmfidghkjaa
