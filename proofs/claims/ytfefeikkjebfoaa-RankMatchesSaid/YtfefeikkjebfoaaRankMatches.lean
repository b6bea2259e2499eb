/-
  RankMatches: Size, Valid, Make, Rank and Less return what the reference returns. Conditions: none.
-/
import Derived.Test.YtfefeikkjebfoaaRmH
import Derived.Test.YtfefeikkjebfoaaAArgs
set_option linter.all false
namespace Go.Proofs.Ytfefeikkjebfoaa
open Go Go.RowKit Go.ChangeShapes Go.WideShapes Go.ChangeAt Go.Deep AM ArA

theorem rankMatches_reads : ∀ t ∈ Try.f11.params.toList, Try.prog.readableRec t = true ∧ t < Try.prog.types.size := by
  rw [Try.params11]
  simp only [List.forall_mem_cons, List.not_mem_nil, false_imp_iff, implies_true, and_true]
  exact ⟨⟨by kernel_rfl, by decide +kernel⟩, ⟨by kernel_rfl, by decide +kernel⟩, ⟨by kernel_rfl, by decide +kernel⟩, ⟨by kernel_rfl, by decide +kernel⟩, ⟨by kernel_rfl, by decide +kernel⟩, ⟨by kernel_rfl, by decide +kernel⟩, ⟨by kernel_rfl, by decide +kernel⟩⟩

set_option maxRecDepth 100000 in
theorem rankMatches_lifted (os : Os) (started : os.Started) (H : Type) (enc : TypeId × Value → H) :
    ReturnsInHanded {} Try.checked os 11 .any (Rows.rankMatchesSpec.pre6 enc Try.prog Try.f11 Rows.rankMatchesRow.domain false) (Rows.rankMatchesSpec.post enc Try.prog Try.f11 false true false false) := by
  refine returnsInHanded_of_change (C := Try.checked) own_knob started (by kernel_rfl) Try.func11
    (ChangeSpec.witness6 (enc := enc) (C := Try.checked) false ⟨#[], #[.slice none 0 0, .agg #[.int .i64 0, .int .i64 0], .agg #[.int .i64 0, .int .i64 0], .int .i64 0, .int .u8 0, .int .i64 0, .int .i64 0], []⟩ 8 (by kernel_rfl) (by kernel_rfl) (by kernel_rfl) (by kernel_rfl)) ?_
  intro W base args ds gs before hval0 hW hcnd _
  have hval : ∀ (j : Nat) t v, Try.f11.params[j]? = some t → args[j]? = some v → Value.okWide Try.prog W .any base t v := hval0
  have hW' := hW
  obtain ⟨p, q, hA0, hV, rfl, hfz, hnd⟩ := hW
  have hA : DataW.TrodAll enc Try.prog W 0 (fun _ => true) true Try.f11.params.toList args.toList ds p := hA0
  rw [Try.params11] at hA hval
  obtain ⟨v0, vs0, d0, ds0, p0, q0, hargs, rfl, rfl, h0, r0⟩ := trodAll_cons hA
  obtain ⟨v1, vs1, d1, ds1, p1, q1, rfl, rfl, rfl, h1, r1⟩ := trodAll_cons r0
  obtain ⟨v2, vs2, d2, ds2, p2, q2, rfl, rfl, rfl, h2, r2⟩ := trodAll_cons r1
  obtain ⟨v3, vs3, d3, ds3, p3, q3, rfl, rfl, rfl, h3, r3⟩ := trodAll_cons r2
  obtain ⟨v4, vs4, d4, ds4, p4, q4, rfl, rfl, rfl, h4, r4⟩ := trodAll_cons r3
  obtain ⟨v5, vs5, d5, ds5, p5, q5, rfl, rfl, rfl, h5, r5⟩ := trodAll_cons r4
  obtain ⟨v6, vs6, d6, ds6, p6, q6, rfl, rfl, rfl, h6, r6⟩ := trodAll_cons r5
  obtain ⟨rfl, rfl, rfl⟩ := trodAll_nil r6
  obtain rfl : args = #[v0, v1, v2, v3, v4, v5, v6] := by cases args; simp_all
  obtain ⟨rfl, rfl⟩ := trodVars_none hV
  have A0 := Argd.nil W
  obtain ⟨B0, l0, c0, rfl, ha0, hb0, hc0, hd0, he0, hf0⟩ := open_bytes_am Try.underlying22 Try.underlying5 (by kernel_rfl) (hval 0 22 v0 rfl rfl) h0
  obtain ⟨X0, bs0, w0, A1, R0⟩ := A0.bytes ha0 hb0 hc0 hd0 he0 hf0
  obtain ⟨x1, y1, rfl, z1⟩ := open_two Try.underlying30 (by kernel_rfl) Try.underlying3 (by kernel_rfl) (hval 1 30 v1 rfl rfl) h1
  have A2 := A1.agg (cs := #[.int .i64 x1, .int .i64 y1]) (by first | (simp [AM.sc]; done) | (simp [AM.sc, u8s]; done) | (simp [AM.sc, i64s]; done) | exact tsC_sc' _)
  obtain ⟨x2, y2, rfl, z2⟩ := open_two Try.underlying30 (by kernel_rfl) Try.underlying3 (by kernel_rfl) (hval 2 30 v2 rfl rfl) h2
  have A3 := A2.agg (cs := #[.int .i64 x2, .int .i64 y2]) (by first | (simp [AM.sc]; done) | (simp [AM.sc, u8s]; done) | (simp [AM.sc, i64s]; done) | exact tsC_sc' _)
  obtain ⟨x3, rfl, hx3, hy3⟩ := open_i64 Try.underlying3 (hval 3 3 v3 rfl rfl) h3
  have A4 := A3.sc (v := .int .i64 x3) rfl
  obtain ⟨x4, rfl, hx4⟩ := open_nat Try.underlying5 rfl (hval 4 5 v4 rfl rfl) h4
  have hb4 : x4 < 256 := by
    have : IntKind.u8.max = 255 := by decide
    omega
  have A5 := A4.sc (v := .int .u8 x4) rfl
  obtain ⟨x5, rfl, hx5, hy5⟩ := open_i64 Try.underlying3 (hval 5 3 v5 rfl rfl) h5
  have A6 := A5.sc (v := .int .i64 x5) rfl
  obtain ⟨x6, rfl, hx6, hy6⟩ := open_i64 Try.underlying3 (hval 6 3 v6 rfl rfl) h6
  have A7 := A6.sc (v := .int .i64 x6) rfl
  refine (law_run ArEnv.env_or ArEnv.mixed A7 (rankm_run R0 x1 y1 z1 x2 y2 z2 x3 hx3 hy3 x4 hb4 x5 hx5 hy5 x6 hx6 hy6)).mono fun e W' ⟨he, hb⟩ => ⟨_, he, ?_⟩
  exact law_post (tb := 4) hW' laid_out rankMatches_reads rfl rfl Try.underlying4 rfl hb

/-- **THE STATEMENT.** -/
theorem rankMatches_holds : Rows.RankMatchesSaid :=
  OpenClaim.holds_of_wide 11 Try.f11 rfl rfl rfl rfl rfl rfl rfl ⟨rfl, rfl, rfl, rfl, rfl⟩ rfl rfl rfl rfl rfl (by kernel_rfl) Try.func11 (by kernel_rfl)
    (of_decide_eq_true (by kernel_rfl)) (by unfold Func.isWrapper; rw [if_neg (of_decide_eq_false (by kernel_rfl))]; exact ⟨rfl, rfl⟩)
    (fun os started H enc _ => rankMatches_lifted os started H enc)

end Go.Proofs.Ytfefeikkjebfoaa
