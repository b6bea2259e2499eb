/-
  ArenaOverlaps: overlapping spans share their bytes: a byte set through one is seen through the other. Conditions: none.
-/
import Derived.Test.YtfefeikkjebfoaaArOv
import Derived.Test.YtfefeikkjebfoaaAArgs
set_option linter.all false
namespace Go.Proofs.Ytfefeikkjebfoaa
open Go Go.RowKit Go.ChangeShapes Go.WideShapes Go.ChangeAt Go.Deep AM ArA

theorem arenaOverlaps_reads : ∀ t ∈ Try.f7.params.toList, Try.prog.readableRec t = true ∧ t < Try.prog.types.size := by
  rw [Try.params7]
  simp only [List.forall_mem_cons, List.not_mem_nil, false_imp_iff, implies_true, and_true]
  exact ⟨⟨by kernel_rfl, by decide +kernel⟩, ⟨by kernel_rfl, by decide +kernel⟩, ⟨by kernel_rfl, by decide +kernel⟩, ⟨by kernel_rfl, by decide +kernel⟩, ⟨by kernel_rfl, by decide +kernel⟩⟩

set_option maxRecDepth 100000 in
theorem arenaOverlaps_lifted (os : Os) (started : os.Started) (H : Type) (enc : TypeId × Value → H) :
    ReturnsInHanded {} Try.checked os 7 .any (Rows.arenaOverlapsSpec.pre6 enc Try.prog Try.f7 Rows.arenaOverlapsRow.domain false) (Rows.arenaOverlapsSpec.post enc Try.prog Try.f7 false true false false) := by
  refine returnsInHanded_of_change (C := Try.checked) own_knob started (by kernel_rfl) Try.func7
    (ChangeSpec.witness6 (enc := enc) (C := Try.checked) false ⟨#[], #[.slice none 0 0, .agg #[.int .i64 0, .int .i64 0], .agg #[.int .i64 0, .int .i64 0], .int .i64 0, .int .u8 0], []⟩ 8 (by kernel_rfl) (by kernel_rfl) (by kernel_rfl) (by kernel_rfl)) ?_
  intro W base args ds gs before hval0 hW hcnd _
  have hval : ∀ (j : Nat) t v, Try.f7.params[j]? = some t → args[j]? = some v → Value.okWide Try.prog W .any base t v := hval0
  have hW' := hW
  obtain ⟨p, q, hA0, hV, rfl, hfz, hnd⟩ := hW
  have hA : DataW.TrodAll enc Try.prog W 0 (fun _ => true) true Try.f7.params.toList args.toList ds p := hA0
  rw [Try.params7] at hA hval
  obtain ⟨v0, vs0, d0, ds0, p0, q0, hargs, rfl, rfl, h0, r0⟩ := trodAll_cons hA
  obtain ⟨v1, vs1, d1, ds1, p1, q1, rfl, rfl, rfl, h1, r1⟩ := trodAll_cons r0
  obtain ⟨v2, vs2, d2, ds2, p2, q2, rfl, rfl, rfl, h2, r2⟩ := trodAll_cons r1
  obtain ⟨v3, vs3, d3, ds3, p3, q3, rfl, rfl, rfl, h3, r3⟩ := trodAll_cons r2
  obtain ⟨v4, vs4, d4, ds4, p4, q4, rfl, rfl, rfl, h4, r4⟩ := trodAll_cons r3
  obtain ⟨rfl, rfl, rfl⟩ := trodAll_nil r4
  obtain rfl : args = #[v0, v1, v2, v3, v4] := by cases args; simp_all
  obtain ⟨rfl, rfl⟩ := trodVars_none hV
  have A0 := Argd.nil W
  obtain ⟨B0, l0, c0, rfl, ha0, hb0, hc0, hd0, he0, hf0⟩ := open_bytes_am Try.underlying22 Try.underlying5 (by kernel_rfl) (hval 0 22 v0 rfl rfl) h0
  obtain ⟨X0, bs0, w0, A1, R0⟩ := A0.bytes ha0 hb0 hc0 hd0 he0 hf0
  obtain ⟨x1, y1, rfl, z1⟩ := open_two Try.underlying30 (by kernel_rfl) Try.underlying3 (by kernel_rfl) (hval 1 30 v1 rfl rfl) h1
  have A2 := A1.agg (cs := #[.int .i64 x1, .int .i64 y1]) (by simp [AM.sc])
  obtain ⟨x2, y2, rfl, z2⟩ := open_two Try.underlying30 (by kernel_rfl) Try.underlying3 (by kernel_rfl) (hval 2 30 v2 rfl rfl) h2
  have A3 := A2.agg (cs := #[.int .i64 x2, .int .i64 y2]) (by simp [AM.sc])
  obtain ⟨x3, rfl, hx3, hy3⟩ := open_i64 Try.underlying3 (hval 3 3 v3 rfl rfl) h3
  have A4 := A3.sc (v := .int .i64 x3) rfl
  obtain ⟨x4, rfl, hx4⟩ := open_nat Try.underlying5 rfl (hval 4 5 v4 rfl rfl) h4
  have hb4 : x4 < 256 := by
    have : IntKind.u8.max = 255 := by decide
    omega
  have A5 := A4.sc (v := .int .u8 x4) rfl
  refine (law_run ArEnv.env_or ArEnv.mixed A5 (overlaps_run R0 x1 y1 z1 x2 y2 z2 x3 hx3 hy3 x4 hb4)).mono fun e W' ⟨he, hb⟩ => ⟨_, he, ?_⟩
  exact law_post (tb := 4) hW' laid_out arenaOverlaps_reads rfl rfl Try.underlying4 rfl hb

/-- **THE STATEMENT.** -/
theorem arenaOverlaps_holds : Rows.ArenaOverlapsSaid :=
  OpenClaim.holds_of_wide 7 Try.f7 rfl rfl rfl rfl rfl rfl rfl ⟨rfl, rfl, rfl, rfl, rfl⟩ rfl rfl rfl rfl rfl (by kernel_rfl) Try.func7 (by kernel_rfl)
    (of_decide_eq_true (by kernel_rfl)) (by unfold Func.isWrapper; rw [if_neg (of_decide_eq_false (by kernel_rfl))]; exact ⟨rfl, rfl⟩)
    (fun os started H enc _ => arenaOverlaps_lifted os started H enc)

end Go.Proofs.Ytfefeikkjebfoaa
