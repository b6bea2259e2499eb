/-
  KraftMatches: Sum, Fits, Complete, Table, Counts, Cost and Different return what the reference returns. Conditions: none.
-/
import Derived.Test.YteaapmfpojeibaaKrM
set_option linter.all false
namespace Go.Proofs.Yteaapmfpojeibaa
open Go Go.RowKit Go.ChangeShapes Go.WideShapes Go.ChangeAt Go.Deep AM KrA

theorem kraftMatches_reads : ∀ t ∈ Try.f8.params.toList, Try.prog.readableRec t = true ∧ t < Try.prog.types.size := by
  rw [Try.params8]
  simp only [List.forall_mem_cons, List.not_mem_nil, false_imp_iff, implies_true, and_true]
  exact ⟨⟨by kernel_rfl, by decide +kernel⟩, ⟨by kernel_rfl, by decide +kernel⟩, ⟨by kernel_rfl, by decide +kernel⟩⟩

set_option maxRecDepth 100000 in
theorem kraftMatches_lifted (os : Os) (started : os.Started) (H : Type) (enc : TypeId × Value → H) :
    ReturnsInHanded {} Try.checked os 8 .any (Rows.kraftMatchesSpec.pre6 enc Try.prog Try.f8 Rows.kraftMatchesRow.domain false) (Rows.kraftMatchesSpec.post enc Try.prog Try.f8 false true false false) := by
  refine returnsInHanded_of_change (C := Try.checked) own_knob started (by kernel_rfl) Try.func8
    (ChangeSpec.witness6 (enc := enc) (C := Try.checked) false ⟨#[], #[.agg (Array.replicate 258 (.int .u8 0)), .agg (Array.replicate 258 (.int .i64 0)), .slice none 0 0], []⟩ 8 (by kernel_rfl) (by kernel_rfl) (by kernel_rfl) (by kernel_rfl)) ?_
  intro W base args ds gs before hval0 hW hcnd _
  have hval : ∀ (j : Nat) t v, Try.f8.params[j]? = some t → args[j]? = some v → Value.okWide Try.prog W .any base t v := hval0
  have hW' := hW
  obtain ⟨p, q, hA0, hV, rfl, hfz, hnd⟩ := hW
  have hA : DataW.TrodAll enc Try.prog W 0 (fun _ => true) true Try.f8.params.toList args.toList ds p := hA0
  rw [Try.params8] at hA hval
  obtain ⟨v0, vs0, d0, ds0, p0, q0, hargs, rfl, rfl, h0, r0⟩ := trodAll_cons hA
  obtain ⟨v1, vs1, d1, ds1, p1, q1, rfl, rfl, rfl, h1, r1⟩ := trodAll_cons r0
  obtain ⟨v2, vs2, d2, ds2, p2, q2, rfl, rfl, rfl, h2, r2⟩ := trodAll_cons r1
  obtain ⟨rfl, rfl, rfl⟩ := trodAll_nil r2
  obtain rfl : args = #[v0, v1, v2] := by cases args; simp_all
  obtain ⟨rfl, rfl⟩ := trodVars_none hV
  have A0 := Argd.nil W
  obtain ⟨x0, rfl, y0, z0⟩ := open_arr8 Try.underlying45 Try.underlying5 (by kernel_rfl) (by kernel_rfl) (hval 0 45 v0 rfl rfl) h0
  have A1 := A0.agg (cs := (u8s x0).toArray) (by first | (simp [AM.sc]; done) | (simp [AM.sc, u8s]; done) | (simp [AM.sc, i64s]; done))
  obtain ⟨x1, rfl, y1⟩ := open_i64arr Try.underlying47 Try.underlying3 (by kernel_rfl) (by kernel_rfl) (hval 1 47 v1 rfl rfl) h1
  have A2 := A1.agg (cs := (x1.map (Value.int .i64)).toArray) (by first | (simp [AM.sc]; done) | (simp [AM.sc, u8s]; done) | (simp [AM.sc, i64s]; done))
  obtain ⟨B2, l2, c2, rfl, ha2, hg2, hc2, hd2, he2, hf2⟩ := open_lensrows Try.underlying48 Try.underlying45 Try.underlying5 (by kernel_rfl) (by kernel_rfl) (hval 2 48 v2 rfl rfl) h2
  obtain ⟨X2, bs2, w2, A3, R2⟩ := A2.cells ha2 (rows_sc l2) hc2 hd2 he2 hf2
  refine (law_run KrEnv.env_or KrEnv.mixed A3 (matches_law x0 y0 z0 x1 y1 l2 hg2 w2 R2)).mono fun e W' ⟨he, hb⟩ => ⟨_, he, ?_⟩
  exact law_post (tb := 4) hW' laid_out kraftMatches_reads rfl rfl Try.underlying4 rfl hb

/-- **THE STATEMENT.** -/
theorem kraftMatches_holds : Rows.KraftMatchesSaid :=
  OpenClaim.holds_of_wide 8 Try.f8 rfl rfl rfl rfl rfl rfl rfl ⟨rfl, rfl, rfl, rfl, rfl⟩ rfl rfl rfl rfl rfl (by kernel_rfl) Try.func8 (by kernel_rfl)
    (of_decide_eq_true (by kernel_rfl)) (by unfold Func.isWrapper; rw [if_neg (of_decide_eq_false (by kernel_rfl))]; exact ⟨rfl, rfl⟩)
    (fun os started H enc _ => kraftMatches_lifted os started H enc)

end Go.Proofs.Yteaapmfpojeibaa
