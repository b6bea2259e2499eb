/-
  RankWalkMatches: a walk and the reference return the same results for every call. Conditions: none.
-/
import Derived.Test.YtlbdgbfblgjjgaaRwK
import Derived.Test.YtlbdgbfblgjjgaaAArgs
set_option linter.all false
namespace Go.Proofs.Ytlbdgbfblgjjgaa
open Go Go.RowKit Go.ChangeShapes Go.WideShapes Go.ChangeAt Go.Deep AM ArA

theorem rankWalkMatches_reads : ∀ t ∈ Try.f9.params.toList, Try.prog.readableRec t = true ∧ t < Try.prog.types.size := by
  rw [Try.params9]
  simp only [List.forall_mem_cons, List.not_mem_nil, false_imp_iff, implies_true, and_true]
  exact ⟨⟨by kernel_rfl, by decide +kernel⟩, ⟨by kernel_rfl, by decide +kernel⟩, ⟨by kernel_rfl, by decide +kernel⟩, ⟨by kernel_rfl, by decide +kernel⟩⟩

set_option maxRecDepth 100000 in
theorem rankWalkMatches_lifted (os : Os) (started : os.Started) (H : Type) (enc : TypeId × Value → H) :
    ReturnsInHanded {} Try.checked os 9 .any (Rows.rankWalkMatchesSpec.pre6 enc Try.prog Try.f9 Rows.rankWalkMatchesRow.domain false) (Rows.rankWalkMatchesSpec.post enc Try.prog Try.f9 false true false false) := by
  refine returnsInHanded_of_change (C := Try.checked) own_knob started (by kernel_rfl) Try.func9
    (ChangeSpec.witness6 (enc := enc) (C := Try.checked) false ⟨#[], #[.slice none 0 0, .int .i64 0, .int .i64 0, .slice none 0 0], []⟩ 8 (by kernel_rfl) (by kernel_rfl) (by kernel_rfl) (by kernel_rfl)) ?_
  intro W base args ds gs before hval0 hW hcnd _
  have hval : ∀ (j : Nat) t v, Try.f9.params[j]? = some t → args[j]? = some v → Value.okWide Try.prog W .any base t v := hval0
  have hW' := hW
  obtain ⟨p, q, hA0, hV, rfl, hfz, hnd⟩ := hW
  have hA : DataW.TrodAll enc Try.prog W 0 (fun _ => true) true Try.f9.params.toList args.toList ds p := hA0
  rw [Try.params9] at hA hval
  obtain ⟨v0, vs0, d0, ds0, p0, q0, hargs, rfl, rfl, h0, r0⟩ := trodAll_cons hA
  obtain ⟨v1, vs1, d1, ds1, p1, q1, rfl, rfl, rfl, h1, r1⟩ := trodAll_cons r0
  obtain ⟨v2, vs2, d2, ds2, p2, q2, rfl, rfl, rfl, h2, r2⟩ := trodAll_cons r1
  obtain ⟨v3, vs3, d3, ds3, p3, q3, rfl, rfl, rfl, h3, r3⟩ := trodAll_cons r2
  obtain ⟨rfl, rfl, rfl⟩ := trodAll_nil r3
  obtain rfl : args = #[v0, v1, v2, v3] := by cases args; simp_all
  obtain ⟨rfl, rfl⟩ := trodVars_none hV
  have A0 := Argd.nil W
  obtain ⟨B0, l0, c0, rfl, ha0, hb0, hc0, hd0, he0, hf0⟩ := open_bytes_am Try.underlying22 Try.underlying5 (by kernel_rfl) (hval 0 22 v0 rfl rfl) h0
  obtain ⟨X0, bs0, w0, A1, R0⟩ := A0.bytes ha0 hb0 hc0 hd0 he0 hf0
  obtain ⟨x1, rfl, hx1, hy1⟩ := open_i64 Try.underlying3 (hval 1 3 v1 rfl rfl) h1
  have A2 := A1.sc (v := .int .i64 x1) rfl
  obtain ⟨x2, rfl, hx2, hy2⟩ := open_i64 Try.underlying3 (hval 2 3 v2 rfl rfl) h2
  have A3 := A2.sc (v := .int .i64 x2) rfl
  obtain ⟨B3, l3, c3, rfl, ha3, hc3, hd3, he3, hf3⟩ := open_introws Try.underlying25 Try.underlying3 (by kernel_rfl) (hval 3 25 v3 rfl rfl) h3
  obtain ⟨X3, bs3, w3, A4, R3⟩ := A3.cells ha3 (ints_sc .i64 l3) hc3 hd3 he3 hf3
  refine (law_run ArEnv.env_or ArEnv.mixed A4 (rwmat_law R0 x1 hx1 hy1 x2 hx2 hy2 l3 w3 R3)).mono fun e W' ⟨he, hb⟩ => ⟨_, he, ?_⟩
  exact law_post (tb := 4) hW' laid_out rankWalkMatches_reads rfl rfl Try.underlying4 rfl hb

/-- **THE STATEMENT.** -/
theorem rankWalkMatches_holds : Rows.RankWalkMatchesSaid :=
  OpenClaim.holds_of_wide 9 Try.f9 rfl rfl rfl rfl rfl rfl rfl ⟨rfl, rfl, rfl, rfl, rfl⟩ rfl rfl rfl rfl rfl (by kernel_rfl) Try.func9 (by kernel_rfl)
    (of_decide_eq_true (by kernel_rfl)) (by unfold Func.isWrapper; rw [if_neg (of_decide_eq_false (by kernel_rfl))]; exact ⟨rfl, rfl⟩)
    (fun os started H enc _ => rankWalkMatches_lifted os started H enc)

end Go.Proofs.Ytlbdgbfblgjjgaa
