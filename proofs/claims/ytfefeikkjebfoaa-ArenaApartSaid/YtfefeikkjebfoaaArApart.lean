/-
  ArenaApart: spans that were taken are adjacent, do not overlap and are filled with zeros, setting a byte in one changes no other one, and the peak is the maximum number of live bytes. Conditions: none.
-/
import Derived.Test.YtfefeikkjebfoaaArApL
set_option linter.all false
namespace Go.Proofs.Ytfefeikkjebfoaa
namespace ArA
open Go Go.RowKit AM ArEnv
theorem apart_law (zs : List Int) {hp bs : List Blk} (v : Value) (R : (v = .slice none 0 0 ∧ zs.length = 0 ∧ bs = []) ∨ (v = .slice (some ⟨hp.length, 0, some 0⟩) zs.length 0 ∧ bs = [.cells 0 true (zs.map (Value.int .i64))]))
    (wh : Int) (hw0 : -9223372036854775808 ≤ wh) (hw1 : wh ≤ 9223372036854775807) (i : Int) (hi0 : -9223372036854775808 ≤ i) (hi1 : i ≤ 9223372036854775807) (c : Nat) (hc : c < 256) :
    ∃ σ', Lrun env (.func 6) [v, .int .i64 wh, .int .i64 i, .int .u8 c] ⟨hp ++ bs, (hp ++ bs).length, [], []⟩ = some (.bool true, σ') := by
  rcases R with ⟨rfl, _, rfl⟩ | ⟨rfl, rfl⟩
  · rw [List.append_nil]
    have hF : Fit hp.length hp.length [] := ⟨Nat.le_refl _, Low.nil _⟩
    rw [Lrun_sym 6 _ _ fn6]
    simp (disch := (first | omega | (simp only [lnE] <;> omega) | (refine Fit.mono ‹Fit _ _ _› ?_; simp only [lnE] <;> omega) | (refine Fit.draw ‹Fit _ _ _› ?_ ?_ <;> (simp only [lnE] <;> omega)) | (refine Fit.hid1 ‹Fit _ _ _› ?_ ?_ <;> (simp only [lnE] <;> omega)) | (refine Fit.draw1 ‹Fit _ _ _› ?_ ?_ ?_ <;> (simp only [lnE] <;> omega)) | (refine Fit.range0 ?_ ?_ <;> (simp only [lnE] <;> omega)) | fail)) only [syA, List.isEmpty_nil, List.isEmpty_cons, List.nil_append, argFr, D, E, T, C, undefv, eqF, aeq, sheqs, sheq, Option.isNone_none, Option.isNone_some, Option.getD_some, Option.getD_none, rdCells, cellsOf, fill, putAt, if_true, if_false, reduceIte, ↓reduceIte, reduceCtorEq, decide_true, decide_false, decide_eq_true_eq, decide_eq_false_iff_not, decide_not, Bool.not_true, Bool.not_false, Bool.not_not, Bool.not_eq_true', Bool.and_true, Bool.true_and, Bool.and_false, Bool.false_and, Bool.and_self, Bool.or_true, Bool.true_or, Bool.or_false, Bool.false_or, Bool.or_self, Bool.false_eq_true, Bool.and_eq_true, Bool.or_eq_true, and_true, true_and, and_false, false_and, or_true, true_or, or_false, false_or, not_true_eq_false, not_false_eq_true, eq_self, Option.map_some, Option.map_none, Option.bind_some, Option.bind_none, Nat.reduceEqDiff, Nat.reduceAdd, Nat.reduceSub, Nat.reduceMul, Nat.reduceLT, Nat.reduceLeDiff, Nat.reducePow, Nat.testBit_eq_decide_div_mod_eq, Nat.reduceDiv, Nat.reduceMod, Nat.zero_add, Nat.add_zero, Nat.sub_self, Nat.le_refl, Nat.lt_irrefl, Nat.mul_one, Int.mul_one, Int.one_mul, Int.sub_zero, Int.add_zero, Int.zero_add, Int.reduceLT, Int.reduceLE, Int.reduceGT, Int.reduceGE, Int.reduceToNat, Int.reducePow, Int.reduceNeg, Int.reduceBEq, Int.reduceBNe, Int.reduceEq, Int.reduceAdd, Int.reduceSub, Int.reduceMul, beq_iff_eq, bne_iff_ne, bne_self_eq_false, bne_eq_false_iff_eq, beq_eq_false_iff_ne, ne_eq, beq_self_eq_true, List.all_cons, List.all_nil, cellv, sc, flatv, refs, refsF, refsC, List.flatMap_cons, List.flatMap_nil, List.append_nil, List.append_assoc, List.cons_append, List.length_append, List.length_set, Int.cast_ofNat_Int, List.length_cons, List.length_nil, List.getElem?_cons_zero, List.getElem?_cons_succ, List.set_cons_zero, List.set_cons_succ, List.take_succ_cons, List.take_zero, List.drop_zero, List.drop_succ_cons, List.contains_nil, Int.toNat_natCast, Int.lt_irrefl, Nat.min_eq_left, Nat.min_eq_right, hF.not0, hF.not1, hF.up0, hF.up1, ac6, wakes_walk]
    exact ⟨_, rfl⟩
  · exact apart_run (b := hp.length) (by simp) wh hw0 hw1 i hi0 hi1 c hc
end ArA
open Go Go.RowKit Go.ChangeShapes Go.WideShapes Go.ChangeAt Go.Deep AM ArA

theorem arenaApart_reads : ∀ t ∈ Try.f6.params.toList, Try.prog.readableRec t = true ∧ t < Try.prog.types.size := by
  rw [Try.params6]
  simp only [List.forall_mem_cons, List.not_mem_nil, false_imp_iff, implies_true, and_true]
  exact ⟨⟨by kernel_rfl, by decide +kernel⟩, ⟨by kernel_rfl, by decide +kernel⟩, ⟨by kernel_rfl, by decide +kernel⟩, ⟨by kernel_rfl, by decide +kernel⟩⟩

set_option maxRecDepth 100000 in
theorem arenaApart_lifted (os : Os) (started : os.Started) (H : Type) (enc : TypeId × Value → H) :
    ReturnsInHanded {} Try.checked os 6 .any (Rows.arenaApartSpec.pre6 enc Try.prog Try.f6 Rows.arenaApartRow.domain false) (Rows.arenaApartSpec.post enc Try.prog Try.f6 false true false false) := by
  refine returnsInHanded_of_change (C := Try.checked) own_knob started (by kernel_rfl) Try.func6
    (ChangeSpec.witness6 (enc := enc) (C := Try.checked) false ⟨#[], #[.slice none 0 0, .int .i64 0, .int .i64 0, .int .u8 0], []⟩ 8 (by kernel_rfl) (by kernel_rfl) (by kernel_rfl) (by kernel_rfl)) ?_
  intro W base args ds gs before hval0 hW hcnd _
  have hval : ∀ (j : Nat) t v, Try.f6.params[j]? = some t → args[j]? = some v → Value.okWide Try.prog W .any base t v := hval0
  have hW' := hW
  obtain ⟨p, q, hA0, hV, rfl, hfz, hnd⟩ := hW
  have hA : DataW.TrodAll enc Try.prog W 0 (fun _ => true) true Try.f6.params.toList args.toList ds p := hA0
  rw [Try.params6] at hA hval
  obtain ⟨v0, vs0, d0, ds0, p0, q0, hargs, rfl, rfl, h0, r0⟩ := trodAll_cons hA
  obtain ⟨v1, vs1, d1, ds1, p1, q1, rfl, rfl, rfl, h1, r1⟩ := trodAll_cons r0
  obtain ⟨v2, vs2, d2, ds2, p2, q2, rfl, rfl, rfl, h2, r2⟩ := trodAll_cons r1
  obtain ⟨v3, vs3, d3, ds3, p3, q3, rfl, rfl, rfl, h3, r3⟩ := trodAll_cons r2
  obtain ⟨rfl, rfl, rfl⟩ := trodAll_nil r3
  obtain rfl : args = #[v0, v1, v2, v3] := by cases args; simp_all
  obtain ⟨rfl, rfl⟩ := trodVars_none hV
  have A0 := Argd.nil W
  obtain ⟨B0, l0, c0, rfl, ha0, hc0, hd0, he0, hf0⟩ := open_introws Try.underlying56 Try.underlying3 (by kernel_rfl) (hval 0 56 v0 rfl rfl) h0
  obtain ⟨X0, bs0, w0, A1, R0⟩ := A0.cells ha0 (ints_sc .i64 l0) hc0 hd0 he0 hf0
  obtain ⟨x1, rfl, hx1, hy1⟩ := open_i64 Try.underlying3 (hval 1 3 v1 rfl rfl) h1
  have A2 := A1.sc (v := .int .i64 x1) rfl
  obtain ⟨x2, rfl, hx2, hy2⟩ := open_i64 Try.underlying3 (hval 2 3 v2 rfl rfl) h2
  have A3 := A2.sc (v := .int .i64 x2) rfl
  obtain ⟨x3, rfl, hx3⟩ := open_nat Try.underlying5 rfl (hval 3 5 v3 rfl rfl) h3
  have hb3 : x3 < 256 := by
    have : IntKind.u8.max = 255 := by decide
    omega
  have A4 := A3.sc (v := .int .u8 x3) rfl
  refine (law_run ArEnv.env_or ArEnv.mixed A4 (apart_law l0 w0 R0 x1 hx1 hy1 x2 hx2 hy2 x3 hb3)).mono fun e W' ⟨he, hb⟩ => ⟨_, he, ?_⟩
  exact law_post (tb := 4) hW' laid_out arenaApart_reads rfl rfl Try.underlying4 rfl hb

/-- **THE STATEMENT.** -/
theorem arenaApart_holds : Rows.ArenaApartSaid :=
  OpenClaim.holds_of_wide 6 Try.f6 rfl rfl rfl rfl rfl rfl rfl ⟨rfl, rfl, rfl, rfl, rfl⟩ rfl rfl rfl rfl rfl (by kernel_rfl) Try.func6 (by kernel_rfl)
    (of_decide_eq_true (by kernel_rfl)) (by unfold Func.isWrapper; rw [if_neg (of_decide_eq_false (by kernel_rfl))]; exact ⟨rfl, rfl⟩)
    (fun os started H enc _ => arenaApart_lifted os started H enc)

end Go.Proofs.Ytfefeikkjebfoaa
