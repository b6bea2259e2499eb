/-
  BwtInplaceEnds: the result is the last column and the index of the string, by its sorted suffixes. Conditions: none.
-/
import Derived.Test.YtfefeikkjebfoaaBwC
import Derived.Test.YtfefeikkjebfoaaSufTurn
import Derived.Test.YtfefeikkjebfoaaAArgs
set_option linter.all false
namespace Go.Proofs.Ytfefeikkjebfoaa
namespace ArA
open Go Go.RowKit AM ArEnv
theorem bwWakesE (σ : St) : Lrun env (.func 37) [] σ = some (.bool true, σ) := by
  obtain ⟨hp, L, H, d⟩ := σ
  rw [Lrun_sym 37 _ _ fn37]
  simp (disch := (first | omega | (simp only [lnE] <;> omega) | (refine Fit.mono ‹Fit _ _ _› ?_ <;> (simp only [lnE] <;> omega)) | (refine Fit.draw ‹Fit _ _ _› ?_ ?_ <;> (simp only [lnE] <;> omega)) | (refine Fit.hid1 ‹Fit _ _ _› ?_ ?_ <;> (simp only [lnE] <;> omega)) | (refine Fit.draw1 ‹Fit _ _ _› ?_ ?_ ?_ <;> (simp only [lnE] <;> omega)) | (refine Fit.range0 ?_ ?_ <;> (simp only [lnE] <;> omega)) | fail)) only [syA, syB, argFr, D, E, T, C, undefv, eqF, aeq, sheqs, sheq, rdCells, cellsOf, fill, putAt, if_true, if_false, reduceIte, ↓reduceIte, reduceCtorEq, eq_self, Nat.reduceEqDiff, Nat.reduceAdd, Nat.reduceSub, Nat.reduceMul, Nat.reduceLT, Nat.reduceLeDiff, Nat.reducePow, Nat.reduceDiv, Nat.reduceMod, Int.reduceLT, Int.reduceLE, Int.reduceGT, Int.reduceGE, Int.reduceToNat, Int.reducePow, Int.reduceNeg, Int.reduceBEq, Int.reduceBNe, Int.reduceEq, Int.reduceAdd, Int.reduceSub, Int.reduceMul, cellv, sc, flatv, refs, refsF, refsC, constFn]
theorem ends_run {hp : List Blk} {v : Value} {l : List Nat} (hr : Rd ⟨hp, hp.length, [], []⟩ v l) : ∃ σ', Lrun env (.func 8) [v] ⟨hp, hp.length, [], []⟩ = some (.bool true, σ') := by
  have hF : Fit hp.length hp.length [] := ⟨Nat.le_refl _, Low.nil _⟩
  have hlen := hr.lenF
  rw [Lrun_sym 8 _ _ fn8]
  by_cases h0 : (l.length : Int) = 0
  · simp (disch := (first | omega | (simp only [lnE] <;> omega) | (refine Fit.mono ‹Fit _ _ _› ?_ <;> (simp only [lnE] <;> omega)) | (refine Fit.draw ‹Fit _ _ _› ?_ ?_ <;> (simp only [lnE] <;> omega)) | (refine Fit.hid1 ‹Fit _ _ _› ?_ ?_ <;> (simp only [lnE] <;> omega)) | (refine Fit.draw1 ‹Fit _ _ _› ?_ ?_ ?_ <;> (simp only [lnE] <;> omega)) | (refine Fit.range0 ?_ ?_ <;> (simp only [lnE] <;> omega)) | fail)) only [syA, syB, argFr, D, E, T, C, undefv, eqF, aeq, sheqs, sheq, rdCells, cellsOf, fill, putAt, if_true, if_false, reduceIte, ↓reduceIte, reduceCtorEq, eq_self, Nat.reduceEqDiff, Nat.reduceAdd, Nat.reduceSub, Nat.reduceMul, Nat.reduceLT, Nat.reduceLeDiff, Nat.reducePow, Nat.reduceDiv, Nat.reduceMod, Int.reduceLT, Int.reduceLE, Int.reduceGT, Int.reduceGE, Int.reduceToNat, Int.reducePow, Int.reduceNeg, Int.reduceBEq, Int.reduceBNe, Int.reduceEq, Int.reduceAdd, Int.reduceSub, Int.reduceMul, cellv, sc, flatv, refs, refsF, refsC, hF.not0, hF.not1, hF.up0, hF.up1, ac8, hlen, h0, bwWakesE]
    exact ⟨_, rfl⟩
  by_cases h1 : (l.length : Int) > 200
  · simp (disch := (first | omega | (simp only [lnE] <;> omega) | (refine Fit.mono ‹Fit _ _ _› ?_ <;> (simp only [lnE] <;> omega)) | (refine Fit.draw ‹Fit _ _ _› ?_ ?_ <;> (simp only [lnE] <;> omega)) | (refine Fit.hid1 ‹Fit _ _ _› ?_ ?_ <;> (simp only [lnE] <;> omega)) | (refine Fit.draw1 ‹Fit _ _ _› ?_ ?_ ?_ <;> (simp only [lnE] <;> omega)) | (refine Fit.range0 ?_ ?_ <;> (simp only [lnE] <;> omega)) | fail)) only [syA, syB, argFr, D, E, T, C, undefv, eqF, aeq, sheqs, sheq, rdCells, cellsOf, fill, putAt, if_true, if_false, reduceIte, ↓reduceIte, reduceCtorEq, eq_self, Nat.reduceEqDiff, Nat.reduceAdd, Nat.reduceSub, Nat.reduceMul, Nat.reduceLT, Nat.reduceLeDiff, Nat.reducePow, Nat.reduceDiv, Nat.reduceMod, Int.reduceLT, Int.reduceLE, Int.reduceGT, Int.reduceGE, Int.reduceToNat, Int.reducePow, Int.reduceNeg, Int.reduceBEq, Int.reduceBNe, Int.reduceEq, Int.reduceAdd, Int.reduceSub, Int.reduceMul, cellv, sc, flatv, refs, refsF, refsC, hF.not0, hF.not1, hF.up0, hF.up1, ac8, hlen, h0, h1, bwWakesE]
    exact ⟨_, rfl⟩
  have hlt := (turnR_len l).1
  have hby := turnR_by l hr.by_
  have hst := turnR_steps l
  have tw := turned_walk (d := []) (hp := hp) (L := hp.length) (H := []) hF hr (by omega) (by omega)
  simp only [sl_some, slB_some, hlt] at tw
  have t2 := turn17_walk (d := []) (hq := hp ++ [.cells l.length true (u8s (turnR l).1)]) (L := hp.length) (H := []) (hF.mono (by simp)) hr.app (by omega)
  have hne : (turnR l).1 ≠ [] := by intro h; rw [h] at hlt; simp at hlt; omega
  rw [bv_ne hne, bb_ne hne, hlt] at t2
  simp only [List.append_assoc, List.cons_append, List.nil_append, List.length_append, List.length_cons, List.length_nil, Nat.zero_add] at t2
  have rc : Rd ⟨hp ++ [.cells l.length true (u8s (turnR l).1), .cells l.length true (u8s (turnR l).1)], hp.length, [], []⟩ (.slice (some ⟨hp.length, 0, some l.length⟩) l.length 1) (turnR l).1 := by
    have := Rd.whole (hp := hp ++ [.cells l.length true (u8s (turnR l).1), .cells l.length true (u8s (turnR l).1)]) (L := hp.length) (H := []) (d := []) (b := hp.length) (g := l.length) (e := 1) (l := (turnR l).1) (by rw [get_new0]) rfl hby (.inr rfl)
    rwa [hlt] at this
  have rd : Rd ⟨hp ++ [.cells l.length true (u8s (turnR l).1), .cells l.length true (u8s (turnR l).1)], hp.length, [], []⟩ (.slice (some ⟨hp.length + 1, 0, some l.length⟩) l.length 1) (turnR l).1 := by
    have := Rd.whole (hp := hp ++ [.cells l.length true (u8s (turnR l).1), .cells l.length true (u8s (turnR l).1)]) (L := hp.length) (H := []) (d := []) (b := hp.length + 1) (g := l.length) (e := 1) (l := (turnR l).1) (by rw [get_new]; rfl) rfl hby (.inr rfl)
    rwa [hlt] at this
  have hm1 : (0 : Int) ≤ (l.length : Int) * ((l.length : Int) - 1) ∧ (l.length : Int) * ((l.length : Int) - 1) ≤ 40000 := by
    constructor
    · exact Int.mul_nonneg (by omega) (by omega)
    · have h2 : (l.length : Int) * ((l.length : Int) - 1) ≤ 200 * ((l.length : Int) - 1) := Int.mul_le_mul_of_nonneg_right (by omega) (by omega)
      omega
  have hm2 : (l.length : Int) * ((l.length : Int) - 1) = ((l.length * (l.length - 1) : Nat) : Int) := by
    rw [Int.natCast_mul, Int.natCast_sub (by omega)]; rfl
  rw [hm2] at hm1
  generalize l.length * (l.length - 1) = p at *
  have hq2 : ((p : Nat) : Int).tdiv 2 = ((p / 2 : Nat) : Int) := rfl
  have c1 : ((turnR l).2.2 : Int) ≥ ((p / 2 : Nat) : Int) := by omega
  have c2 : ((turnR l).2.2 : Int) ≤ (p : Nat) := by omega
  simp (disch := (first | omega | (simp only [lnE] <;> omega) | (refine Fit.mono ‹Fit _ _ _› ?_ <;> (simp only [lnE] <;> omega)) | (refine Fit.draw ‹Fit _ _ _› ?_ ?_ <;> (simp only [lnE] <;> omega)) | (refine Fit.hid1 ‹Fit _ _ _› ?_ ?_ <;> (simp only [lnE] <;> omega)) | (refine Fit.draw1 ‹Fit _ _ _› ?_ ?_ ?_ <;> (simp only [lnE] <;> omega)) | (refine Fit.range0 ?_ ?_ <;> (simp only [lnE] <;> omega)) | fail)) only [syA, syB, argFr, D, E, T, C, undefv, eqF, aeq, sheqs, sheq, rdCells, cellsOf, fill, putAt, if_true, if_false, reduceIte, ↓reduceIte, reduceCtorEq, eq_self, Nat.reduceEqDiff, Nat.reduceAdd, Nat.reduceSub, Nat.reduceMul, Nat.reduceLT, Nat.reduceLeDiff, Nat.reducePow, Nat.reduceDiv, Nat.reduceMod, Int.reduceLT, Int.reduceLE, Int.reduceGT, Int.reduceGE, Int.reduceToNat, Int.reducePow, Int.reduceNeg, Int.reduceBEq, Int.reduceBNe, Int.reduceEq, Int.reduceAdd, Int.reduceSub, Int.reduceMul, cellv, sc, flatv, refs, refsF, refsC, hF.not0, hF.not1, hF.up0, hF.up1, ac8, hlen, h0, h1, bwWakesE, tw, t2, rc.str, rd.str, hm2, hq2, c1, c2]
  exact ⟨_, rfl⟩
end ArA
open Go Go.RowKit Go.ChangeShapes Go.WideShapes Go.ChangeAt Go.Deep AM ArA

theorem bwtInplaceEnds_reads : ∀ t ∈ Try.f8.params.toList, Try.prog.readableRec t = true ∧ t < Try.prog.types.size := by
  rw [Try.params8]
  simp only [List.forall_mem_cons, List.not_mem_nil, false_imp_iff, implies_true, and_true]
  exact ⟨by kernel_rfl, by decide +kernel⟩

set_option maxRecDepth 100000 in
theorem bwtInplaceEnds_lifted (os : Os) (started : os.Started) (H : Type) (enc : TypeId × Value → H) :
    ReturnsInHanded {} Try.checked os 8 .any (Rows.bwtInplaceEndsSpec.pre6 enc Try.prog Try.f8 Rows.bwtInplaceEndsRow.domain false) (Rows.bwtInplaceEndsSpec.post enc Try.prog Try.f8 false true false false) := by
  refine returnsInHanded_of_change (C := Try.checked) own_knob started (by kernel_rfl) Try.func8
    (ChangeSpec.witness6 (enc := enc) (C := Try.checked) false ⟨#[], #[.slice none 0 0], []⟩ 8 (by kernel_rfl) (by kernel_rfl) (by kernel_rfl) (by kernel_rfl)) ?_
  intro W base args ds gs before hval0 hW hcnd _
  have hval : ∀ (j : Nat) t v, Try.f8.params[j]? = some t → args[j]? = some v → Value.okWide Try.prog W .any base t v := hval0
  have hW' := hW
  obtain ⟨p, q, hA0, hV, rfl, hfz, hnd⟩ := hW
  have hA : DataW.TrodAll enc Try.prog W 0 (fun _ => true) true Try.f8.params.toList args.toList ds p := hA0
  rw [Try.params8] at hA hval
  obtain ⟨v0, vs0, d0, ds0, p0, q0, hargs, rfl, rfl, h0, r0⟩ := trodAll_cons hA
  obtain ⟨rfl, rfl, rfl⟩ := trodAll_nil r0
  obtain rfl : args = #[v0] := by cases args; simp_all
  obtain ⟨rfl, rfl⟩ := trodVars_none hV
  have A0 := Argd.nil W
  obtain ⟨B0, l0, c0, rfl, ha0, hb0, hc0, hd0, he0, hf0⟩ := open_bytes_am Try.underlying22 Try.underlying5 (by kernel_rfl) (hval 0 22 v0 rfl rfl) h0
  obtain ⟨X0, bs0, w0, A1, R0⟩ := A0.bytes ha0 hb0 hc0 hd0 he0 hf0
  refine (law_run ArEnv.env_or ArEnv.mixed A1 (ends_run R0)).mono fun e W' ⟨he, hb⟩ => ⟨_, he, ?_⟩
  exact law_post (tb := 4) hW' laid_out bwtInplaceEnds_reads rfl rfl Try.underlying4 rfl hb

/-- **THE STATEMENT.** -/
theorem bwtInplaceEnds_holds : Rows.BwtInplaceEndsSaid :=
  OpenClaim.holds_of_wide 8 Try.f8 rfl rfl rfl rfl rfl rfl rfl ⟨rfl, rfl, rfl, rfl, rfl⟩ rfl rfl rfl rfl rfl (by kernel_rfl) Try.func8 (by kernel_rfl)
    (of_decide_eq_true (by kernel_rfl)) (by unfold Func.isWrapper; rw [if_neg (of_decide_eq_false (by kernel_rfl))]; exact ⟨rfl, rfl⟩)
    (fun os started H enc _ => bwtInplaceEnds_lifted os started H enc)

end Go.Proofs.Ytfefeikkjebfoaa
