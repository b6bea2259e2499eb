/-
  LENGTH TABLES: the reference's encoding, on the abstract machine. Conditions: none.
-/
import Derived.Test.YtlphmnhkkhcjfaaLtU
import Derived.Test.YtlphmnhkkhcjfaaLtX
set_option linter.all false
section
namespace Go.Proofs.Ytlphmnhkkhcjfaa
namespace LtA
open Go Go.RowKit AM ArEnv Bt
variable {hp : List Blk} {L : Nat} {H d : List Nat}

theorem slI_of {k : Nat} {A : List Nat} (h : A.length ≠ 0) : slI k A = .slice (some ⟨k, 0, some A.length⟩) A.length 1 := if_neg h
theorem slIB_of {A : List Nat} (h : A.length ≠ 0) : slIB A = [.cells A.length true (is A)] := if_neg h
theorem up_step {A : List Nat} {was now : Int} (hA : A.length ≤ 1000) (hn : was < now) (hb : -1000 ≤ was ∧ now ≤ 1000) (hF : Fit hp.length L H) :
    Liter env lb57_1 [5, 0, 1] hp.length [(5, slI hp.length A), (0, .int .i64 was), (1, .int .i64 now)] ⟨hp ++ slIB A, L, H, []⟩ = Liter env lb57_1 [5, 0, 1] hp.length [(5, slI hp.length (A ++ [1, 0])), (0, .int .i64 (was + 1)), (1, .int .i64 now)] ⟨hp ++ slIB (A ++ [1, 0]), L, H, []⟩ := by
  have hl2 : (A ++ [1, 0]).length = A.length + 2 := by simp
  rw [slI_of (A := A ++ [1, 0]) (by omega), slIB_of (A := A ++ [1, 0]) (by omega), hl2]
  have s2 : small 2 = true := rfl
  have is1 : is [1, 0] = [.int .i64 1, .int .i64 0] := rfl
  rw [iter_by lb57_1.eq_1]
  by_cases h0 : A.length = 0
  · obtain rfl := List.eq_nil_of_length_eq_zero h0
    have e1 : slI hp.length [] = .slice none 0 0 := rfl
    have e2 : slIB [] = [] := rfl
    have happ := append_is0 (hp := hp ++ [.cells 0 true (is [1, 0])]) (L := L) (H := H) (d := []) (m := [1, 0]) (by simp) (by simp)
    simp only [is1, List.length_append, List.length_cons, List.length_nil, Nat.zero_add, Nat.reduceAdd, List.append_assoc, List.cons_append, List.nil_append] at happ
    simp only [e1, e2, List.append_nil, List.nil_append, is1, List.length_nil, Nat.zero_add]
    simp (disch := (first | omega | (simp only [lnE] <;> omega) | (refine Fit.mono ‹Fit _ _ _› ?_ <;> (simp only [lnE] <;> omega)) | (refine Fit.draw ‹Fit _ _ _› ?_ ?_ <;> (simp only [lnE] <;> omega)) | (refine Fit.hid1 ‹Fit _ _ _› ?_ ?_ <;> (simp only [lnE] <;> omega)) | (refine Fit.hidc1 ‹Fit _ _ _› ?_ ?_ <;> (simp only [lnE] <;> omega)) | (refine Fit.hidc2 ‹Fit _ _ _› ?_ ?_ ?_ <;> (simp only [lnE] <;> omega)) | (refine Fit.draw1 ‹Fit _ _ _› ?_ ?_ ?_ <;> (simp only [lnE] <;> omega)) | (refine Fit.range0 ?_ ?_ <;> (simp only [lnE] <;> omega)) | fail)) only [syA, syB, argFr, D, E, T, C, undefv, eqF, aeq, sheqs, sheq, rdCells, cellsOf, fill, putAt, if_true, if_false, reduceIte, ↓reduceIte, reduceCtorEq, eq_self, Nat.reduceEqDiff, Nat.reduceAdd, Nat.reduceSub, Nat.reduceMul, Nat.reduceLT, Nat.reduceLeDiff, Nat.reducePow, Nat.reduceDiv, Nat.reduceMod, Int.reduceLT, Int.reduceLE, Int.reduceGT, Int.reduceGE, Int.reduceToNat, Int.reducePow, Int.reduceNeg, Int.reduceBEq, Int.reduceBNe, Int.reduceEq, Int.reduceAdd, Int.reduceSub, Int.reduceMul, cellv, sc, flatv, refs, refsF, refsC, hF.not0, hF.not1, hF.up0, hF.up1, hn, s2, happ]
    rw [gcFr_one 1 (g := 2) (cs := [.int .i64 1, .int .i64 0]) rfl (by
      intro p hp' r hr
      simp only [List.mem_cons, List.not_mem_nil, or_false] at hp'
      rcases hp' with rfl | rfl | rfl
      · simp [AM.refs, refsF, refsC] at hr; exact .inr hr
      · simp [AM.refs, refsF, refsC] at hr
      · simp [AM.refs, refsF, refsC] at hr) ⟨_, List.mem_cons_self, by simp [AM.refs, refsF, refsC]⟩]
    simp only [List.map_cons, List.map_nil, rn_slice, rn_int, one_new, againX_some]
  · rw [slI_of h0, slIB_of h0]
    have happ := append_isg (hp := hp ++ [.cells A.length true (is A), .cells 0 true (is [1, 0])]) (L := L) (H := H) (d := []) (b := hp.length) (g := A.length) (l := A) (m := [1, 0]) (get_new0 ..) (by have := hF.1; omega) hF.not0 (by simp) (by simp; omega)
    rw [set_new0] at happ
    simp only [is1, List.length_cons, List.length_nil, Nat.zero_add, Nat.reduceAdd, List.set_cons_zero] at happ
    simp (disch := (first | omega | (simp only [lnE] <;> omega) | (refine Fit.mono ‹Fit _ _ _› ?_ <;> (simp only [lnE] <;> omega)) | (refine Fit.draw ‹Fit _ _ _› ?_ ?_ <;> (simp only [lnE] <;> omega)) | (refine Fit.hid1 ‹Fit _ _ _› ?_ ?_ <;> (simp only [lnE] <;> omega)) | (refine Fit.hidc1 ‹Fit _ _ _› ?_ ?_ <;> (simp only [lnE] <;> omega)) | (refine Fit.hidc2 ‹Fit _ _ _› ?_ ?_ ?_ <;> (simp only [lnE] <;> omega)) | (refine Fit.draw1 ‹Fit _ _ _› ?_ ?_ ?_ <;> (simp only [lnE] <;> omega)) | (refine Fit.range0 ?_ ?_ <;> (simp only [lnE] <;> omega)) | fail)) only [syA, syB, argFr, D, E, T, C, undefv, eqF, aeq, sheqs, sheq, rdCells, cellsOf, fill, putAt, if_true, if_false, reduceIte, ↓reduceIte, reduceCtorEq, eq_self, Nat.reduceEqDiff, Nat.reduceAdd, Nat.reduceSub, Nat.reduceMul, Nat.reduceLT, Nat.reduceLeDiff, Nat.reducePow, Nat.reduceDiv, Nat.reduceMod, Int.reduceLT, Int.reduceLE, Int.reduceGT, Int.reduceGE, Int.reduceToNat, Int.reducePow, Int.reduceNeg, Int.reduceBEq, Int.reduceBNe, Int.reduceEq, Int.reduceAdd, Int.reduceSub, Int.reduceMul, cellv, sc, flatv, refs, refsF, refsC, hF.not0, hF.not1, hF.up0, hF.up1, hn, s2, happ]
    rw [gcFr_one 0 (g := A.length + 2) (cs := is (A ++ [1, 0])) rfl (by
      intro p hp' r hr
      simp only [List.mem_cons, List.not_mem_nil, or_false] at hp'
      rcases hp' with rfl | rfl | rfl
      · simp [AM.refs, refsF, refsC] at hr; exact .inr hr
      · simp [AM.refs, refsF, refsC] at hr
      · simp [AM.refs, refsF, refsC] at hr) ⟨_, List.mem_cons_self, by simp [AM.refs, refsF, refsC]⟩]
    simp only [List.map_cons, List.map_nil, rn_slice, rn_int, Nat.add_zero, one_new0, againX_some]
theorem down_step {A : List Nat} {was now : Int} (hA : A.length ≤ 1000) (hn : now < was) (hb : -1000 ≤ now ∧ was ≤ 1000) (hF : Fit hp.length L H) :
    Liter env lb57_0 [5, 0, 1] hp.length [(5, slI hp.length A), (0, .int .i64 was), (1, .int .i64 now)] ⟨hp ++ slIB A, L, H, []⟩ = Liter env lb57_0 [5, 0, 1] hp.length [(5, slI hp.length (A ++ [1, 1])), (0, .int .i64 (was - 1)), (1, .int .i64 now)] ⟨hp ++ slIB (A ++ [1, 1]), L, H, []⟩ := by
  have hl2 : (A ++ [1, 1]).length = A.length + 2 := by simp
  rw [slI_of (A := A ++ [1, 1]) (by omega), slIB_of (A := A ++ [1, 1]) (by omega), hl2]
  have s2 : small 2 = true := rfl
  have is1 : is [1, 1] = [.int .i64 1, .int .i64 1] := rfl
  have hn' : was > now := hn
  rw [iter_by lb57_0.eq_1]
  by_cases h0 : A.length = 0
  · obtain rfl := List.eq_nil_of_length_eq_zero h0
    have e1 : slI hp.length [] = .slice none 0 0 := rfl
    have e2 : slIB [] = [] := rfl
    have happ := append_is0 (hp := hp ++ [.cells 0 true (is [1, 1])]) (L := L) (H := H) (d := []) (m := [1, 1]) (by simp) (by simp)
    simp only [is1, List.length_append, List.length_cons, List.length_nil, Nat.zero_add, Nat.reduceAdd, List.append_assoc, List.cons_append, List.nil_append] at happ
    simp only [e1, e2, List.append_nil, List.nil_append, is1, List.length_nil, Nat.zero_add]
    simp (disch := (first | omega | (simp only [lnE] <;> omega) | (refine Fit.mono ‹Fit _ _ _› ?_ <;> (simp only [lnE] <;> omega)) | (refine Fit.draw ‹Fit _ _ _› ?_ ?_ <;> (simp only [lnE] <;> omega)) | (refine Fit.hid1 ‹Fit _ _ _› ?_ ?_ <;> (simp only [lnE] <;> omega)) | (refine Fit.hidc1 ‹Fit _ _ _› ?_ ?_ <;> (simp only [lnE] <;> omega)) | (refine Fit.hidc2 ‹Fit _ _ _› ?_ ?_ ?_ <;> (simp only [lnE] <;> omega)) | (refine Fit.draw1 ‹Fit _ _ _› ?_ ?_ ?_ <;> (simp only [lnE] <;> omega)) | (refine Fit.range0 ?_ ?_ <;> (simp only [lnE] <;> omega)) | fail)) only [syA, syB, argFr, D, E, T, C, undefv, eqF, aeq, sheqs, sheq, rdCells, cellsOf, fill, putAt, if_true, if_false, reduceIte, ↓reduceIte, reduceCtorEq, eq_self, Nat.reduceEqDiff, Nat.reduceAdd, Nat.reduceSub, Nat.reduceMul, Nat.reduceLT, Nat.reduceLeDiff, Nat.reducePow, Nat.reduceDiv, Nat.reduceMod, Int.reduceLT, Int.reduceLE, Int.reduceGT, Int.reduceGE, Int.reduceToNat, Int.reducePow, Int.reduceNeg, Int.reduceBEq, Int.reduceBNe, Int.reduceEq, Int.reduceAdd, Int.reduceSub, Int.reduceMul, cellv, sc, flatv, refs, refsF, refsC, hF.not0, hF.not1, hF.up0, hF.up1, hn', s2, happ]
    rw [gcFr_one 1 (g := 2) (cs := [.int .i64 1, .int .i64 1]) rfl (by
      intro p hp' r hr
      simp only [List.mem_cons, List.not_mem_nil, or_false] at hp'
      rcases hp' with rfl | rfl | rfl
      · simp [AM.refs, refsF, refsC] at hr; exact .inr hr
      · simp [AM.refs, refsF, refsC] at hr
      · simp [AM.refs, refsF, refsC] at hr) ⟨_, List.mem_cons_self, by simp [AM.refs, refsF, refsC]⟩]
    simp only [List.map_cons, List.map_nil, rn_slice, rn_int, one_new, againX_some]
  · rw [slI_of h0, slIB_of h0]
    have happ := append_isg (hp := hp ++ [.cells A.length true (is A), .cells 0 true (is [1, 1])]) (L := L) (H := H) (d := []) (b := hp.length) (g := A.length) (l := A) (m := [1, 1]) (get_new0 ..) (by have := hF.1; omega) hF.not0 (by simp) (by simp; omega)
    rw [set_new0] at happ
    simp only [is1, List.length_cons, List.length_nil, Nat.zero_add, Nat.reduceAdd, List.set_cons_zero] at happ
    simp (disch := (first | omega | (simp only [lnE] <;> omega) | (refine Fit.mono ‹Fit _ _ _› ?_ <;> (simp only [lnE] <;> omega)) | (refine Fit.draw ‹Fit _ _ _› ?_ ?_ <;> (simp only [lnE] <;> omega)) | (refine Fit.hid1 ‹Fit _ _ _› ?_ ?_ <;> (simp only [lnE] <;> omega)) | (refine Fit.hidc1 ‹Fit _ _ _› ?_ ?_ <;> (simp only [lnE] <;> omega)) | (refine Fit.hidc2 ‹Fit _ _ _› ?_ ?_ ?_ <;> (simp only [lnE] <;> omega)) | (refine Fit.draw1 ‹Fit _ _ _› ?_ ?_ ?_ <;> (simp only [lnE] <;> omega)) | (refine Fit.range0 ?_ ?_ <;> (simp only [lnE] <;> omega)) | fail)) only [syA, syB, argFr, D, E, T, C, undefv, eqF, aeq, sheqs, sheq, rdCells, cellsOf, fill, putAt, if_true, if_false, reduceIte, ↓reduceIte, reduceCtorEq, eq_self, Nat.reduceEqDiff, Nat.reduceAdd, Nat.reduceSub, Nat.reduceMul, Nat.reduceLT, Nat.reduceLeDiff, Nat.reducePow, Nat.reduceDiv, Nat.reduceMod, Int.reduceLT, Int.reduceLE, Int.reduceGT, Int.reduceGE, Int.reduceToNat, Int.reducePow, Int.reduceNeg, Int.reduceBEq, Int.reduceBNe, Int.reduceEq, Int.reduceAdd, Int.reduceSub, Int.reduceMul, cellv, sc, flatv, refs, refsF, refsC, hF.not0, hF.not1, hF.up0, hF.up1, hn', s2, happ]
    rw [gcFr_one 0 (g := A.length + 2) (cs := is (A ++ [1, 1])) rfl (by
      intro p hp' r hr
      simp only [List.mem_cons, List.not_mem_nil, or_false] at hp'
      rcases hp' with rfl | rfl | rfl
      · simp [AM.refs, refsF, refsC] at hr; exact .inr hr
      · simp [AM.refs, refsF, refsC] at hr
      · simp [AM.refs, refsF, refsC] at hr) ⟨_, List.mem_cons_self, by simp [AM.refs, refsF, refsC]⟩]
    simp only [List.map_cons, List.map_nil, rn_slice, rn_int, Nat.add_zero, one_new0, againX_some]
theorem up_loop {now : Int} (hF : Fit hp.length L H) : ∀ (k : Nat) (was : Int) (A : List Nat), was + k = now → A.length + 2 * k ≤ 900 → (-900 ≤ was ∧ now ≤ 900) →
    ∃ fr, Liter env lb57_1 [5, 0, 1] hp.length [(5, slI hp.length A), (0, .int .i64 was), (1, .int .i64 now)] ⟨hp ++ slIB A, L, H, []⟩ = some (.exit 0, fr, ⟨hp ++ slIB (A ++ rep 0 k), L, H, []⟩) ∧ fr.get 5 = some (slI hp.length (A ++ rep 0 k)) ∧ fr.get 0 = some (.int .i64 now) ∧ fr.get 1 = some (.int .i64 now)
  | 0, was, A, e, hs, hb => by
    obtain rfl : was = now := by omega
    rw [iter_by lb57_1.eq_1, rep, List.append_nil]
    simp (disch := (first | omega | (simp only [lnE] <;> omega) | (refine Fit.mono ‹Fit _ _ _› ?_ <;> (simp only [lnE] <;> omega)) | (refine Fit.draw ‹Fit _ _ _› ?_ ?_ <;> (simp only [lnE] <;> omega)) | (refine Fit.hid1 ‹Fit _ _ _› ?_ ?_ <;> (simp only [lnE] <;> omega)) | (refine Fit.hidc1 ‹Fit _ _ _› ?_ ?_ <;> (simp only [lnE] <;> omega)) | (refine Fit.hidc2 ‹Fit _ _ _› ?_ ?_ ?_ <;> (simp only [lnE] <;> omega)) | (refine Fit.draw1 ‹Fit _ _ _› ?_ ?_ ?_ <;> (simp only [lnE] <;> omega)) | (refine Fit.range0 ?_ ?_ <;> (simp only [lnE] <;> omega)) | fail)) only [syA, syB, argFr, D, E, T, C, undefv, eqF, aeq, sheqs, sheq, rdCells, cellsOf, fill, putAt, if_true, if_false, reduceIte, ↓reduceIte, reduceCtorEq, eq_self, Nat.reduceEqDiff, Nat.reduceAdd, Nat.reduceSub, Nat.reduceMul, Nat.reduceLT, Nat.reduceLeDiff, Nat.reducePow, Nat.reduceDiv, Nat.reduceMod, Int.reduceLT, Int.reduceLE, Int.reduceGT, Int.reduceGE, Int.reduceToNat, Int.reducePow, Int.reduceNeg, Int.reduceBEq, Int.reduceBNe, Int.reduceEq, Int.reduceAdd, Int.reduceSub, Int.reduceMul, cellv, sc, flatv, refs, refsF, refsC, hF.not0, hF.not1, hF.up0, hF.up1]
    exact ⟨_, rfl, rfl, rfl, rfl⟩
  | k + 1, was, A, e, hs, hb => by
    rw [up_step (now := now) (was := was) (A := A) (by omega) (by omega) (by omega) hF]
    have ih := up_loop (now := now) hF k (was + 1) (A ++ [1, 0]) (by omega) (by simp; omega) (by omega)
    rw [List.append_assoc] at ih
    exact ih
theorem down_loop {now : Int} (hF : Fit hp.length L H) : ∀ (k : Nat) (was : Int) (A : List Nat), was = now + k → A.length + 2 * k ≤ 900 → (-900 ≤ now ∧ was ≤ 900) →
    ∃ fr, Liter env lb57_0 [5, 0, 1] hp.length [(5, slI hp.length A), (0, .int .i64 was), (1, .int .i64 now)] ⟨hp ++ slIB A, L, H, []⟩ = some (.exit 2, fr, ⟨hp ++ slIB (A ++ rep 1 k), L, H, []⟩) ∧ fr.get 5 = some (slI hp.length (A ++ rep 1 k))
  | 0, was, A, e, hs, hb => by
    obtain rfl : was = now := by omega
    rw [iter_by lb57_0.eq_1, rep, List.append_nil]
    simp (disch := (first | omega | (simp only [lnE] <;> omega) | (refine Fit.mono ‹Fit _ _ _› ?_ <;> (simp only [lnE] <;> omega)) | (refine Fit.draw ‹Fit _ _ _› ?_ ?_ <;> (simp only [lnE] <;> omega)) | (refine Fit.hid1 ‹Fit _ _ _› ?_ ?_ <;> (simp only [lnE] <;> omega)) | (refine Fit.hidc1 ‹Fit _ _ _› ?_ ?_ <;> (simp only [lnE] <;> omega)) | (refine Fit.hidc2 ‹Fit _ _ _› ?_ ?_ ?_ <;> (simp only [lnE] <;> omega)) | (refine Fit.draw1 ‹Fit _ _ _› ?_ ?_ ?_ <;> (simp only [lnE] <;> omega)) | (refine Fit.range0 ?_ ?_ <;> (simp only [lnE] <;> omega)) | fail)) only [syA, syB, argFr, D, E, T, C, undefv, eqF, aeq, sheqs, sheq, rdCells, cellsOf, fill, putAt, if_true, if_false, reduceIte, ↓reduceIte, reduceCtorEq, eq_self, Nat.reduceEqDiff, Nat.reduceAdd, Nat.reduceSub, Nat.reduceMul, Nat.reduceLT, Nat.reduceLeDiff, Nat.reducePow, Nat.reduceDiv, Nat.reduceMod, Int.reduceLT, Int.reduceLE, Int.reduceGT, Int.reduceGE, Int.reduceToNat, Int.reducePow, Int.reduceNeg, Int.reduceBEq, Int.reduceBNe, Int.reduceEq, Int.reduceAdd, Int.reduceSub, Int.reduceMul, cellv, sc, flatv, refs, refsF, refsC, hF.not0, hF.not1, hF.up0, hF.up1]
    exact ⟨_, rfl, rfl⟩
  | k + 1, was, A, e, hs, hb => by
    rw [down_step (now := now) (was := was) (A := A) (by omega) (by omega) (by omega) hF]
    have ih := down_loop (now := now) hF k (was - 1) (A ++ [1, 1]) (by omega) (by simp; omega) (by omega)
    rw [List.append_assoc] at ih
    exact ih
theorem down_none {was now : Int} {A : List Nat} {base : Nat} (h : was ≤ now) : ∃ fr, Liter env lb57_0 [5, 0, 1] base [(5, slI hp.length A), (0, .int .i64 was), (1, .int .i64 now)] ⟨hp ++ slIB A, L, H, []⟩ = some (.exit 2, fr, ⟨hp ++ slIB A, L, H, []⟩) ∧ fr.get 5 = some (slI hp.length A) := by
  have h' : ¬ was > now := by omega
  rw [iter_by lb57_0.eq_1]
  simp (disch := (first | omega | (simp only [lnE] <;> omega) | (refine Fit.mono ‹Fit _ _ _› ?_ <;> (simp only [lnE] <;> omega)) | (refine Fit.draw ‹Fit _ _ _› ?_ ?_ <;> (simp only [lnE] <;> omega)) | (refine Fit.hid1 ‹Fit _ _ _› ?_ ?_ <;> (simp only [lnE] <;> omega)) | (refine Fit.hidc1 ‹Fit _ _ _› ?_ ?_ <;> (simp only [lnE] <;> omega)) | (refine Fit.hidc2 ‹Fit _ _ _› ?_ ?_ ?_ <;> (simp only [lnE] <;> omega)) | (refine Fit.draw1 ‹Fit _ _ _› ?_ ?_ ?_ <;> (simp only [lnE] <;> omega)) | (refine Fit.range0 ?_ ?_ <;> (simp only [lnE] <;> omega)) | fail)) only [syA, syB, argFr, D, E, T, C, undefv, eqF, aeq, sheqs, sheq, rdCells, cellsOf, fill, putAt, if_true, if_false, reduceIte, ↓reduceIte, reduceCtorEq, eq_self, Nat.reduceEqDiff, Nat.reduceAdd, Nat.reduceSub, Nat.reduceMul, Nat.reduceLT, Nat.reduceLeDiff, Nat.reducePow, Nat.reduceDiv, Nat.reduceMod, Int.reduceLT, Int.reduceLE, Int.reduceGT, Int.reduceGE, Int.reduceToNat, Int.reducePow, Int.reduceNeg, Int.reduceBEq, Int.reduceBNe, Int.reduceEq, Int.reduceAdd, Int.reduceSub, Int.reduceMul, cellv, sc, flatv, refs, refsF, refsC, h']
  exact ⟨_, rfl, rfl⟩
theorem up_none {was now : Int} {A : List Nat} (h : now ≤ was) : ∃ fr, Liter env lb57_1 [5, 0, 1] hp.length [(5, slI hp.length A), (0, .int .i64 was), (1, .int .i64 now)] ⟨hp ++ slIB A, L, H, []⟩ = some (.exit 0, fr, ⟨hp ++ slIB A, L, H, []⟩) ∧ fr.get 5 = some (slI hp.length A) ∧ fr.get 0 = some (.int .i64 was) ∧ fr.get 1 = some (.int .i64 now) := by
  have h' : ¬ was < now := by omega
  rw [iter_by lb57_1.eq_1]
  simp (disch := (first | omega | (simp only [lnE] <;> omega) | (refine Fit.mono ‹Fit _ _ _› ?_ <;> (simp only [lnE] <;> omega)) | (refine Fit.draw ‹Fit _ _ _› ?_ ?_ <;> (simp only [lnE] <;> omega)) | (refine Fit.hid1 ‹Fit _ _ _› ?_ ?_ <;> (simp only [lnE] <;> omega)) | (refine Fit.hidc1 ‹Fit _ _ _› ?_ ?_ <;> (simp only [lnE] <;> omega)) | (refine Fit.hidc2 ‹Fit _ _ _› ?_ ?_ ?_ <;> (simp only [lnE] <;> omega)) | (refine Fit.draw1 ‹Fit _ _ _› ?_ ?_ ?_ <;> (simp only [lnE] <;> omega)) | (refine Fit.range0 ?_ ?_ <;> (simp only [lnE] <;> omega)) | fail)) only [syA, syB, argFr, D, E, T, C, undefv, eqF, aeq, sheqs, sheq, rdCells, cellsOf, fill, putAt, if_true, if_false, reduceIte, ↓reduceIte, reduceCtorEq, eq_self, Nat.reduceEqDiff, Nat.reduceAdd, Nat.reduceSub, Nat.reduceMul, Nat.reduceLT, Nat.reduceLeDiff, Nat.reducePow, Nat.reduceDiv, Nat.reduceMod, Int.reduceLT, Int.reduceLE, Int.reduceGT, Int.reduceGE, Int.reduceToNat, Int.reducePow, Int.reduceNeg, Int.reduceBEq, Int.reduceBNe, Int.reduceEq, Int.reduceAdd, Int.reduceSub, Int.reduceMul, cellv, sc, flatv, refs, refsF, refsC, h']
  exact ⟨_, rfl, rfl, rfl, rfl⟩
/-- The two loops together. -/
theorem mv_loops {was now : Nat} (h1 : was ≤ 255) (h2 : now ≤ 255) (hF : Fit hp.length L H) : ∃ fr fr2 fr3,
    Liter env lb57_1 [5, 0, 1] hp.length [(5, .slice none 0 0), (0, .int .i64 was), (1, .int .i64 now)] ⟨hp, L, H, []⟩ = some (.exit 0, fr, ⟨hp ++ slIB fr2, L, H, []⟩) ∧ fr.get 5 = some (slI hp.length fr2) ∧ (∃ x, fr.get 0 = some (.int .i64 x) ∧ fr.get 1 = some (.int .i64 now) ∧
    Liter env lb57_0 [5, 0, 1] (hp.length + (slIB fr2).length) [(5, slI hp.length fr2), (0, .int .i64 x), (1, .int .i64 now)] ⟨hp ++ slIB fr2, L, H, []⟩ = some (.exit 2, fr3, ⟨hp ++ slIB (mv was now), L, H, []⟩) ∧ fr3.get 5 = some (slI hp.length (mv was now))) := by
  unfold mv
  by_cases c : now < was
  · rw [if_pos c]
    obtain ⟨fr, f1, f2, f3, f4⟩ := up_none (hp := hp) (L := L) (H := H) (was := was) (now := now) (A := []) (by omega)
    obtain ⟨fr3, g1, g2⟩ := down_loop (L := L) (H := H) (now := (now : Int)) hF (was - now) (was : Int) [] (by omega) (by simp; omega) (by omega)
    have e2 : slIB [] = [] := rfl
    rw [e2, List.append_nil] at f1
    exact ⟨fr, [], fr3, by rw [e2, List.append_nil]; exact f1, f2, _, f3, f4, g1, g2⟩
  · rw [if_neg c]
    obtain ⟨fr, f1, f2, f3, f4⟩ := up_loop (L := L) (H := H) (now := (now : Int)) hF (now - was) (was : Int) [] (by omega) (by simp; omega) (by omega)
    obtain ⟨fr3, g1, g2⟩ := down_none (hp := hp) (L := L) (H := H) (was := now) (now := now) (A := [] ++ rep 0 (now - was)) (base := hp.length + (slIB ([] ++ rep 0 (now - was))).length) (by omega)
    have e2 : slIB [] = [] := rfl
    rw [e2, List.append_nil] at f1
    exact ⟨fr, _, fr3, f1, f2, _, f3, f4, g1, g2⟩
theorem ltput_walk {was now : Nat} (h1 : was ≤ 255) (h2 : now ≤ 255) (hF : Fit hp.length L H) :
    Lrun env (.func 57) [.int .i64 was, .int .i64 now] ⟨hp, L, H, d⟩ = some (.slice (some ⟨hp.length, 0, some (chg was now).length⟩) (chg was now).length 1, ⟨hp ++ [.cells (chg was now).length true (is (chg was now))], L, H, d⟩) := by
  rw [Lrun_sym 57 _ _ fn57]
  obtain ⟨fr, B, fr3, f1, f2, x, f3, f4, f5, f6⟩ := mv_loops h1 h2 hF
  have sm1' : small 1 = true := rfl
  have is0 : is [0] = [.int .i64 0] := rfl
  have hml : (mv was now).length ≤ 520 := by
    have := chg_length h1 h2
    rw [chg_mv, List.length_append] at this
    omega
  rw [chg_mv]
  have hl1 : (mv was now ++ [0]).length = (mv was now).length + 1 := by simp
  rw [hl1]
  generalize mv was now = A at *
  by_cases h0 : A.length = 0
  · obtain rfl := List.eq_nil_of_length_eq_zero h0
    have e1 : slI hp.length [] = .slice none 0 0 := rfl
    have e2 : slIB [] = [] := rfl
    rw [e2, List.append_nil] at f5
    rw [e1] at f6
    have happ := append_is0 (hp := hp ++ [.cells 0 true (is [0])]) (L := L) (H := H) (d := []) (m := [0]) (by simp) (by simp)
    simp only [is0, List.length_append, List.length_cons, List.length_nil, Nat.zero_add, Nat.reduceAdd, List.append_assoc, List.cons_append, List.nil_append] at happ
    simp only [List.nil_append, is0, List.length_nil, Nat.zero_add]
    simp (disch := (first | omega | (simp only [lnE] <;> omega) | (refine Fit.mono ‹Fit _ _ _› ?_ <;> (simp only [lnE] <;> omega)) | (refine Fit.draw ‹Fit _ _ _› ?_ ?_ <;> (simp only [lnE] <;> omega)) | (refine Fit.hid1 ‹Fit _ _ _› ?_ ?_ <;> (simp only [lnE] <;> omega)) | (refine Fit.hidc1 ‹Fit _ _ _› ?_ ?_ <;> (simp only [lnE] <;> omega)) | (refine Fit.hidc2 ‹Fit _ _ _› ?_ ?_ ?_ <;> (simp only [lnE] <;> omega)) | (refine Fit.draw1 ‹Fit _ _ _› ?_ ?_ ?_ <;> (simp only [lnE] <;> omega)) | (refine Fit.range0 ?_ ?_ <;> (simp only [lnE] <;> omega)) | fail)) only [syA, syB, argFr, D, E, T, C, undefv, eqF, aeq, sheqs, sheq, rdCells, cellsOf, fill, putAt, if_true, if_false, reduceIte, ↓reduceIte, reduceCtorEq, eq_self, Nat.reduceEqDiff, Nat.reduceAdd, Nat.reduceSub, Nat.reduceMul, Nat.reduceLT, Nat.reduceLeDiff, Nat.reducePow, Nat.reduceDiv, Nat.reduceMod, Int.reduceLT, Int.reduceLE, Int.reduceGT, Int.reduceGE, Int.reduceToNat, Int.reducePow, Int.reduceNeg, Int.reduceBEq, Int.reduceBNe, Int.reduceEq, Int.reduceAdd, Int.reduceSub, Int.reduceMul, cellv, sc, flatv, refs, refsF, refsC, hF.not0, hF.not1, hF.up0, hF.up1, ac57, f1, f2, f3, f4, f5, f6, sm1', happ]
    rw [gc_keep 1 (g := 1) (cs := [.int .i64 0]) rfl (by simp [AM.refs, refsF, refsC]) (by simp [AM.refs, refsF, refsC])]
    have p1 : AM.one hp.length (hp.length + 1) (hp.length + 1) = hp.length := one_new
    simp only [ren]
    simp [renF, renC, p1, gcX_some, joinDirty_nil]
  · rw [slIB_of h0] at f5
    rw [slI_of h0] at f6
    have happ := append_isg (hp := hp ++ [.cells A.length true (is A), .cells 0 true (is [0])]) (L := L) (H := H) (d := []) (b := hp.length) (g := A.length) (l := A) (m := [0]) (get_new0 ..) (by have := hF.1; omega) hF.not0 (by simp) (by simp; omega)
    rw [set_new0] at happ
    simp only [is0, List.length_cons, List.length_nil, Nat.zero_add, Nat.reduceAdd, List.set_cons_zero] at happ
    simp (disch := (first | omega | (simp only [lnE] <;> omega) | (refine Fit.mono ‹Fit _ _ _› ?_ <;> (simp only [lnE] <;> omega)) | (refine Fit.draw ‹Fit _ _ _› ?_ ?_ <;> (simp only [lnE] <;> omega)) | (refine Fit.hid1 ‹Fit _ _ _› ?_ ?_ <;> (simp only [lnE] <;> omega)) | (refine Fit.hidc1 ‹Fit _ _ _› ?_ ?_ <;> (simp only [lnE] <;> omega)) | (refine Fit.hidc2 ‹Fit _ _ _› ?_ ?_ ?_ <;> (simp only [lnE] <;> omega)) | (refine Fit.draw1 ‹Fit _ _ _› ?_ ?_ ?_ <;> (simp only [lnE] <;> omega)) | (refine Fit.range0 ?_ ?_ <;> (simp only [lnE] <;> omega)) | fail)) only [syA, syB, argFr, D, E, T, C, undefv, eqF, aeq, sheqs, sheq, rdCells, cellsOf, fill, putAt, if_true, if_false, reduceIte, ↓reduceIte, reduceCtorEq, eq_self, Nat.reduceEqDiff, Nat.reduceAdd, Nat.reduceSub, Nat.reduceMul, Nat.reduceLT, Nat.reduceLeDiff, Nat.reducePow, Nat.reduceDiv, Nat.reduceMod, Int.reduceLT, Int.reduceLE, Int.reduceGT, Int.reduceGE, Int.reduceToNat, Int.reducePow, Int.reduceNeg, Int.reduceBEq, Int.reduceBNe, Int.reduceEq, Int.reduceAdd, Int.reduceSub, Int.reduceMul, cellv, sc, flatv, refs, refsF, refsC, hF.not0, hF.not1, hF.up0, hF.up1, ac57, f1, f2, f3, f4, f5, f6, sm1', happ]
    rw [gc_keep 0 (g := A.length + 1) (cs := is (A ++ [0])) rfl (by simp [AM.refs, refsF, refsC]) (by simp [AM.refs, refsF, refsC])]
    have p1 : AM.one hp.length hp.length hp.length = hp.length := one_new0
    simp only [ren, Nat.add_zero]
    simp [renF, renC, p1, gcX_some, joinDirty_nil]
theorem bits_loop {x : List Nat} (hx : x.length = 258) (hx8 : By x) (hF : Fit hp.length L H) : ∀ (n i was g : Nat) (A : List Nat), i + n = 258 → was ≤ 255 → A.length + 511 * n ≤ 200000 → ∃ fr,
    Liter env lb56_0 [5, 1, 6, 2] (hp.length + 2) [(5, .slice (some ⟨hp.length + 1, 0, some g⟩) A.length 1), (1, .int .i64 was), (6, .int .i64 i), (2, .pointer (some ⟨hp.length, 0, some 0⟩))] ⟨hp ++ [.cells 0 true (u8s x), .cells g true (is A)], L, H, []⟩
      = some (.exit 0, fr, ⟨hp ++ [.cells 0 true (u8s x), .cells (if n = 0 then g else (A ++ adj x n i was).length) true (is (A ++ adj x n i was))], L, H, []⟩) ∧ fr.get 5 = some (.slice (some ⟨hp.length + 1, 0, some (if n = 0 then g else (A ++ adj x n i was).length)⟩) (A ++ adj x n i was).length 1)
  | 0, i, was, g, A, e, hw, hs => by
    obtain rfl : i = 258 := by omega
    have h258 : ¬ ((258 : Nat) : Int) < 258 := by decide
    rw [iter_by lb56_0.eq_1, adj, List.append_nil, if_pos rfl]
    simp (disch := (first | omega | (simp only [lnE] <;> omega) | (refine Fit.mono ‹Fit _ _ _› ?_ <;> (simp only [lnE] <;> omega)) | (refine Fit.draw ‹Fit _ _ _› ?_ ?_ <;> (simp only [lnE] <;> omega)) | (refine Fit.hid1 ‹Fit _ _ _› ?_ ?_ <;> (simp only [lnE] <;> omega)) | (refine Fit.hidc1 ‹Fit _ _ _› ?_ ?_ <;> (simp only [lnE] <;> omega)) | (refine Fit.hidc2 ‹Fit _ _ _› ?_ ?_ ?_ <;> (simp only [lnE] <;> omega)) | (refine Fit.draw1 ‹Fit _ _ _› ?_ ?_ ?_ <;> (simp only [lnE] <;> omega)) | (refine Fit.range0 ?_ ?_ <;> (simp only [lnE] <;> omega)) | fail)) only [syA, syB, argFr, D, E, T, C, undefv, eqF, aeq, sheqs, sheq, rdCells, cellsOf, fill, putAt, if_true, if_false, reduceIte, ↓reduceIte, reduceCtorEq, eq_self, Nat.reduceEqDiff, Nat.reduceAdd, Nat.reduceSub, Nat.reduceMul, Nat.reduceLT, Nat.reduceLeDiff, Nat.reducePow, Nat.reduceDiv, Nat.reduceMod, Int.reduceLT, Int.reduceLE, Int.reduceGT, Int.reduceGE, Int.reduceToNat, Int.reducePow, Int.reduceNeg, Int.reduceBEq, Int.reduceBNe, Int.reduceEq, Int.reduceAdd, Int.reduceSub, Int.reduceMul, cellv, sc, flatv, refs, refsF, refsC, hF.not0, hF.not1, hF.up0, hF.up1, h258]
    exact ⟨_, rfl, rfl⟩
  | n + 1, i, was, g, A, e, hw, hs => by
    have hi : i < x.length := by omega
    have hi1 : (i : Int) < 258 := by omega
    have hi0 : (0 : Int) ≤ (i : Int) := by omega
    have hc := At258 hi
    have hb := hx8.get hi
    have hgd : x.getD i 0 = x[i] := by rw [List.getD_eq_getElem?_getD, List.getElem?_eq_getElem hi]; rfl
    have hcl := chg_length (was := was) (now := x[i]) hw (by omega)
    have hcl0 : (chg was x[i]).length ≠ 0 := by rw [chg_mv, List.length_append]; simp
    have hPt := fun d => ltput_walk (d := d) (hp := hp ++ [.cells 0 true (u8s x), .cells g true (is A)]) (L := L) (H := H) (was := was) (now := x[i]) hw (by omega) (hF.mono (by simp))
    simp only [List.length_append, List.length_cons, List.length_nil, Nat.zero_add, Nat.reduceAdd, List.append_assoc, List.cons_append, List.nil_append] at hPt
    obtain ⟨fr, f1, f2⟩ := bits_loop hx hx8 hF n (i + 1) x[i] (A ++ chg was x[i]).length (A ++ chg was x[i]) (by omega) (by omega) (by rw [List.length_append]; omega)
    have hadj : A ++ adj x (n + 1) i was = A ++ chg was x[i] ++ adj x n (i + 1) x[i] := by rw [adj, hgd, List.append_assoc]
    have hg : (if n = 0 then (A ++ chg was x[i]).length else (A ++ chg was x[i] ++ adj x n (i + 1) x[i]).length) = (A ++ chg was x[i] ++ adj x n (i + 1) x[i]).length := by
      split
      · rename_i h0
        subst h0
        rw [adj, List.append_nil]
      · rfl
    rw [hg] at f1 f2
    rw [hadj, if_neg (by omega)]
    have happ := append_isg (hp := hp ++ [.cells 0 true (u8s x), .cells g true (is A), .cells (chg was x[i]).length true (is (chg was x[i]))]) (L := L) (H := H) (d := []) (b := hp.length + 1) (g := g) (l := A) (m := chg was x[i]) (by rw [get_new]; rfl) (by have := hF.1; omega) (hF.not1 1) hcl0 (by omega)
    rw [set_new] at happ
    simp only [List.set_cons_succ, List.set_cons_zero] at happ
    have hlA : (A ++ chg was x[i]).length = A.length + (chg was x[i]).length := List.length_append
    rw [hlA] at f1
    simp only [Int.natCast_add, Int.natCast_one] at f1
    have hci : (is (chg was x[i])).length = (chg was x[i]).length := is_length _
    have hct : (is (chg was x[i])).take (chg was x[i]).length = is (chg was x[i]) := List.take_of_length_le (by omega)
    have hle : ((chg was x[i]).length ≤ (chg was x[i]).length) = True := eq_true (Nat.le_refl _)
    rw [iter_by lb56_0.eq_1]
    refine ⟨fr, ?_, f2⟩
    clear hadj hgd
    generalize x[i] = y at *
    generalize chg was y = cg at *
    generalize A ++ cg ++ adj x n (i + 1) y = RR at *
    simp (disch := (first | omega | (simp only [lnE] <;> omega) | (refine Fit.mono ‹Fit _ _ _› ?_ <;> (simp only [lnE] <;> omega)) | (refine Fit.draw ‹Fit _ _ _› ?_ ?_ <;> (simp only [lnE] <;> omega)) | (refine Fit.hid1 ‹Fit _ _ _› ?_ ?_ <;> (simp only [lnE] <;> omega)) | (refine Fit.hidc1 ‹Fit _ _ _› ?_ ?_ <;> (simp only [lnE] <;> omega)) | (refine Fit.hidc2 ‹Fit _ _ _› ?_ ?_ ?_ <;> (simp only [lnE] <;> omega)) | (refine Fit.draw1 ‹Fit _ _ _› ?_ ?_ ?_ <;> (simp only [lnE] <;> omega)) | (refine Fit.range0 ?_ ?_ <;> (simp only [lnE] <;> omega)) | fail)) only [syA, syB, argFr, D, E, T, C, undefv, eqF, aeq, sheqs, sheq, rdCells, cellsOf, fill, putAt, if_true, if_false, reduceIte, ↓reduceIte, reduceCtorEq, eq_self, Nat.reduceEqDiff, Nat.reduceAdd, Nat.reduceSub, Nat.reduceMul, Nat.reduceLT, Nat.reduceLeDiff, Nat.reducePow, Nat.reduceDiv, Nat.reduceMod, Int.reduceLT, Int.reduceLE, Int.reduceGT, Int.reduceGE, Int.reduceToNat, Int.reducePow, Int.reduceNeg, Int.reduceBEq, Int.reduceBNe, Int.reduceEq, Int.reduceAdd, Int.reduceSub, Int.reduceMul, cellv, sc, flatv, refs, refsF, refsC, hF.not0, hF.not1, hF.up0, hF.up1, hi0, hi1, hc, hPt, hci, hct, hle, happ]
    rw [gcFr_cut 2 (by simp) (by
      intro p hp' r hr
      simp only [List.mem_cons, List.not_mem_nil, or_false] at hp'
      rcases hp' with rfl | rfl | rfl | rfl
      · simp [refs, refsF, refsC] at hr; omega
      · simp [refs, refsF, refsC] at hr
      · simp [refs, refsF, refsC] at hr
      · simp [refs, refsF, refsC] at hr; omega)]
    simp only [List.take_succ_cons, List.take_zero, againX_some]
    exact f1
theorem ltbits_walk {x : List Nat} {f : Nat} (hx : x.length = 258) (hx8 : By x) (hf : f ≤ 15) (hF : Fit hp.length L H) :
    Lrun env (.func 56) [.agg (u8s x).toArray, .int .i64 f] ⟨hp, L, H, d⟩ = some (.slice (some ⟨hp.length, 0, some (f4 f 4 ++ adj x 258 0 f).length⟩) (f4 f 4 ++ adj x 258 0 f).length 1, ⟨hp ++ [.cells (f4 f 4 ++ adj x 258 0 f).length true (is (f4 f 4 ++ adj x 258 0 f))], L, H, d⟩) := by
  rw [Lrun_sym 56 _ _ fn56]
  obtain ⟨fr, f1, f2⟩ := bits_loop (hp := hp) (L := L) (H := H) hx hx8 hF 258 0 f 0 (f4 f 4) (by omega) (by omega) (by rw [f4_length]; omega)
  have h4 : is (f4 f 4) = [.int .i64 (f / 8 % 2 : Nat), .int .i64 (f / 4 % 2 : Nat), .int .i64 (f / 2 % 2 : Nat), .int .i64 (f % 2 : Nat)] := by simp [f4, is, List.range_succ]
  rw [if_neg (by decide)] at f1 f2
  rw [h4, f4_length] at f1
  simp only [Int.natCast_zero] at f1
  have q8 : (f : Int).tdiv 8 = (f / 8 : Nat) := by rw [tdiv_pos (by omega)]; omega
  have q4 : (f : Int).tdiv 4 = (f / 4 : Nat) := by rw [tdiv_pos (by omega)]; omega
  have q2 := td2 f
  have r8 := tm2 (f / 8)
  have r4 := tm2 (f / 4)
  have r2 := tm2 (f / 2)
  have r1 := tm2 f
  have htk := take258 hx
  have sm4 : small 4 = true := rfl
  generalize f4 f 4 ++ adj x 258 0 f = A at *
  simp (disch := (first | omega | (simp only [lnE] <;> omega) | (refine Fit.mono ‹Fit _ _ _› ?_ <;> (simp only [lnE] <;> omega)) | (refine Fit.draw ‹Fit _ _ _› ?_ ?_ <;> (simp only [lnE] <;> omega)) | (refine Fit.hid1 ‹Fit _ _ _› ?_ ?_ <;> (simp only [lnE] <;> omega)) | (refine Fit.hidc1 ‹Fit _ _ _› ?_ ?_ <;> (simp only [lnE] <;> omega)) | (refine Fit.hidc2 ‹Fit _ _ _› ?_ ?_ ?_ <;> (simp only [lnE] <;> omega)) | (refine Fit.draw1 ‹Fit _ _ _› ?_ ?_ ?_ <;> (simp only [lnE] <;> omega)) | (refine Fit.range0 ?_ ?_ <;> (simp only [lnE] <;> omega)) | fail)) only [syA, syB, argFr, D, E, T, C, undefv, eqF, aeq, sheqs, sheq, rdCells, cellsOf, fill, putAt, if_true, if_false, reduceIte, ↓reduceIte, reduceCtorEq, eq_self, Nat.reduceEqDiff, Nat.reduceAdd, Nat.reduceSub, Nat.reduceMul, Nat.reduceLT, Nat.reduceLeDiff, Nat.reducePow, Nat.reduceDiv, Nat.reduceMod, Int.reduceLT, Int.reduceLE, Int.reduceGT, Int.reduceGE, Int.reduceToNat, Int.reducePow, Int.reduceNeg, Int.reduceBEq, Int.reduceBNe, Int.reduceEq, Int.reduceAdd, Int.reduceSub, Int.reduceMul, cellv, sc, flatv, refs, refsF, refsC, hF.not0, hF.not1, hF.up0, hF.up1, ac56, u8s_cellv, u8s_scs, htk, hx, le258 hx, q8, q4, q2, r8, r4, r2, r1, sm4, f1, f2]
  rw [gc_keep 1 (g := A.length) (cs := is A) rfl (by simp [AM.refs, refsF, refsC]) (by simp [AM.refs, refsF, refsC])]
  have p1 : AM.one hp.length (hp.length + 1) (hp.length + 1) = hp.length := one_new
  simp only [ren]
  simp [renF, renC, p1, gcX_some, joinDirty_nil]
theorem ltof_bad {x : List Nat} (hx : x.length = 258) (hx8 : By x) (ht : kTable x = false) (hF : Fit hp.length L H) :
    Lrun env (.func 17) [.agg (u8s x).toArray] ⟨hp, L, H, d⟩ = some (.tuple #[.slice none 0 0, .int .i64 2], ⟨hp, L, H, d⟩) := by
  rw [Lrun_sym 17 _ _ fn17]
  have ht' := fun hp L H d hF => rtable_walk (hp := hp) (L := L) (H := H) (d := d) hx hx8 hF
  rw [ht] at ht'
  have htk := take258 hx
  simp (disch := (first | omega | (simp only [lnE] <;> omega) | (refine Fit.mono ‹Fit _ _ _› ?_ <;> (simp only [lnE] <;> omega)) | (refine Fit.draw ‹Fit _ _ _› ?_ ?_ <;> (simp only [lnE] <;> omega)) | (refine Fit.hid1 ‹Fit _ _ _› ?_ ?_ <;> (simp only [lnE] <;> omega)) | (refine Fit.hidc1 ‹Fit _ _ _› ?_ ?_ <;> (simp only [lnE] <;> omega)) | (refine Fit.hidc2 ‹Fit _ _ _› ?_ ?_ ?_ <;> (simp only [lnE] <;> omega)) | (refine Fit.draw1 ‹Fit _ _ _› ?_ ?_ ?_ <;> (simp only [lnE] <;> omega)) | (refine Fit.range0 ?_ ?_ <;> (simp only [lnE] <;> omega)) | fail)) only [syA, syB, argFr, D, E, T, C, undefv, eqF, aeq, sheqs, sheq, rdCells, cellsOf, fill, putAt, if_true, if_false, reduceIte, ↓reduceIte, reduceCtorEq, eq_self, Nat.reduceEqDiff, Nat.reduceAdd, Nat.reduceSub, Nat.reduceMul, Nat.reduceLT, Nat.reduceLeDiff, Nat.reducePow, Nat.reduceDiv, Nat.reduceMod, Int.reduceLT, Int.reduceLE, Int.reduceGT, Int.reduceGE, Int.reduceToNat, Int.reducePow, Int.reduceNeg, Int.reduceBEq, Int.reduceBNe, Int.reduceEq, Int.reduceAdd, Int.reduceSub, Int.reduceMul, cellv, sc, flatv, refs, refsF, refsC, hF.not0, hF.not1, hF.up0, hF.up1, ac17, u8s_cellv, u8s_scs, ht', htk, hx, le258 hx]
theorem ltof_good {x : List Nat} (hx : x.length = 258) (hx8 : By x) (ht : kTable x = true) (hF : Fit hp.length L H) :
    Lrun env (.func 17) [.agg (u8s x).toArray] ⟨hp, L, H, d⟩ = some (.tuple #[slI hp.length (encF x), .int .i64 0], ⟨hp ++ slIB (encF x), L, H, d⟩) := by
  rw [Lrun_sym 17 _ _ fn17]
  have ht' := fun hp L H d hF => rtable_walk (hp := hp) (L := L) (H := H) (d := d) hx hx8 hF
  rw [ht] at ht'
  have hb := fun hp L H d hF => ltbits_walk (hp := hp) (L := L) (H := H) (d := d) (f := x.getD 0 0) hx hx8 (table_getD ht 0) hF
  have he : f4 (x.getD 0 0) 4 ++ adj x 258 0 (x.getD 0 0) = encF x := rfl
  rw [he] at hb
  have hEn : (encF x).length ≠ 0 := by have := encF_ge x; omega
  have hc0 : (u8s x)[0]? = some (.int .u8 (x.getD 0 0 : Nat)) := by
    rw [At258 (by omega), List.getD_eq_getElem?_getD, List.getElem?_eq_getElem (by omega)]; rfl
  have htk := take258 hx
  have h15 := table_getD ht 0
  rw [slI_of hEn, slIB_of hEn]
  clear he
  generalize encF x = A at *
  generalize x.getD 0 0 = y at *
  simp (disch := (first | omega | (simp only [lnE] <;> omega) | (refine Fit.mono ‹Fit _ _ _› ?_ <;> (simp only [lnE] <;> omega)) | (refine Fit.draw ‹Fit _ _ _› ?_ ?_ <;> (simp only [lnE] <;> omega)) | (refine Fit.hid1 ‹Fit _ _ _› ?_ ?_ <;> (simp only [lnE] <;> omega)) | (refine Fit.hidc1 ‹Fit _ _ _› ?_ ?_ <;> (simp only [lnE] <;> omega)) | (refine Fit.hidc2 ‹Fit _ _ _› ?_ ?_ ?_ <;> (simp only [lnE] <;> omega)) | (refine Fit.draw1 ‹Fit _ _ _› ?_ ?_ ?_ <;> (simp only [lnE] <;> omega)) | (refine Fit.range0 ?_ ?_ <;> (simp only [lnE] <;> omega)) | fail)) only [syA, syB, argFr, D, E, T, C, undefv, eqF, aeq, sheqs, sheq, rdCells, cellsOf, fill, putAt, if_true, if_false, reduceIte, ↓reduceIte, reduceCtorEq, eq_self, Nat.reduceEqDiff, Nat.reduceAdd, Nat.reduceSub, Nat.reduceMul, Nat.reduceLT, Nat.reduceLeDiff, Nat.reducePow, Nat.reduceDiv, Nat.reduceMod, Int.reduceLT, Int.reduceLE, Int.reduceGT, Int.reduceGE, Int.reduceToNat, Int.reducePow, Int.reduceNeg, Int.reduceBEq, Int.reduceBNe, Int.reduceEq, Int.reduceAdd, Int.reduceSub, Int.reduceMul, cellv, sc, flatv, refs, refsF, refsC, hF.not0, hF.not1, hF.up0, hF.up1, ac17, u8s_cellv, u8s_scs, ht', htk, hx, le258 hx, hc0, hb]
  rw [gc_keep 1 (g := A.length) (cs := is A) rfl (by simp [AM.refs, refsF, refsC]) (by simp [AM.refs, refsF, refsC])]
  have p1 : AM.one hp.length (hp.length + 1) (hp.length + 1) = hp.length := one_new
  simp only [ren]
  simp [renF, renC, p1, gcX_some, joinDirty_nil]
end LtA
end Go.Proofs.Ytlphmnhkkhcjfaa
end
