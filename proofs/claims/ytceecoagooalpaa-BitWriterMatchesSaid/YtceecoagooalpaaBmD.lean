/-
  THE BIT WRITER's reference: Of, Get, Ints. Conditions: none.
-/
import Derived.Test.YtceecoagooalpaaBmC
set_option linter.all false
section
namespace Go.Proofs.Ytceecoagooalpaa
namespace Bt
open Go Go.RowKit AM ArEnv
variable {hp : List Blk} {L : Nat} {H : List Nat} {s s2 : Nat} {l : List Nat}

theorem bitsIn_add (bs : List Nat) (m : Nat) : ∀ (n p : Nat), bitsIn bs p (n + m) = bitsIn bs p n ++ bitsIn bs (p + n) m
  | 0, p => by simp [bitsIn]
  | n + 1, p => by rw [show n + 1 + m = (n + m) + 1 by omega, bitsIn, bitsIn, bitsIn_add bs m n (p + 1), List.cons_append, show p + 1 + n = p + (n + 1) by omega]
theorem bitsIn_at {bs : List Nat} {i : Nat} (hi : i < bs.length) : bitsIn bs (8 * i) 8 = bitsAt bs[i] 8 := by
  have hg : ∀ j, j < 8 → bitAt bs (8 * i + j) = bs[i] / 2 ^ (7 - j) % 2 := fun j hj => by
    unfold bitAt
    rw [show (8 * i + j) / 8 = i by omega, show (8 * i + j) % 8 = j by omega, List.getD_eq_getElem?_getD, List.getElem?_eq_getElem hi]
    rfl
  have h0 := hg 0 (by omega)
  rw [Nat.add_zero] at h0
  simp only [bitsIn, bitsAt, Nat.add_assoc, Nat.reduceAdd, h0, hg 1 (by omega), hg 2 (by omega), hg 3 (by omega), hg 4 (by omega), hg 5 (by omega), hg 6 (by omega), hg 7 (by omega), Nat.reduceSub]
theorem slI_some (h : l.length ≠ 0) : slI s l = .slice (some ⟨s, 0, some l.length⟩) l.length 1 := if_neg h
theorem slIB_some (h : l.length ≠ 0) : slIB l = [.cells l.length true (is l)] := if_neg h
theorem refof_loop {v : Value} (R : Rd ⟨hp, L, H, []⟩ v l) (hs : l.length ≤ 2000) (hF : Fit hp.length L H) : ∀ (n i : Nat), i + n = l.length →
    ∃ fr, Liter env lb34_0 [3, 4, 0] hp.length [(3, slI hp.length (bitsIn l 0 (8 * i))), (4, .int .i64 i), (0, v)] ⟨hp ++ slIB (bitsIn l 0 (8 * i)), L, H, []⟩
      = some (.exit 0, fr, ⟨hp ++ slIB (allBits l), L, H, []⟩) ∧ fr.get 3 = some (slI hp.length (allBits l))
  | 0, i, e => by
    obtain rfl : i = l.length := by omega
    obtain ⟨p, e, rfl⟩ := R.len
    rw [iter_by lb34_0.eq_1]
    simp (disch := (first | omega | (simp only [lnE] <;> omega) | (refine Fit.mono ‹Fit _ _ _› ?_ <;> (simp only [lnE] <;> omega)) | (refine Fit.draw ‹Fit _ _ _› ?_ ?_ <;> (simp only [lnE] <;> omega)) | (refine Fit.hid1 ‹Fit _ _ _› ?_ ?_ <;> (simp only [lnE] <;> omega)) | (refine Fit.draw1 ‹Fit _ _ _› ?_ ?_ ?_ <;> (simp only [lnE] <;> omega)) | (refine Fit.range0 ?_ ?_ <;> (simp only [lnE] <;> omega)) | fail)) only [syA, syB, argFr, D, E, T, C, undefv, eqF, aeq, sheqs, sheq, rdCells, cellsOf, fill, putAt, if_true, if_false, reduceIte, ↓reduceIte, reduceCtorEq, eq_self, Nat.reduceEqDiff, Nat.reduceAdd, Nat.reduceSub, Nat.reduceMul, Nat.reduceLT, Nat.reduceLeDiff, Nat.reducePow, Nat.reduceDiv, Nat.reduceMod, Int.reduceLT, Int.reduceLE, Int.reduceGT, Int.reduceGE, Int.reduceToNat, Int.reducePow, Int.reduceNeg, Int.reduceBEq, Int.reduceBNe, Int.reduceEq, Int.reduceAdd, Int.reduceSub, Int.reduceMul, cellv, sc, flatv, refs, refsF, refsC]
    exact ⟨_, rfl, rfl⟩
  | n + 1, i, e => by
    have hi : i < l.length := by omega
    have hi1 : (i : Int) < (l.length : Nat) := by omega
    have hi0 : (0 : Int) ≤ (i : Int) := by omega
    obtain ⟨fr, ih, h2⟩ := refof_loop R hs hF n (i + 1) (by omega)
    refine ⟨fr, ?_, h2⟩
    have hvr := R.refs
    have hx := R.by_.get hi
    have hsn : bitsIn l 0 (8 * (i + 1)) = bitsIn l 0 (8 * i) ++ bitsAt l[i] 8 := by
      rw [show 8 * (i + 1) = 8 * i + 8 by omega, bitsIn_add, Nat.zero_add, bitsIn_at hi]
    have hbl : (bitsIn l 0 (8 * i)).length = 8 * i := bitsIn_length ..
    have h8 : (bitsAt l[i] 8).length = 8 := bitsAt_length ..
    obtain ⟨p, e', hve⟩ := R.len
    subst hve
    have hlen8 : (bitsIn l 0 (8 * i) ++ bitsAt l[i] 8).length = 8 * i + 8 := by rw [List.length_append, hbl, h8]
    rw [hsn, slI_some (by omega), slIB_some (by omega), hlen8] at ih
    simp only [Int.natCast_add, Int.natCast_one] at ih
    have hnum := fun hp (hF : Fit (List.length hp) L H) => number_walk (v := l[i]) (n := 8) (by omega) (by omega) hF []
    have e1 : ∀ k, slN k (bitsAt l[i] 8) = .slice (some ⟨k, 0, some 8⟩) 8 1 := fun k => by unfold slN sg; rw [h8, if_neg (by omega), if_neg (by omega)]
    have e2 : slNB (bitsAt l[i] 8) = [.cells 8 true (is (bitsAt l[i] 8))] := by unfold slNB sg; rw [h8, if_neg (by omega), if_neg (by omega)]
    simp only [e1, e2] at hnum
    have hle : 8 ≤ (is (bitsAt l[i] 8)).length := by rw [is_length]; omega
    have htk : (is (bitsAt l[i] 8)).take 8 = is (bitsAt l[i] 8) := List.take_of_length_le (by rw [is_length]; omega)
    obtain ⟨b, o, g, pl, cs, rfl, _, hh, hb, hcell⟩ := R.at_ hi
    simp only [] at hh hb
    have hbb := (List.getElem?_eq_some_iff.1 hb).1
    rw [iter_by lb34_0.eq_1]
    by_cases h0 : i = 0
    · subst h0
      have hn : bitsIn l 0 (8 * 0) = [] := rfl
      have e3 : slI hp.length [] = .slice none 0 0 := rfl
      have e4 : slIB [] = [] := rfl
      rw [hn, e3, e4, List.append_nil]
      rw [hn, List.nil_append] at ih
      have happ := append_is0 (hp := hp ++ [.cells 8 true (is (bitsAt l[0] 8))]) (L := L) (H := H) (d := []) (m := bitsAt l[0] 8) (by omega) (by omega)
      simp only [h8, List.length_append, List.length_cons, List.length_nil, Nat.zero_add, List.append_assoc, List.cons_append, List.nil_append] at happ
      have hnu := hnum hp hF
      rw [Nat.add_zero] at hcell
      simp only [Int.cast_ofNat_Int] at hnu
      simp only [Int.natCast_zero] at *
      simp (disch := (first | omega | (simp only [lnE] <;> omega) | (refine Fit.mono ‹Fit _ _ _› ?_ <;> (simp only [lnE] <;> omega)) | (refine Fit.draw ‹Fit _ _ _› ?_ ?_ <;> (simp only [lnE] <;> omega)) | (refine Fit.hid1 ‹Fit _ _ _› ?_ ?_ <;> (simp only [lnE] <;> omega)) | (refine Fit.draw1 ‹Fit _ _ _› ?_ ?_ ?_ <;> (simp only [lnE] <;> omega)) | (refine Fit.range0 ?_ ?_ <;> (simp only [lnE] <;> omega)) | fail)) only [syA, syB, argFr, D, E, T, C, undefv, eqF, aeq, sheqs, sheq, rdCells, cellsOf, fill, putAt, if_true, if_false, reduceIte, ↓reduceIte, reduceCtorEq, eq_self, Nat.reduceEqDiff, Nat.reduceAdd, Nat.reduceSub, Nat.reduceMul, Nat.reduceLT, Nat.reduceLeDiff, Nat.reducePow, Nat.reduceDiv, Nat.reduceMod, Int.reduceLT, Int.reduceLE, Int.reduceGT, Int.reduceGE, Int.reduceToNat, Int.reducePow, Int.reduceNeg, Int.reduceBEq, Int.reduceBNe, Int.reduceEq, Int.reduceAdd, Int.reduceSub, Int.reduceMul, cellv, sc, flatv, refs, refsF, refsC, hF.not0, hF.not1, hF.up0, hF.up1, hi0, hi1, hh, hb, hcell, hnu, hle, htk, happ]
      rw [gcFr_one 1 (g := 8) (cs := is (bitsAt l[0] 8)) rfl (by
        intro p hp' r hr
        simp only [List.mem_cons, List.not_mem_nil, or_false] at hp'
        rcases hp' with rfl | rfl | rfl
        · simp [AM.refs, refsF, refsC] at hr; exact .inr hr
        · simp [AM.refs, refsF, refsC] at hr
        · exact .inl (hvr r hr)) ⟨_, List.mem_cons_self, by simp [AM.refs, refsF, refsC]⟩]
      simp only [List.map_cons, List.map_nil, rn_slice, rn_int, one_new, one_old hbb, againX_some]
      exact ih
    · have hne : (bitsIn l 0 (8 * i)).length ≠ 0 := by omega
      rw [slI_some hne, slIB_some hne, hbl]
      have happ := append_isg (hp := hp ++ [.cells (8 * i) true (is (bitsIn l 0 (8 * i))), .cells 8 true (is (bitsAt l[i] 8))]) (L := L) (H := H) (d := []) (b := hp.length) (g := 8 * i) (l := bitsIn l 0 (8 * i)) (m := bitsAt l[i] 8) (get_new0 _) hF.1 hF.not0 (by omega) (by omega)
      rw [hbl, h8, set_new0] at happ
      have hnu := hnum (hp ++ [.cells (8 * i) true (is (bitsIn l 0 (8 * i)))]) (hF.mono (by simp))
      simp only [Int.cast_ofNat_Int] at hnu
      simp only [List.length_append, List.length_cons, List.length_nil, Nat.zero_add, List.append_assoc, List.cons_append, List.nil_append] at hnu
      simp (disch := (first | omega | (simp only [lnE] <;> omega) | (refine Fit.mono ‹Fit _ _ _› ?_ <;> (simp only [lnE] <;> omega)) | (refine Fit.draw ‹Fit _ _ _› ?_ ?_ <;> (simp only [lnE] <;> omega)) | (refine Fit.hid1 ‹Fit _ _ _› ?_ ?_ <;> (simp only [lnE] <;> omega)) | (refine Fit.draw1 ‹Fit _ _ _› ?_ ?_ ?_ <;> (simp only [lnE] <;> omega)) | (refine Fit.range0 ?_ ?_ <;> (simp only [lnE] <;> omega)) | fail)) only [syA, syB, argFr, D, E, T, C, undefv, eqF, aeq, sheqs, sheq, rdCells, cellsOf, fill, putAt, if_true, if_false, reduceIte, ↓reduceIte, reduceCtorEq, eq_self, Nat.reduceEqDiff, Nat.reduceAdd, Nat.reduceSub, Nat.reduceMul, Nat.reduceLT, Nat.reduceLeDiff, Nat.reducePow, Nat.reduceDiv, Nat.reduceMod, Int.reduceLT, Int.reduceLE, Int.reduceGT, Int.reduceGE, Int.reduceToNat, Int.reducePow, Int.reduceNeg, Int.reduceBEq, Int.reduceBNe, Int.reduceEq, Int.reduceAdd, Int.reduceSub, Int.reduceMul, cellv, sc, flatv, refs, refsF, refsC, hF.not0, hF.not1, hF.up0, hF.up1, hi0, hi1, hh, hb, hcell, hnu, hle, htk, happ]
      rw [gcFr_one 0 (g := 8 * i + 8) (cs := is (bitsIn l 0 (8 * i) ++ bitsAt l[i] 8)) rfl (by
        intro p hp' r hr
        simp only [List.mem_cons, List.not_mem_nil, or_false] at hp'
        rcases hp' with rfl | rfl | rfl
        · simp [AM.refs, refsF, refsC] at hr; exact .inr hr
        · simp [AM.refs, refsF, refsC] at hr
        · exact .inl (hvr r hr)) ⟨_, List.mem_cons_self, by simp [AM.refs, refsF, refsC]⟩]
      simp only [List.map_cons, List.map_nil, rn_slice, rn_int, Nat.add_zero, one_new0, one_old hbb, againX_some]
      exact ih
theorem refof_walk {v : Value} {d : List Nat} (R : Rd ⟨hp, L, H, d⟩ v l) (hs : l.length ≤ 2000) (hF : Fit hp.length L H) :
    Lrun env (.func 34) [v] ⟨hp, L, H, d⟩ = some (slI hp.length (allBits l), ⟨hp ++ slIB (allBits l), L, H, d⟩) := by
  rw [Lrun_sym 34 _ _ fn34]
  have R' : Rd ⟨hp, L, H, []⟩ v l := R.locked
  obtain ⟨fr, h1, h2⟩ := refof_loop R' hs hF l.length 0 (by omega)
  have e1 : slI hp.length (bitsIn l 0 (8 * 0)) = .slice none 0 0 := rfl
  have e2 : slIB (bitsIn l 0 (8 * 0)) = [] := rfl
  rw [e1, e2, List.append_nil] at h1
  simp only [Int.natCast_zero] at h1
  obtain ⟨p, e, rfl⟩ := R.len
  by_cases h0 : (allBits l).length = 0
  · have e3 : slI hp.length (allBits l) = .slice none 0 0 := if_pos h0
    have e4 : slIB (allBits l) = [] := if_pos h0
    rw [e3] at h2 ⊢
    rw [e4] at h1 ⊢
    rw [List.append_nil] at h1 ⊢
    simp (disch := (first | omega | (simp only [lnE] <;> omega) | (refine Fit.mono ‹Fit _ _ _› ?_ <;> (simp only [lnE] <;> omega)) | (refine Fit.draw ‹Fit _ _ _› ?_ ?_ <;> (simp only [lnE] <;> omega)) | (refine Fit.hid1 ‹Fit _ _ _› ?_ ?_ <;> (simp only [lnE] <;> omega)) | (refine Fit.draw1 ‹Fit _ _ _› ?_ ?_ ?_ <;> (simp only [lnE] <;> omega)) | (refine Fit.range0 ?_ ?_ <;> (simp only [lnE] <;> omega)) | fail)) only [syA, syB, argFr, D, E, T, C, undefv, eqF, aeq, sheqs, sheq, rdCells, cellsOf, fill, putAt, if_true, if_false, reduceIte, ↓reduceIte, reduceCtorEq, eq_self, Nat.reduceEqDiff, Nat.reduceAdd, Nat.reduceSub, Nat.reduceMul, Nat.reduceLT, Nat.reduceLeDiff, Nat.reducePow, Nat.reduceDiv, Nat.reduceMod, Int.reduceLT, Int.reduceLE, Int.reduceGT, Int.reduceGE, Int.reduceToNat, Int.reducePow, Int.reduceNeg, Int.reduceBEq, Int.reduceBNe, Int.reduceEq, Int.reduceAdd, Int.reduceSub, Int.reduceMul, cellv, sc, flatv, refs, refsF, refsC, hF.not0, hF.not1, hF.up0, hF.up1, ac34, h1, h2]
  · rw [slI_some h0] at h2 ⊢
    rw [slIB_some h0] at h1 ⊢
    simp (disch := (first | omega | (simp only [lnE] <;> omega) | (refine Fit.mono ‹Fit _ _ _› ?_ <;> (simp only [lnE] <;> omega)) | (refine Fit.draw ‹Fit _ _ _› ?_ ?_ <;> (simp only [lnE] <;> omega)) | (refine Fit.hid1 ‹Fit _ _ _› ?_ ?_ <;> (simp only [lnE] <;> omega)) | (refine Fit.draw1 ‹Fit _ _ _› ?_ ?_ ?_ <;> (simp only [lnE] <;> omega)) | (refine Fit.range0 ?_ ?_ <;> (simp only [lnE] <;> omega)) | fail)) only [syA, syB, argFr, D, E, T, C, undefv, eqF, aeq, sheqs, sheq, rdCells, cellsOf, fill, putAt, if_true, if_false, reduceIte, ↓reduceIte, reduceCtorEq, eq_self, Nat.reduceEqDiff, Nat.reduceAdd, Nat.reduceSub, Nat.reduceMul, Nat.reduceLT, Nat.reduceLeDiff, Nat.reducePow, Nat.reduceDiv, Nat.reduceMod, Int.reduceLT, Int.reduceLE, Int.reduceGT, Int.reduceGE, Int.reduceToNat, Int.reducePow, Int.reduceNeg, Int.reduceBEq, Int.reduceBNe, Int.reduceEq, Int.reduceAdd, Int.reduceSub, Int.reduceMul, cellv, sc, flatv, refs, refsF, refsC, hF.not0, hF.not1, hF.up0, hF.up1, ac34, h1, h2]
    rw [gcY_slice]
    rfl
theorem ints_loop {hq : List Blk} (h0 : l.length ≠ 0) (hs : hq[s]? = some (.cells l.length true (is l))) (hsH : H.contains s = false) (hs2 : hq[s2]? = some (.cells l.length true (is l))) (hsH2 : H.contains s2 = false) (hl : l.length ≤ 100000) (hF : Fit hq.length L H) : ∀ (n i : Nat), i + n = l.length →
    ∃ fr, Liter env lb32_0 [1, 0, 5] hq.length [(1, .slice (some ⟨s2, 0, some l.length⟩) l.length 1), (0, .slice (some ⟨s, 0, some l.length⟩) l.length 1), (5, .int .i64 i)] ⟨hq, L, H, []⟩ = some (.exit 0, fr, ⟨hq, L, H, []⟩)
  | 0, i, e => by
    obtain rfl : i = l.length := by omega
    rw [iter_by lb32_0.eq_1]
    simp (disch := (first | omega | (simp only [lnE] <;> omega) | (refine Fit.mono ‹Fit _ _ _› ?_ <;> (simp only [lnE] <;> omega)) | (refine Fit.draw ‹Fit _ _ _› ?_ ?_ <;> (simp only [lnE] <;> omega)) | (refine Fit.hid1 ‹Fit _ _ _› ?_ ?_ <;> (simp only [lnE] <;> omega)) | (refine Fit.draw1 ‹Fit _ _ _› ?_ ?_ ?_ <;> (simp only [lnE] <;> omega)) | (refine Fit.range0 ?_ ?_ <;> (simp only [lnE] <;> omega)) | fail)) only [syA, syB, argFr, D, E, T, C, undefv, eqF, aeq, sheqs, sheq, rdCells, cellsOf, fill, putAt, if_true, if_false, reduceIte, ↓reduceIte, reduceCtorEq, eq_self, Nat.reduceEqDiff, Nat.reduceAdd, Nat.reduceSub, Nat.reduceMul, Nat.reduceLT, Nat.reduceLeDiff, Nat.reducePow, Nat.reduceDiv, Nat.reduceMod, Int.reduceLT, Int.reduceLE, Int.reduceGT, Int.reduceGE, Int.reduceToNat, Int.reducePow, Int.reduceNeg, Int.reduceBEq, Int.reduceBNe, Int.reduceEq, Int.reduceAdd, Int.reduceSub, Int.reduceMul, cellv, sc, flatv, refs, refsF, refsC]
    exact ⟨_, rfl⟩
  | n + 1, i, e => by
    have hi : i < l.length := by omega
    have hi1 : (i : Int) < (l.length : Nat) := by omega
    have hi0 : (0 : Int) ≤ (i : Int) := by omega
    obtain ⟨fr, ih⟩ := ints_loop h0 hs hsH hs2 hsH2 hl hF n (i + 1) (by omega)
    refine ⟨fr, ?_⟩
    have hr : (is l)[i]? = some (.int .i64 (l[i] : Nat)) := by simp [is, hi]
    simp only [Int.natCast_add, Int.natCast_one] at ih
    rw [iter_by lb32_0.eq_1]
    simp (disch := (first | omega | (simp only [lnE] <;> omega) | (refine Fit.mono ‹Fit _ _ _› ?_ <;> (simp only [lnE] <;> omega)) | (refine Fit.draw ‹Fit _ _ _› ?_ ?_ <;> (simp only [lnE] <;> omega)) | (refine Fit.hid1 ‹Fit _ _ _› ?_ ?_ <;> (simp only [lnE] <;> omega)) | (refine Fit.draw1 ‹Fit _ _ _› ?_ ?_ ?_ <;> (simp only [lnE] <;> omega)) | (refine Fit.range0 ?_ ?_ <;> (simp only [lnE] <;> omega)) | fail)) only [syA, syB, argFr, D, E, T, C, undefv, eqF, aeq, sheqs, sheq, rdCells, cellsOf, fill, putAt, if_true, if_false, reduceIte, ↓reduceIte, reduceCtorEq, eq_self, Nat.reduceEqDiff, Nat.reduceAdd, Nat.reduceSub, Nat.reduceMul, Nat.reduceLT, Nat.reduceLeDiff, Nat.reducePow, Nat.reduceDiv, Nat.reduceMod, Int.reduceLT, Int.reduceLE, Int.reduceGT, Int.reduceGE, Int.reduceToNat, Int.reducePow, Int.reduceNeg, Int.reduceBEq, Int.reduceBNe, Int.reduceEq, Int.reduceAdd, Int.reduceSub, Int.reduceMul, cellv, sc, flatv, refs, refsF, refsC, hi0, hi1, hs, hsH, hs2, hsH2, hr]
    exact ih
theorem ints_walk (hs : l.length ≠ 0 → hp[s]? = some (.cells l.length true (is l))) (hsH : H.contains s = false) (hs2 : l.length ≠ 0 → hp[s2]? = some (.cells l.length true (is l))) (hsH2 : H.contains s2 = false) (hl : l.length ≤ 100000) (hF : Fit hp.length L H) (d : List Nat) :
    Lrun env (.func 32) [slI s l, slI s2 l] ⟨hp, L, H, d⟩ = some (.bool true, ⟨hp, L, H, d⟩) := by
  rw [Lrun_sym 32 _ _ fn32]
  by_cases h0 : l.length = 0
  · have e1 : ∀ k, slI k l = .slice none 0 0 := fun k => if_pos h0
    rw [e1, e1]
    have it := iter_by (env := env) lb32_0.eq_1
    simp (disch := (first | omega | (simp only [lnE] <;> omega) | (refine Fit.mono ‹Fit _ _ _› ?_ <;> (simp only [lnE] <;> omega)) | (refine Fit.draw ‹Fit _ _ _› ?_ ?_ <;> (simp only [lnE] <;> omega)) | (refine Fit.hid1 ‹Fit _ _ _› ?_ ?_ <;> (simp only [lnE] <;> omega)) | (refine Fit.draw1 ‹Fit _ _ _› ?_ ?_ ?_ <;> (simp only [lnE] <;> omega)) | (refine Fit.range0 ?_ ?_ <;> (simp only [lnE] <;> omega)) | fail)) only [syA, syB, argFr, D, E, T, C, undefv, eqF, aeq, sheqs, sheq, rdCells, cellsOf, fill, putAt, if_true, if_false, reduceIte, ↓reduceIte, reduceCtorEq, eq_self, Nat.reduceEqDiff, Nat.reduceAdd, Nat.reduceSub, Nat.reduceMul, Nat.reduceLT, Nat.reduceLeDiff, Nat.reducePow, Nat.reduceDiv, Nat.reduceMod, Int.reduceLT, Int.reduceLE, Int.reduceGT, Int.reduceGE, Int.reduceToNat, Int.reducePow, Int.reduceNeg, Int.reduceBEq, Int.reduceBNe, Int.reduceEq, Int.reduceAdd, Int.reduceSub, Int.reduceMul, cellv, sc, flatv, refs, refsF, refsC, hF.not0, hF.not1, hF.up0, hF.up1, ac32, it, Int.natCast_zero]
  · obtain ⟨fr, h1⟩ := ints_loop h0 (hs h0) hsH (hs2 h0) hsH2 hl hF l.length 0 (by omega)
    simp only [Int.natCast_zero] at h1
    rw [slI_some h0, slI_some h0]
    simp (disch := (first | omega | (simp only [lnE] <;> omega) | (refine Fit.mono ‹Fit _ _ _› ?_ <;> (simp only [lnE] <;> omega)) | (refine Fit.draw ‹Fit _ _ _› ?_ ?_ <;> (simp only [lnE] <;> omega)) | (refine Fit.hid1 ‹Fit _ _ _› ?_ ?_ <;> (simp only [lnE] <;> omega)) | (refine Fit.draw1 ‹Fit _ _ _› ?_ ?_ ?_ <;> (simp only [lnE] <;> omega)) | (refine Fit.range0 ?_ ?_ <;> (simp only [lnE] <;> omega)) | fail)) only [syA, syB, argFr, D, E, T, C, undefv, eqF, aeq, sheqs, sheq, rdCells, cellsOf, fill, putAt, if_true, if_false, reduceIte, ↓reduceIte, reduceCtorEq, eq_self, Nat.reduceEqDiff, Nat.reduceAdd, Nat.reduceSub, Nat.reduceMul, Nat.reduceLT, Nat.reduceLeDiff, Nat.reducePow, Nat.reduceDiv, Nat.reduceMod, Int.reduceLT, Int.reduceLE, Int.reduceGT, Int.reduceGE, Int.reduceToNat, Int.reducePow, Int.reduceNeg, Int.reduceBEq, Int.reduceBNe, Int.reduceEq, Int.reduceAdd, Int.reduceSub, Int.reduceMul, cellv, sc, flatv, refs, refsF, refsC, hF.not0, hF.not1, hF.up0, hF.up1, ac32, h1]
theorem refget_loop {hq : List Blk} {k base : Nat} {v : Value} (hk : l.length ≠ 0 → hq[k]? = some (.cells (8 * l.length) true (is (allBits l)))) (hkH : H.contains k = false) {p w : Nat} (hw : w ≤ 32) (hpw : p + w ≤ 8 * l.length) (hs : l.length ≤ 2000) (hbase : hq.length ≤ base) : ∀ (n i : Nat), i + n = w → num (bitsIn l p i) < 2 ^ i →
    ∃ fr, Liter env lb31_0 [9, 10, 2, 8, 1] base [(9, .int .u32 (num (bitsIn l p i))), (10, .int .i64 i), (2, .int .i64 w), (8, slI k (allBits l)), (1, .int .i64 p)] ⟨hq, L, H, []⟩
      = some (.exit 0, fr, ⟨hq, L, H, []⟩) ∧ fr.get 9 = some (.int .u32 (num (bitsIn l p w)))
  | 0, i, e, _ => by
    obtain rfl : i = w := by omega
    rw [iter_by lb31_0.eq_1]
    simp (disch := (first | omega | (simp only [lnE] <;> omega) | (refine Fit.mono ‹Fit _ _ _› ?_ <;> (simp only [lnE] <;> omega)) | (refine Fit.draw ‹Fit _ _ _› ?_ ?_ <;> (simp only [lnE] <;> omega)) | (refine Fit.hid1 ‹Fit _ _ _› ?_ ?_ <;> (simp only [lnE] <;> omega)) | (refine Fit.draw1 ‹Fit _ _ _› ?_ ?_ ?_ <;> (simp only [lnE] <;> omega)) | (refine Fit.range0 ?_ ?_ <;> (simp only [lnE] <;> omega)) | fail)) only [syA, syB, argFr, D, E, T, C, undefv, eqF, aeq, sheqs, sheq, rdCells, cellsOf, fill, putAt, if_true, if_false, reduceIte, ↓reduceIte, reduceCtorEq, eq_self, Nat.reduceEqDiff, Nat.reduceAdd, Nat.reduceSub, Nat.reduceMul, Nat.reduceLT, Nat.reduceLeDiff, Nat.reducePow, Nat.reduceDiv, Nat.reduceMod, Int.reduceLT, Int.reduceLE, Int.reduceGT, Int.reduceGE, Int.reduceToNat, Int.reducePow, Int.reduceNeg, Int.reduceBEq, Int.reduceBNe, Int.reduceEq, Int.reduceAdd, Int.reduceSub, Int.reduceMul, cellv, sc, flatv, refs, refsF, refsC]
    exact ⟨_, rfl, rfl⟩
  | n + 1, i, e, hlt => by
    have hi : (i : Int) < w := by omega
    have hl0 : l.length ≠ 0 := by omega
    have hal : (allBits l).length = 8 * l.length := bitsIn_length ..
    have hsn := bitsIn_snoc l i p
    have hbit := bitAt_lt l (p + i)
    have hnum : num (bitsIn l p (i + 1)) = 2 * num (bitsIn l p i) + bitAt l (p + i) := by rw [hsn, num_snoc]
    have hlt' : num (bitsIn l p (i + 1)) < 2 ^ (i + 1) := by rw [hnum, Nat.pow_succ]; omega
    have hpi : 2 ^ i ≤ 2 ^ 31 := Nat.pow_le_pow_right (by decide) (by omega)
    obtain ⟨fr, ih, h6⟩ := refget_loop (v := v) hk hkH hw hpw hs hbase n (i + 1) (by omega) hlt'
    refine ⟨fr, ?_, h6⟩
    rw [hnum] at ih
    simp only [Int.natCast_add, Int.natCast_one, Int.natCast_mul, Int.cast_ofNat_Int] at ih
    have hkk := hk hl0
    have hr : (is (allBits l))[p + i]? = some (.int .i64 (bitAt l (p + i) : Nat)) := by
      have hx : p + i < (allBits l).length := by omega
      have := bitsIn_get l (8 * l.length) 0 (p + i) hx
      rw [Nat.zero_add] at this
      simp only [is, List.getElem?_map, List.getElem?_eq_getElem hx, Option.map_some]
      unfold allBits
      rw [this]
    have c0 : (0 : Int) ≤ (p : Int) + (i : Int) := by omega
    have c1 : (p : Int) + (i : Int) < ((8 * l.length : Nat) : Int) := by omega
    have ct : ((p : Int) + (i : Int)).toNat = p + i := by omega
    rw [slI_some (by omega), hal] at ih ⊢
    rw [iter_by lb31_0.eq_1]
    generalize num (bitsIn l p i) = x at *
    generalize bitAt l (p + i) = b at *
    simp (disch := (first | omega | (simp only [lnE] <;> omega) | (refine Fit.mono ‹Fit _ _ _› ?_ <;> (simp only [lnE] <;> omega)) | (refine Fit.draw ‹Fit _ _ _› ?_ ?_ <;> (simp only [lnE] <;> omega)) | (refine Fit.hid1 ‹Fit _ _ _› ?_ ?_ <;> (simp only [lnE] <;> omega)) | (refine Fit.draw1 ‹Fit _ _ _› ?_ ?_ ?_ <;> (simp only [lnE] <;> omega)) | (refine Fit.range0 ?_ ?_ <;> (simp only [lnE] <;> omega)) | fail)) only [syA, syB, argFr, D, E, T, C, undefv, eqF, aeq, sheqs, sheq, rdCells, cellsOf, fill, putAt, if_true, if_false, reduceIte, ↓reduceIte, reduceCtorEq, eq_self, Nat.reduceEqDiff, Nat.reduceAdd, Nat.reduceSub, Nat.reduceMul, Nat.reduceLT, Nat.reduceLeDiff, Nat.reducePow, Nat.reduceDiv, Nat.reduceMod, Int.reduceLT, Int.reduceLE, Int.reduceGT, Int.reduceGE, Int.reduceToNat, Int.reducePow, Int.reduceNeg, Int.reduceBEq, Int.reduceBNe, Int.reduceEq, Int.reduceAdd, Int.reduceSub, Int.reduceMul, cellv, sc, flatv, refs, refsF, refsC, hi, hkk, hkH, hr, c0, c1, ct]
    exact ih
theorem refget_bad {v : Value} {d : List Nat} (R : Rd ⟨hp, L, H, d⟩ v l) {p w : Int} (hp0 : -9223372036854775808 ≤ p) (hp1 : p ≤ 9223372036854775807) (hw0 : -9223372036854775808 ≤ w) (hw1 : w ≤ 9223372036854775807) (hs : l.length ≤ 2000) (hF : Fit hp.length L H) (hb : getOk l.length p w = false) :
    Lrun env (.func 31) [v, .int .i64 p, .int .i64 w] ⟨hp, L, H, d⟩ = some (.tuple #[.int .u32 0, .bool false], ⟨hp, L, H, d⟩) := by
  rw [Lrun_sym 31 _ _ fn31]
  have ho := refof_walk (R.locked (d' := [])) hs hF
  have hal : (allBits l).length = 8 * l.length := bitsIn_length ..
  unfold getOk at hb
  rw [decide_eq_false_iff_not] at hb
  by_cases h0 : l.length = 0
  · have e3 : slI hp.length (allBits l) = .slice none 0 0 := if_pos (by omega)
    have e4 : slIB (allBits l) = [] := if_pos (by omega)
    rw [e3, e4, List.append_nil] at ho
    by_cases h2 : w < 0
    · simp (disch := (first | omega | (simp only [lnE] <;> omega) | (refine Fit.mono ‹Fit _ _ _› ?_ <;> (simp only [lnE] <;> omega)) | (refine Fit.draw ‹Fit _ _ _› ?_ ?_ <;> (simp only [lnE] <;> omega)) | (refine Fit.hid1 ‹Fit _ _ _› ?_ ?_ <;> (simp only [lnE] <;> omega)) | (refine Fit.draw1 ‹Fit _ _ _› ?_ ?_ ?_ <;> (simp only [lnE] <;> omega)) | (refine Fit.range0 ?_ ?_ <;> (simp only [lnE] <;> omega)) | fail)) only [syA, syB, argFr, D, E, T, C, undefv, eqF, aeq, sheqs, sheq, rdCells, cellsOf, fill, putAt, if_true, if_false, reduceIte, ↓reduceIte, reduceCtorEq, eq_self, Nat.reduceEqDiff, Nat.reduceAdd, Nat.reduceSub, Nat.reduceMul, Nat.reduceLT, Nat.reduceLeDiff, Nat.reducePow, Nat.reduceDiv, Nat.reduceMod, Int.reduceLT, Int.reduceLE, Int.reduceGT, Int.reduceGE, Int.reduceToNat, Int.reducePow, Int.reduceNeg, Int.reduceBEq, Int.reduceBNe, Int.reduceEq, Int.reduceAdd, Int.reduceSub, Int.reduceMul, cellv, sc, flatv, refs, refsF, refsC, hF.not0, hF.not1, hF.up0, hF.up1, ac31, ho, h2]
    by_cases h3 : w > 32
    · simp (disch := (first | omega | (simp only [lnE] <;> omega) | (refine Fit.mono ‹Fit _ _ _› ?_ <;> (simp only [lnE] <;> omega)) | (refine Fit.draw ‹Fit _ _ _› ?_ ?_ <;> (simp only [lnE] <;> omega)) | (refine Fit.hid1 ‹Fit _ _ _› ?_ ?_ <;> (simp only [lnE] <;> omega)) | (refine Fit.draw1 ‹Fit _ _ _› ?_ ?_ ?_ <;> (simp only [lnE] <;> omega)) | (refine Fit.range0 ?_ ?_ <;> (simp only [lnE] <;> omega)) | fail)) only [syA, syB, argFr, D, E, T, C, undefv, eqF, aeq, sheqs, sheq, rdCells, cellsOf, fill, putAt, if_true, if_false, reduceIte, ↓reduceIte, reduceCtorEq, eq_self, Nat.reduceEqDiff, Nat.reduceAdd, Nat.reduceSub, Nat.reduceMul, Nat.reduceLT, Nat.reduceLeDiff, Nat.reducePow, Nat.reduceDiv, Nat.reduceMod, Int.reduceLT, Int.reduceLE, Int.reduceGT, Int.reduceGE, Int.reduceToNat, Int.reducePow, Int.reduceNeg, Int.reduceBEq, Int.reduceBNe, Int.reduceEq, Int.reduceAdd, Int.reduceSub, Int.reduceMul, cellv, sc, flatv, refs, refsF, refsC, hF.not0, hF.not1, hF.up0, hF.up1, ac31, ho, h2, h3]
    by_cases h1 : p < 0
    · simp (disch := (first | omega | (simp only [lnE] <;> omega) | (refine Fit.mono ‹Fit _ _ _› ?_ <;> (simp only [lnE] <;> omega)) | (refine Fit.draw ‹Fit _ _ _› ?_ ?_ <;> (simp only [lnE] <;> omega)) | (refine Fit.hid1 ‹Fit _ _ _› ?_ ?_ <;> (simp only [lnE] <;> omega)) | (refine Fit.draw1 ‹Fit _ _ _› ?_ ?_ ?_ <;> (simp only [lnE] <;> omega)) | (refine Fit.range0 ?_ ?_ <;> (simp only [lnE] <;> omega)) | fail)) only [syA, syB, argFr, D, E, T, C, undefv, eqF, aeq, sheqs, sheq, rdCells, cellsOf, fill, putAt, if_true, if_false, reduceIte, ↓reduceIte, reduceCtorEq, eq_self, Nat.reduceEqDiff, Nat.reduceAdd, Nat.reduceSub, Nat.reduceMul, Nat.reduceLT, Nat.reduceLeDiff, Nat.reducePow, Nat.reduceDiv, Nat.reduceMod, Int.reduceLT, Int.reduceLE, Int.reduceGT, Int.reduceGE, Int.reduceToNat, Int.reducePow, Int.reduceNeg, Int.reduceBEq, Int.reduceBNe, Int.reduceEq, Int.reduceAdd, Int.reduceSub, Int.reduceMul, cellv, sc, flatv, refs, refsF, refsC, hF.not0, hF.not1, hF.up0, hF.up1, ac31, ho, h1, h2, h3]
    by_cases h4 : w > 0
    · simp (disch := (first | omega | (simp only [lnE] <;> omega) | (refine Fit.mono ‹Fit _ _ _› ?_ <;> (simp only [lnE] <;> omega)) | (refine Fit.draw ‹Fit _ _ _› ?_ ?_ <;> (simp only [lnE] <;> omega)) | (refine Fit.hid1 ‹Fit _ _ _› ?_ ?_ <;> (simp only [lnE] <;> omega)) | (refine Fit.draw1 ‹Fit _ _ _› ?_ ?_ ?_ <;> (simp only [lnE] <;> omega)) | (refine Fit.range0 ?_ ?_ <;> (simp only [lnE] <;> omega)) | fail)) only [syA, syB, argFr, D, E, T, C, undefv, eqF, aeq, sheqs, sheq, rdCells, cellsOf, fill, putAt, if_true, if_false, reduceIte, ↓reduceIte, reduceCtorEq, eq_self, Nat.reduceEqDiff, Nat.reduceAdd, Nat.reduceSub, Nat.reduceMul, Nat.reduceLT, Nat.reduceLeDiff, Nat.reducePow, Nat.reduceDiv, Nat.reduceMod, Int.reduceLT, Int.reduceLE, Int.reduceGT, Int.reduceGE, Int.reduceToNat, Int.reducePow, Int.reduceNeg, Int.reduceBEq, Int.reduceBNe, Int.reduceEq, Int.reduceAdd, Int.reduceSub, Int.reduceMul, cellv, sc, flatv, refs, refsF, refsC, hF.not0, hF.not1, hF.up0, hF.up1, ac31, ho, h1, h2, h3, h4, Int.natCast_zero]
    have h5 : p > 0 - w := by omega
    simp (disch := (first | omega | (simp only [lnE] <;> omega) | (refine Fit.mono ‹Fit _ _ _› ?_ <;> (simp only [lnE] <;> omega)) | (refine Fit.draw ‹Fit _ _ _› ?_ ?_ <;> (simp only [lnE] <;> omega)) | (refine Fit.hid1 ‹Fit _ _ _› ?_ ?_ <;> (simp only [lnE] <;> omega)) | (refine Fit.draw1 ‹Fit _ _ _› ?_ ?_ ?_ <;> (simp only [lnE] <;> omega)) | (refine Fit.range0 ?_ ?_ <;> (simp only [lnE] <;> omega)) | fail)) only [syA, syB, argFr, D, E, T, C, undefv, eqF, aeq, sheqs, sheq, rdCells, cellsOf, fill, putAt, if_true, if_false, reduceIte, ↓reduceIte, reduceCtorEq, eq_self, Nat.reduceEqDiff, Nat.reduceAdd, Nat.reduceSub, Nat.reduceMul, Nat.reduceLT, Nat.reduceLeDiff, Nat.reducePow, Nat.reduceDiv, Nat.reduceMod, Int.reduceLT, Int.reduceLE, Int.reduceGT, Int.reduceGE, Int.reduceToNat, Int.reducePow, Int.reduceNeg, Int.reduceBEq, Int.reduceBNe, Int.reduceEq, Int.reduceAdd, Int.reduceSub, Int.reduceMul, cellv, sc, flatv, refs, refsF, refsC, hF.not0, hF.not1, hF.up0, hF.up1, ac31, ho, h1, h2, h3, h4, h5, Int.natCast_zero]
  · have hc8 : ((8 * l.length : Nat) : Int) = 8 * (l.length : Int) := by omega
    rw [slI_some (by omega), slIB_some (by omega), hal] at ho
    by_cases h2 : w < 0
    · simp (disch := (first | omega | (simp only [lnE] <;> omega) | (refine Fit.mono ‹Fit _ _ _› ?_ <;> (simp only [lnE] <;> omega)) | (refine Fit.draw ‹Fit _ _ _› ?_ ?_ <;> (simp only [lnE] <;> omega)) | (refine Fit.hid1 ‹Fit _ _ _› ?_ ?_ <;> (simp only [lnE] <;> omega)) | (refine Fit.draw1 ‹Fit _ _ _› ?_ ?_ ?_ <;> (simp only [lnE] <;> omega)) | (refine Fit.range0 ?_ ?_ <;> (simp only [lnE] <;> omega)) | fail)) only [syA, syB, argFr, D, E, T, C, undefv, eqF, aeq, sheqs, sheq, rdCells, cellsOf, fill, putAt, if_true, if_false, reduceIte, ↓reduceIte, reduceCtorEq, eq_self, Nat.reduceEqDiff, Nat.reduceAdd, Nat.reduceSub, Nat.reduceMul, Nat.reduceLT, Nat.reduceLeDiff, Nat.reducePow, Nat.reduceDiv, Nat.reduceMod, Int.reduceLT, Int.reduceLE, Int.reduceGT, Int.reduceGE, Int.reduceToNat, Int.reducePow, Int.reduceNeg, Int.reduceBEq, Int.reduceBNe, Int.reduceEq, Int.reduceAdd, Int.reduceSub, Int.reduceMul, cellv, sc, flatv, refs, refsF, refsC, hF.not0, hF.not1, hF.up0, hF.up1, ac31, ho, h2]
    by_cases h3 : w > 32
    · simp (disch := (first | omega | (simp only [lnE] <;> omega) | (refine Fit.mono ‹Fit _ _ _› ?_ <;> (simp only [lnE] <;> omega)) | (refine Fit.draw ‹Fit _ _ _› ?_ ?_ <;> (simp only [lnE] <;> omega)) | (refine Fit.hid1 ‹Fit _ _ _› ?_ ?_ <;> (simp only [lnE] <;> omega)) | (refine Fit.draw1 ‹Fit _ _ _› ?_ ?_ ?_ <;> (simp only [lnE] <;> omega)) | (refine Fit.range0 ?_ ?_ <;> (simp only [lnE] <;> omega)) | fail)) only [syA, syB, argFr, D, E, T, C, undefv, eqF, aeq, sheqs, sheq, rdCells, cellsOf, fill, putAt, if_true, if_false, reduceIte, ↓reduceIte, reduceCtorEq, eq_self, Nat.reduceEqDiff, Nat.reduceAdd, Nat.reduceSub, Nat.reduceMul, Nat.reduceLT, Nat.reduceLeDiff, Nat.reducePow, Nat.reduceDiv, Nat.reduceMod, Int.reduceLT, Int.reduceLE, Int.reduceGT, Int.reduceGE, Int.reduceToNat, Int.reducePow, Int.reduceNeg, Int.reduceBEq, Int.reduceBNe, Int.reduceEq, Int.reduceAdd, Int.reduceSub, Int.reduceMul, cellv, sc, flatv, refs, refsF, refsC, hF.not0, hF.not1, hF.up0, hF.up1, ac31, ho, h2, h3]
    by_cases h1 : p < 0
    · simp (disch := (first | omega | (simp only [lnE] <;> omega) | (refine Fit.mono ‹Fit _ _ _› ?_ <;> (simp only [lnE] <;> omega)) | (refine Fit.draw ‹Fit _ _ _› ?_ ?_ <;> (simp only [lnE] <;> omega)) | (refine Fit.hid1 ‹Fit _ _ _› ?_ ?_ <;> (simp only [lnE] <;> omega)) | (refine Fit.draw1 ‹Fit _ _ _› ?_ ?_ ?_ <;> (simp only [lnE] <;> omega)) | (refine Fit.range0 ?_ ?_ <;> (simp only [lnE] <;> omega)) | fail)) only [syA, syB, argFr, D, E, T, C, undefv, eqF, aeq, sheqs, sheq, rdCells, cellsOf, fill, putAt, if_true, if_false, reduceIte, ↓reduceIte, reduceCtorEq, eq_self, Nat.reduceEqDiff, Nat.reduceAdd, Nat.reduceSub, Nat.reduceMul, Nat.reduceLT, Nat.reduceLeDiff, Nat.reducePow, Nat.reduceDiv, Nat.reduceMod, Int.reduceLT, Int.reduceLE, Int.reduceGT, Int.reduceGE, Int.reduceToNat, Int.reducePow, Int.reduceNeg, Int.reduceBEq, Int.reduceBNe, Int.reduceEq, Int.reduceAdd, Int.reduceSub, Int.reduceMul, cellv, sc, flatv, refs, refsF, refsC, hF.not0, hF.not1, hF.up0, hF.up1, ac31, ho, h1, h2, h3]
    by_cases h4 : w > 8 * (l.length : Int)
    · simp (disch := (first | omega | (simp only [lnE] <;> omega) | (refine Fit.mono ‹Fit _ _ _› ?_ <;> (simp only [lnE] <;> omega)) | (refine Fit.draw ‹Fit _ _ _› ?_ ?_ <;> (simp only [lnE] <;> omega)) | (refine Fit.hid1 ‹Fit _ _ _› ?_ ?_ <;> (simp only [lnE] <;> omega)) | (refine Fit.draw1 ‹Fit _ _ _› ?_ ?_ ?_ <;> (simp only [lnE] <;> omega)) | (refine Fit.range0 ?_ ?_ <;> (simp only [lnE] <;> omega)) | fail)) only [syA, syB, argFr, D, E, T, C, undefv, eqF, aeq, sheqs, sheq, rdCells, cellsOf, fill, putAt, if_true, if_false, reduceIte, ↓reduceIte, reduceCtorEq, eq_self, Nat.reduceEqDiff, Nat.reduceAdd, Nat.reduceSub, Nat.reduceMul, Nat.reduceLT, Nat.reduceLeDiff, Nat.reducePow, Nat.reduceDiv, Nat.reduceMod, Int.reduceLT, Int.reduceLE, Int.reduceGT, Int.reduceGE, Int.reduceToNat, Int.reducePow, Int.reduceNeg, Int.reduceBEq, Int.reduceBNe, Int.reduceEq, Int.reduceAdd, Int.reduceSub, Int.reduceMul, cellv, sc, flatv, refs, refsF, refsC, hF.not0, hF.not1, hF.up0, hF.up1, ac31, ho, h1, h2, h3, h4, hc8]
    have h5 : p > 8 * (l.length : Int) - w := by omega
    simp (disch := (first | omega | (simp only [lnE] <;> omega) | (refine Fit.mono ‹Fit _ _ _› ?_ <;> (simp only [lnE] <;> omega)) | (refine Fit.draw ‹Fit _ _ _› ?_ ?_ <;> (simp only [lnE] <;> omega)) | (refine Fit.hid1 ‹Fit _ _ _› ?_ ?_ <;> (simp only [lnE] <;> omega)) | (refine Fit.draw1 ‹Fit _ _ _› ?_ ?_ ?_ <;> (simp only [lnE] <;> omega)) | (refine Fit.range0 ?_ ?_ <;> (simp only [lnE] <;> omega)) | fail)) only [syA, syB, argFr, D, E, T, C, undefv, eqF, aeq, sheqs, sheq, rdCells, cellsOf, fill, putAt, if_true, if_false, reduceIte, ↓reduceIte, reduceCtorEq, eq_self, Nat.reduceEqDiff, Nat.reduceAdd, Nat.reduceSub, Nat.reduceMul, Nat.reduceLT, Nat.reduceLeDiff, Nat.reducePow, Nat.reduceDiv, Nat.reduceMod, Int.reduceLT, Int.reduceLE, Int.reduceGT, Int.reduceGE, Int.reduceToNat, Int.reducePow, Int.reduceNeg, Int.reduceBEq, Int.reduceBNe, Int.reduceEq, Int.reduceAdd, Int.reduceSub, Int.reduceMul, cellv, sc, flatv, refs, refsF, refsC, hF.not0, hF.not1, hF.up0, hF.up1, ac31, ho, h1, h2, h3, h4, h5, hc8]
theorem refget_walk {v : Value} {d : List Nat} (R : Rd ⟨hp, L, H, d⟩ v l) {p w : Nat} (hw : w ≤ 32) (hpw : p + w ≤ 8 * l.length) (hs : l.length ≤ 2000) (hF : Fit hp.length L H) :
    Lrun env (.func 31) [v, .int .i64 p, .int .i64 w] ⟨hp, L, H, d⟩ = some (.tuple #[.int .u32 (num (bitsIn l p w)), .bool true], ⟨hp, L, H, d⟩) := by
  rw [Lrun_sym 31 _ _ fn31]
  have ho := refof_walk (R.locked (d' := [])) hs hF
  have hal : (allBits l).length = 8 * l.length := bitsIn_length ..
  obtain ⟨fr, h1, h2⟩ := refget_loop (L := L) (H := H) (v := v) (hq := hp ++ slIB (allBits l)) (k := hp.length) (base := (hp ++ slIB (allBits l)).length) (fun h => by rw [slIB_some (by omega), get_new0, hal]) hF.not0 hw hpw hs (Nat.le_refl _) w 0 (by omega) (by rw [show num (bitsIn l p 0) = 0 from rfl]; decide)
  rw [show num (bitsIn l p 0) = 0 from rfl] at h1
  simp only [Int.natCast_zero] at h1
  have n1 : ¬ (p : Int) < 0 := by omega
  have n2 : ¬ (w : Int) < 0 := by omega
  have n3 : ¬ (w : Int) > 32 := by omega
  by_cases h0 : l.length = 0
  · have e3 : slI hp.length (allBits l) = .slice none 0 0 := if_pos (by omega)
    have e4 : slIB (allBits l) = [] := if_pos (by omega)
    rw [e3, e4, List.append_nil] at ho
    rw [e3, e4, List.append_nil] at h1
    have n4 : ¬ (w : Int) > 0 := by omega
    have n5 : ¬ (p : Int) > 0 - w := by omega
    simp (disch := (first | omega | (simp only [lnE] <;> omega) | (refine Fit.mono ‹Fit _ _ _› ?_ <;> (simp only [lnE] <;> omega)) | (refine Fit.draw ‹Fit _ _ _› ?_ ?_ <;> (simp only [lnE] <;> omega)) | (refine Fit.hid1 ‹Fit _ _ _› ?_ ?_ <;> (simp only [lnE] <;> omega)) | (refine Fit.draw1 ‹Fit _ _ _› ?_ ?_ ?_ <;> (simp only [lnE] <;> omega)) | (refine Fit.range0 ?_ ?_ <;> (simp only [lnE] <;> omega)) | fail)) only [syA, syB, argFr, D, E, T, C, undefv, eqF, aeq, sheqs, sheq, rdCells, cellsOf, fill, putAt, if_true, if_false, reduceIte, ↓reduceIte, reduceCtorEq, eq_self, Nat.reduceEqDiff, Nat.reduceAdd, Nat.reduceSub, Nat.reduceMul, Nat.reduceLT, Nat.reduceLeDiff, Nat.reducePow, Nat.reduceDiv, Nat.reduceMod, Int.reduceLT, Int.reduceLE, Int.reduceGT, Int.reduceGE, Int.reduceToNat, Int.reducePow, Int.reduceNeg, Int.reduceBEq, Int.reduceBNe, Int.reduceEq, Int.reduceAdd, Int.reduceSub, Int.reduceMul, cellv, sc, flatv, refs, refsF, refsC, hF.not0, hF.not1, hF.up0, hF.up1, ac31, ho, n1, n2, n3, n4, n5, h1, h2, Int.natCast_zero]
  · have hc8 : ((8 * l.length : Nat) : Int) = 8 * (l.length : Int) := by omega
    rw [slI_some (by omega), slIB_some (by omega), hal] at ho
    rw [slI_some (by omega), slIB_some (by omega), hal] at h1
    have n4 : ¬ (w : Int) > 8 * (l.length : Int) := by omega
    have n5 : ¬ (p : Int) > 8 * (l.length : Int) - w := by omega
    simp only [List.length_append, List.length_cons, List.length_nil, Nat.zero_add] at h1
    simp (disch := (first | omega | (simp only [lnE] <;> omega) | (refine Fit.mono ‹Fit _ _ _› ?_ <;> (simp only [lnE] <;> omega)) | (refine Fit.draw ‹Fit _ _ _› ?_ ?_ <;> (simp only [lnE] <;> omega)) | (refine Fit.hid1 ‹Fit _ _ _› ?_ ?_ <;> (simp only [lnE] <;> omega)) | (refine Fit.draw1 ‹Fit _ _ _› ?_ ?_ ?_ <;> (simp only [lnE] <;> omega)) | (refine Fit.range0 ?_ ?_ <;> (simp only [lnE] <;> omega)) | fail)) only [syA, syB, argFr, D, E, T, C, undefv, eqF, aeq, sheqs, sheq, rdCells, cellsOf, fill, putAt, if_true, if_false, reduceIte, ↓reduceIte, reduceCtorEq, eq_self, Nat.reduceEqDiff, Nat.reduceAdd, Nat.reduceSub, Nat.reduceMul, Nat.reduceLT, Nat.reduceLeDiff, Nat.reducePow, Nat.reduceDiv, Nat.reduceMod, Int.reduceLT, Int.reduceLE, Int.reduceGT, Int.reduceGE, Int.reduceToNat, Int.reducePow, Int.reduceNeg, Int.reduceBEq, Int.reduceBNe, Int.reduceEq, Int.reduceAdd, Int.reduceSub, Int.reduceMul, cellv, sc, flatv, refs, refsF, refsC, hF.not0, hF.not1, hF.up0, hF.up1, ac31, ho, n1, n2, n3, n4, n5, hc8, h1, h2]
end Bt
end Go.Proofs.Ytceecoagooalpaa
end
