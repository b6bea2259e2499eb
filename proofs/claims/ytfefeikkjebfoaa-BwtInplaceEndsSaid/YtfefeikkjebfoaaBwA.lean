/-
  THE TRANSFORM IN PLACE: walks on the abstract machine. Conditions: none.
-/
import Derived.Test.YtfefeikkjebfoaaArA
import Derived.Test.YtfefeikkjebfoaaBwPlain
set_option linter.all false
namespace Go.Proofs.Ytfefeikkjebfoaa
namespace ArA
open Go Go.RowKit AM ArEnv

/-- A transform in progress. -/
def turnB (r : Nat) (s n : Int) : Blk := .cells 0 false [arP r, .int .i64 s, .int .i64 n]
theorem sure_part {l : List Nat} {lv pk s n i : Int} (h0 : 0 ≤ s) (h1 : s + n ≤ lv) (h2 : 0 ≤ i) (h3 : i < n) : (⟨l, lv, pk⟩ : Arn).part s n i 1 = true := by
  rw [Arn.part_iff]; show (_ ∧ _ ∧ _ ≤ lv ∧ _ ≤ lv - s) ∧ _; omega
theorem sure_byte {l : List Nat} {lv pk s n i : Int} {c : Nat} (h0 : 0 ≤ s) (h1 : s + n ≤ lv) (h2 : 0 ≤ i) (h3 : i < n) (hc : l[(s + i).toNat]? = some c) : (⟨l, lv, pk⟩ : Arn).byteV s n i = c := by
  rw [Arn.byteV, if_pos (sure_part h0 h1 h2 h3), Arn.slot, List.getD_eq_getElem?_getD]
  simp only [hc]; rfl
theorem sure_set {l : List Nat} {lv pk s n i : Int} {c : Nat} (h0 : 0 ≤ s) (h1 : s + n ≤ lv) (h2 : 0 ≤ i) (h3 : i < n) (h4 : lv ≤ l.length) : (⟨l, lv, pk⟩ : Arn).setByte s n i c = ⟨l.set (s + i).toNat c, lv, pk⟩ := by
  rw [Arn.setByte, if_pos (sure_part h0 h1 h2 h3), Arn.setAt, putN_one (by show _ < l.length; omega)]
section
variable {hp : List Blk} {r q L t : Nat} {H d : List Nat} {A : Arn} {s n : Int}
theorem at_walk (hF : Fit hp.length L H) (k : ArOk hp.length r q H A) (ht : hp[t]? = some (turnB r s n)) (hr : r ≠ t) (hq : q ≠ t) (hid : H.contains t = false) (i : Int) :
    Lrun env (.func 76) [.pointer (some ⟨t, 0, some 0⟩), .int .i64 i] ⟨put hp r q A, L, H, d⟩ = some (.int .u8 (A.byteV s n i), ⟨put hp r q A, L, H, d⟩) := by
  have h1 := k.r_lt
  have h2 := k.q_lt
  have htl : t < hp.length := (List.getElem?_eq_some_iff.1 ht).1
  have hne := k.ne
  rw [Lrun_sym 76 _ _ fn76]
  simp (disch := (first | omega | (simp only [lnE, put_length] <;> omega) | (refine Fit.mono ‹Fit _ _ _› ?_ <;> (simp only [lnE, put_length] <;> omega)) | (refine Fit.draw ‹Fit _ _ _› ?_ ?_ <;> (simp only [lnE, put_length] <;> omega)) | (refine Fit.hid1 ‹Fit _ _ _› ?_ ?_ <;> (simp only [lnE, put_length] <;> omega)) | (refine Fit.draw1 ‹Fit _ _ _› ?_ ?_ ?_ <;> (simp only [lnE, put_length] <;> omega)) | (refine Fit.range0 ?_ ?_ <;> (simp only [lnE, put_length] <;> omega)) | (refine ArOk.mono ‹ArOk _ _ _ _ _› ?_ <;> (simp only [lnE, put_length] <;> omega)) | (refine ArOk.hid ‹ArOk _ _ _ _ _› ?_ ?_ <;> (simp only [lnE, put_length] <;> omega)) | (refine ArOk.hid0 ‹ArOk _ _ _ _ _› ?_ ?_ <;> (simp only [lnE, put_length] <;> omega)) | ((intro xr hxr; simp [AM.refs, refsF, refsC] at hxr) <;> (simp only [lnE, put_length] <;> omega)) | fail)) only [syA, syB, argFr, D, E, T, C, undefv, eqF, aeq, sheqs, sheq, rdCells, cellsOf, fill, putAt, if_true, if_false, reduceIte, ↓reduceIte, reduceCtorEq, eq_self, Nat.reduceEqDiff, Nat.reduceAdd, Nat.reduceSub, Nat.reduceMul, Nat.reduceLT, Nat.reduceLeDiff, Nat.reducePow, Nat.reduceDiv, Nat.reduceMod, Int.reduceLT, Int.reduceLE, Int.reduceGT, Int.reduceGE, Int.reduceToNat, Int.reducePow, Int.reduceNeg, Int.reduceBEq, Int.reduceBNe, Int.reduceEq, Int.reduceAdd, Int.reduceSub, Int.reduceMul, cellv, sc, flatv, refs, refsF, refsC, syR, Int.le_refl, hF.not0, hF.not1, hF.up0, hF.up1, k.hr, k.hq, ac76, ht, hid, turnB, byte_walk]
theorem count_loop (hF : Fit hp.length L H) (k : ArOk hp.length r q H A) (ht : hp[t]? = some (turnB r s n)) (hr : r ≠ t) (hq : q ≠ t) (hid : H.contains t = false) {i : Int} {c ix : Nat} {col : List Nat}
    (hcol : ∀ (j : Nat) x, col[j]? = some x → A.byteV s n (i + 1 + (j : Int)) = x) (hi : 0 ≤ i) (hi2 : i ≤ 1048576) (hm : col.length ≤ 1048576) (hix : ix ≤ 1048576) :
    ∀ (rest : List Nat) (j : Nat), col.drop j = rest → j ≤ col.length → ∀ a : Nat, a + rest.length ≤ 1048577 → ∃ fr,
    Liter env lb71_1 [8, 23, 22, 0, 1, 7, 2] hp.length [(8, .int .i64 a), (23, .int .i64 j), (22, .int .i64 col.length), (0, .pointer (some ⟨t, 0, some 0⟩)), (1, .int .i64 i), (7, .int .u8 c), (2, .int .i64 ix)] ⟨put hp r q A, L, H, []⟩ =
      some (.exit 0, fr, ⟨put hp r q A, L, H, []⟩) ∧ fr.get 8 = some (.int .i64 (a + cnt c ix j rest : Nat)) ∧ fr.get 0 = some (.pointer (some ⟨t, 0, some 0⟩)) ∧ fr.get 1 = some (.int .i64 i) ∧ fr.get 7 = some (.int .u8 c) ∧ fr.get 2 = some (.int .i64 ix)
  | [], j, hd, hj, a, ha => by
    have e1 : j = col.length := by have := congrArg List.length hd; simp at this; omega
    subst e1
    rw [iter_by lb71_1.eq_1]
    simp (disch := (first | omega | (simp only [lnE, put_length] <;> omega) | (refine Fit.mono ‹Fit _ _ _› ?_ <;> (simp only [lnE, put_length] <;> omega)) | (refine Fit.draw ‹Fit _ _ _› ?_ ?_ <;> (simp only [lnE, put_length] <;> omega)) | (refine Fit.hid1 ‹Fit _ _ _› ?_ ?_ <;> (simp only [lnE, put_length] <;> omega)) | (refine Fit.draw1 ‹Fit _ _ _› ?_ ?_ ?_ <;> (simp only [lnE, put_length] <;> omega)) | (refine Fit.range0 ?_ ?_ <;> (simp only [lnE, put_length] <;> omega)) | (refine ArOk.mono ‹ArOk _ _ _ _ _› ?_ <;> (simp only [lnE, put_length] <;> omega)) | (refine ArOk.hid ‹ArOk _ _ _ _ _› ?_ ?_ <;> (simp only [lnE, put_length] <;> omega)) | (refine ArOk.hid0 ‹ArOk _ _ _ _ _› ?_ ?_ <;> (simp only [lnE, put_length] <;> omega)) | ((intro xr hxr; simp [AM.refs, refsF, refsC] at hxr) <;> (simp only [lnE, put_length] <;> omega)) | fail)) only [syA, syB, argFr, D, E, T, C, undefv, eqF, aeq, sheqs, sheq, rdCells, cellsOf, fill, putAt, if_true, if_false, reduceIte, ↓reduceIte, reduceCtorEq, eq_self, Nat.reduceEqDiff, Nat.reduceAdd, Nat.reduceSub, Nat.reduceMul, Nat.reduceLT, Nat.reduceLeDiff, Nat.reducePow, Nat.reduceDiv, Nat.reduceMod, Int.reduceLT, Int.reduceLE, Int.reduceGT, Int.reduceGE, Int.reduceToNat, Int.reducePow, Int.reduceNeg, Int.reduceBEq, Int.reduceBNe, Int.reduceEq, Int.reduceAdd, Int.reduceSub, Int.reduceMul, cellv, sc, flatv, refs, refsF, refsC, syR, Int.le_refl, hF.not0, hF.not1, hF.up0, hF.up1, k.hr, k.hq]
    exact ⟨_, rfl, rfl, rfl, rfl, rfl, rfl⟩
  | x :: rest, j, hd, hj, a, ha => by
    have hjl : j < col.length := by have := congrArg List.length hd; simp at this; omega
    have hx : col[j]? = some x := by have := List.drop_eq_getElem_cons hjl; rw [hd] at this; rw [List.getElem?_eq_getElem hjl, (List.cons.inj this).1]
    have hlr : col.drop (j + 1) = rest := by have := List.drop_eq_getElem_cons hjl; rw [hd] at this; exact (List.cons.inj this).2.symm
    have h1 : (j : Int) < col.length := by omega
    have hb := hcol j x hx
    simp only [List.length_cons] at ha
    rw [iter_by lb71_1.eq_1]
    by_cases hc : x < c ∨ (x = c ∧ j < ix)
    · obtain ⟨fr, e1, e2⟩ := count_loop hF k ht hr hq hid hcol hi hi2 hm hix rest (j + 1) hlr (by omega) (a + 1) (by omega)
      have hcc : (if x < c ∨ (x = c ∧ j < ix) then 1 else 0) = 1 := if_pos hc
      rw [cnt, hcc, ← Nat.add_assoc]
      by_cases c1 : (x : Int) < c
      · simp (disch := (first | omega | (simp only [lnE, put_length] <;> omega) | (refine Fit.mono ‹Fit _ _ _› ?_ <;> (simp only [lnE, put_length] <;> omega)) | (refine Fit.draw ‹Fit _ _ _› ?_ ?_ <;> (simp only [lnE, put_length] <;> omega)) | (refine Fit.hid1 ‹Fit _ _ _› ?_ ?_ <;> (simp only [lnE, put_length] <;> omega)) | (refine Fit.draw1 ‹Fit _ _ _› ?_ ?_ ?_ <;> (simp only [lnE, put_length] <;> omega)) | (refine Fit.range0 ?_ ?_ <;> (simp only [lnE, put_length] <;> omega)) | (refine ArOk.mono ‹ArOk _ _ _ _ _› ?_ <;> (simp only [lnE, put_length] <;> omega)) | (refine ArOk.hid ‹ArOk _ _ _ _ _› ?_ ?_ <;> (simp only [lnE, put_length] <;> omega)) | (refine ArOk.hid0 ‹ArOk _ _ _ _ _› ?_ ?_ <;> (simp only [lnE, put_length] <;> omega)) | ((intro xr hxr; simp [AM.refs, refsF, refsC] at hxr) <;> (simp only [lnE, put_length] <;> omega)) | fail)) only [syA, syB, argFr, D, E, T, C, undefv, eqF, aeq, sheqs, sheq, rdCells, cellsOf, fill, putAt, if_true, if_false, reduceIte, ↓reduceIte, reduceCtorEq, eq_self, Nat.reduceEqDiff, Nat.reduceAdd, Nat.reduceSub, Nat.reduceMul, Nat.reduceLT, Nat.reduceLeDiff, Nat.reducePow, Nat.reduceDiv, Nat.reduceMod, Int.reduceLT, Int.reduceLE, Int.reduceGT, Int.reduceGE, Int.reduceToNat, Int.reducePow, Int.reduceNeg, Int.reduceBEq, Int.reduceBNe, Int.reduceEq, Int.reduceAdd, Int.reduceSub, Int.reduceMul, cellv, sc, flatv, refs, refsF, refsC, syR, Int.le_refl, hF.not0, hF.not1, hF.up0, hF.up1, k.hr, k.hq, h1, at_walk hF k ht hr hq hid, hb, c1]
        exact ⟨fr, e1, e2⟩
      · have c2 : (x : Int) = c := by omega
        have c3 : (j : Int) < ix := by omega
        have c4 : x = c := by omega
        simp (disch := (first | omega | (simp only [lnE, put_length] <;> omega) | (refine Fit.mono ‹Fit _ _ _› ?_ <;> (simp only [lnE, put_length] <;> omega)) | (refine Fit.draw ‹Fit _ _ _› ?_ ?_ <;> (simp only [lnE, put_length] <;> omega)) | (refine Fit.hid1 ‹Fit _ _ _› ?_ ?_ <;> (simp only [lnE, put_length] <;> omega)) | (refine Fit.draw1 ‹Fit _ _ _› ?_ ?_ ?_ <;> (simp only [lnE, put_length] <;> omega)) | (refine Fit.range0 ?_ ?_ <;> (simp only [lnE, put_length] <;> omega)) | (refine ArOk.mono ‹ArOk _ _ _ _ _› ?_ <;> (simp only [lnE, put_length] <;> omega)) | (refine ArOk.hid ‹ArOk _ _ _ _ _› ?_ ?_ <;> (simp only [lnE, put_length] <;> omega)) | (refine ArOk.hid0 ‹ArOk _ _ _ _ _› ?_ ?_ <;> (simp only [lnE, put_length] <;> omega)) | ((intro xr hxr; simp [AM.refs, refsF, refsC] at hxr) <;> (simp only [lnE, put_length] <;> omega)) | fail)) only [syA, syB, argFr, D, E, T, C, undefv, eqF, aeq, sheqs, sheq, rdCells, cellsOf, fill, putAt, if_true, if_false, reduceIte, ↓reduceIte, reduceCtorEq, eq_self, Nat.reduceEqDiff, Nat.reduceAdd, Nat.reduceSub, Nat.reduceMul, Nat.reduceLT, Nat.reduceLeDiff, Nat.reducePow, Nat.reduceDiv, Nat.reduceMod, Int.reduceLT, Int.reduceLE, Int.reduceGT, Int.reduceGE, Int.reduceToNat, Int.reducePow, Int.reduceNeg, Int.reduceBEq, Int.reduceBNe, Int.reduceEq, Int.reduceAdd, Int.reduceSub, Int.reduceMul, cellv, sc, flatv, refs, refsF, refsC, syR, Int.le_refl, hF.not0, hF.not1, hF.up0, hF.up1, k.hr, k.hq, h1, at_walk hF k ht hr hq hid, hb, c1, c2, c3, c4]
        exact ⟨fr, e1, e2⟩
    · obtain ⟨fr, e1, e2⟩ := count_loop hF k ht hr hq hid hcol hi hi2 hm hix rest (j + 1) hlr (by omega) a (by omega)
      have hcc : (if x < c ∨ (x = c ∧ j < ix) then 1 else 0) = 0 := if_neg hc
      rw [cnt, hcc, Nat.zero_add]
      have c1 : ¬ (x : Int) < c := by omega
      by_cases c2 : x = c
      · have c3 : ¬ (j : Int) < ix := by omega
        simp (disch := (first | omega | (simp only [lnE, put_length] <;> omega) | (refine Fit.mono ‹Fit _ _ _› ?_ <;> (simp only [lnE, put_length] <;> omega)) | (refine Fit.draw ‹Fit _ _ _› ?_ ?_ <;> (simp only [lnE, put_length] <;> omega)) | (refine Fit.hid1 ‹Fit _ _ _› ?_ ?_ <;> (simp only [lnE, put_length] <;> omega)) | (refine Fit.draw1 ‹Fit _ _ _› ?_ ?_ ?_ <;> (simp only [lnE, put_length] <;> omega)) | (refine Fit.range0 ?_ ?_ <;> (simp only [lnE, put_length] <;> omega)) | (refine ArOk.mono ‹ArOk _ _ _ _ _› ?_ <;> (simp only [lnE, put_length] <;> omega)) | (refine ArOk.hid ‹ArOk _ _ _ _ _› ?_ ?_ <;> (simp only [lnE, put_length] <;> omega)) | (refine ArOk.hid0 ‹ArOk _ _ _ _ _› ?_ ?_ <;> (simp only [lnE, put_length] <;> omega)) | ((intro xr hxr; simp [AM.refs, refsF, refsC] at hxr) <;> (simp only [lnE, put_length] <;> omega)) | fail)) only [syA, syB, argFr, D, E, T, C, undefv, eqF, aeq, sheqs, sheq, rdCells, cellsOf, fill, putAt, if_true, if_false, reduceIte, ↓reduceIte, reduceCtorEq, eq_self, Nat.reduceEqDiff, Nat.reduceAdd, Nat.reduceSub, Nat.reduceMul, Nat.reduceLT, Nat.reduceLeDiff, Nat.reducePow, Nat.reduceDiv, Nat.reduceMod, Int.reduceLT, Int.reduceLE, Int.reduceGT, Int.reduceGE, Int.reduceToNat, Int.reducePow, Int.reduceNeg, Int.reduceBEq, Int.reduceBNe, Int.reduceEq, Int.reduceAdd, Int.reduceSub, Int.reduceMul, cellv, sc, flatv, refs, refsF, refsC, syR, Int.le_refl, hF.not0, hF.not1, hF.up0, hF.up1, k.hr, k.hq, h1, at_walk hF k ht hr hq hid, hb, c1, c2, c3]
        exact ⟨fr, e1, e2⟩
      · have c3 : ¬ (x : Int) = c := by omega
        simp (disch := (first | omega | (simp only [lnE, put_length] <;> omega) | (refine Fit.mono ‹Fit _ _ _› ?_ <;> (simp only [lnE, put_length] <;> omega)) | (refine Fit.draw ‹Fit _ _ _› ?_ ?_ <;> (simp only [lnE, put_length] <;> omega)) | (refine Fit.hid1 ‹Fit _ _ _› ?_ ?_ <;> (simp only [lnE, put_length] <;> omega)) | (refine Fit.draw1 ‹Fit _ _ _› ?_ ?_ ?_ <;> (simp only [lnE, put_length] <;> omega)) | (refine Fit.range0 ?_ ?_ <;> (simp only [lnE, put_length] <;> omega)) | (refine ArOk.mono ‹ArOk _ _ _ _ _› ?_ <;> (simp only [lnE, put_length] <;> omega)) | (refine ArOk.hid ‹ArOk _ _ _ _ _› ?_ ?_ <;> (simp only [lnE, put_length] <;> omega)) | (refine ArOk.hid0 ‹ArOk _ _ _ _ _› ?_ ?_ <;> (simp only [lnE, put_length] <;> omega)) | ((intro xr hxr; simp [AM.refs, refsF, refsC] at hxr) <;> (simp only [lnE, put_length] <;> omega)) | fail)) only [syA, syB, argFr, D, E, T, C, undefv, eqF, aeq, sheqs, sheq, rdCells, cellsOf, fill, putAt, if_true, if_false, reduceIte, ↓reduceIte, reduceCtorEq, eq_self, Nat.reduceEqDiff, Nat.reduceAdd, Nat.reduceSub, Nat.reduceMul, Nat.reduceLT, Nat.reduceLeDiff, Nat.reducePow, Nat.reduceDiv, Nat.reduceMod, Int.reduceLT, Int.reduceLE, Int.reduceGT, Int.reduceGE, Int.reduceToNat, Int.reducePow, Int.reduceNeg, Int.reduceBEq, Int.reduceBNe, Int.reduceEq, Int.reduceAdd, Int.reduceSub, Int.reduceMul, cellv, sc, flatv, refs, refsF, refsC, syR, Int.le_refl, hF.not0, hF.not1, hF.up0, hF.up1, k.hr, k.hq, h1, at_walk hF k ht hr hq hid, hb, c1, c2, c3]
        exact ⟨fr, e1, e2⟩
theorem move_loop (hF : Fit hp.length L H) {P Q col : List Nat} {c ix m : Nat} {lv pk i : Int} (ht : hp[t]? = some (turnB r s n)) (hr : r ≠ t) (hq : q ≠ t) (hid : H.contains t = false) (hw : L ≤ r ∧ L ≤ q)
    (hs : 0 ≤ s) (hi : 0 ≤ i) (hP : (P.length : Int) = s + i) (hn : n = i + 1 + col.length) (hlv : s + n ≤ lv) (hix : ix ≤ col.length) (hsz : n ≤ 1048576) :
    ∀ (e j : Nat), j + e = ix → ArOk hp.length r q H ⟨P ++ (mid col c j ++ Q), lv, pk⟩ → ∃ fr,
    Liter env lb71_0 [49, 48, 8, 7, 2, 0, 1] hp.length [(49, .int .i64 j), (48, .int .i64 ix), (8, .int .i64 m), (7, .int .u8 c), (2, .int .i64 ix), (0, .pointer (some ⟨t, 0, some 0⟩)), (1, .int .i64 i)] ⟨put hp r q ⟨P ++ (mid col c j ++ Q), lv, pk⟩, L, H, []⟩ =
      some (.exit 2, fr, ⟨put hp r q ⟨P ++ (mid col c ix ++ Q), lv, pk⟩, L, H, []⟩) ∧ ArOk hp.length r q H ⟨P ++ (mid col c ix ++ Q), lv, pk⟩ ∧ fr.get 8 = some (.int .i64 m) ∧ fr.get 0 = some (.pointer (some ⟨t, 0, some 0⟩)) ∧ fr.get 1 = some (.int .i64 i) ∧ fr.get 7 = some (.int .u8 c) ∧ fr.get 2 = some (.int .i64 ix)
  | 0, j, hj, k => by
    have e1 : j = ix := by omega
    subst e1
    rw [iter_by lb71_0.eq_1]
    simp (disch := (first | omega | (simp only [lnE, put_length] <;> omega) | (refine Fit.mono ‹Fit _ _ _› ?_ <;> (simp only [lnE, put_length] <;> omega)) | (refine Fit.draw ‹Fit _ _ _› ?_ ?_ <;> (simp only [lnE, put_length] <;> omega)) | (refine Fit.hid1 ‹Fit _ _ _› ?_ ?_ <;> (simp only [lnE, put_length] <;> omega)) | (refine Fit.draw1 ‹Fit _ _ _› ?_ ?_ ?_ <;> (simp only [lnE, put_length] <;> omega)) | (refine Fit.range0 ?_ ?_ <;> (simp only [lnE, put_length] <;> omega)) | (refine ArOk.mono ‹ArOk _ _ _ _ _› ?_ <;> (simp only [lnE, put_length] <;> omega)) | (refine ArOk.hid ‹ArOk _ _ _ _ _› ?_ ?_ <;> (simp only [lnE, put_length] <;> omega)) | (refine ArOk.hid0 ‹ArOk _ _ _ _ _› ?_ ?_ <;> (simp only [lnE, put_length] <;> omega)) | ((intro xr hxr; simp [AM.refs, refsF, refsC] at hxr) <;> (simp only [lnE, put_length] <;> omega)) | fail)) only [syA, syB, argFr, D, E, T, C, undefv, eqF, aeq, sheqs, sheq, rdCells, cellsOf, fill, putAt, if_true, if_false, reduceIte, ↓reduceIte, reduceCtorEq, eq_self, Nat.reduceEqDiff, Nat.reduceAdd, Nat.reduceSub, Nat.reduceMul, Nat.reduceLT, Nat.reduceLeDiff, Nat.reducePow, Nat.reduceDiv, Nat.reduceMod, Int.reduceLT, Int.reduceLE, Int.reduceGT, Int.reduceGE, Int.reduceToNat, Int.reducePow, Int.reduceNeg, Int.reduceBEq, Int.reduceBNe, Int.reduceEq, Int.reduceAdd, Int.reduceSub, Int.reduceMul, cellv, sc, flatv, refs, refsF, refsC, syR, Int.le_refl, hF.not0, hF.not1, hF.up0, hF.up1, k.hr, k.hq]
    exact ⟨_, rfl, k, rfl, rfl, rfl, rfl, rfl⟩
  | e + 1, j, hj, k => by
    have hjl : j < col.length := by omega
    have h1 : (j : Int) < ix := by omega
    have hml : (mid col c j).length = col.length + 1 := mid_length (by omega)
    have hx : col[j]? = some col[j] := List.getElem?_eq_getElem hjl
    have hb : (⟨P ++ (mid col c j ++ Q), lv, pk⟩ : Arn).byteV s n (i + j + 1) = col[j] := by
      apply sure_byte hs (by omega) (by omega) (by omega)
      rw [amid_get (j := j + 1) (by omega) (by omega), mid_get hjl, hx]
    have hc : col[j] < 256 := by
      have := k.by_.get (i := P.length + (j + 1)) (by simp; omega)
      have e2 := amid_get (P := P) (M := mid col c j) (Q := Q) (i := P.length + (j + 1)) (j := j + 1) (by omega) rfl
      rw [mid_get hjl, hx, List.getElem?_eq_getElem (by simp; omega)] at e2
      rw [← Option.some.inj e2]
      exact this
    have hset : (⟨P ++ (mid col c j ++ Q), lv, pk⟩ : Arn).setByte s n (i + j) col[j] = ⟨P ++ (mid col c (j + 1) ++ Q), lv, pk⟩ := by
      rw [sure_set hs (by omega) (by omega) (by omega) k.live1, amid_set (j := j) (by omega) (by omega), mid_set hx]
    have k2 := k.setByte (s := s) (len := n) (i := i + j) hc
    rw [hset] at k2
    obtain ⟨fr, e1, e2⟩ := move_loop hF ht hr hq hid hw hs hi hP hn hlv hix hsz e (j + 1) (by omega) k2
    rw [iter_by lb71_0.eq_1]
    have hF2 : Fit hp.length hp.length H := ⟨Nat.le_refl _, hF.2⟩
    simp (disch := (first | omega | (simp only [lnE, put_length] <;> omega) | (refine Fit.mono ‹Fit _ _ _› ?_ <;> (simp only [lnE, put_length] <;> omega)) | (refine Fit.draw ‹Fit _ _ _› ?_ ?_ <;> (simp only [lnE, put_length] <;> omega)) | (refine Fit.hid1 ‹Fit _ _ _› ?_ ?_ <;> (simp only [lnE, put_length] <;> omega)) | (refine Fit.draw1 ‹Fit _ _ _› ?_ ?_ ?_ <;> (simp only [lnE, put_length] <;> omega)) | (refine Fit.range0 ?_ ?_ <;> (simp only [lnE, put_length] <;> omega)) | (refine ArOk.mono ‹ArOk _ _ _ _ _› ?_ <;> (simp only [lnE, put_length] <;> omega)) | (refine ArOk.hid ‹ArOk _ _ _ _ _› ?_ ?_ <;> (simp only [lnE, put_length] <;> omega)) | (refine ArOk.hid0 ‹ArOk _ _ _ _ _› ?_ ?_ <;> (simp only [lnE, put_length] <;> omega)) | ((intro xr hxr; simp [AM.refs, refsF, refsC] at hxr) <;> (simp only [lnE, put_length] <;> omega)) | fail)) only [syA, syB, argFr, D, E, T, C, undefv, eqF, aeq, sheqs, sheq, rdCells, cellsOf, fill, putAt, if_true, if_false, reduceIte, ↓reduceIte, reduceCtorEq, eq_self, Nat.reduceEqDiff, Nat.reduceAdd, Nat.reduceSub, Nat.reduceMul, Nat.reduceLT, Nat.reduceLeDiff, Nat.reducePow, Nat.reduceDiv, Nat.reduceMod, Int.reduceLT, Int.reduceLE, Int.reduceGT, Int.reduceGE, Int.reduceToNat, Int.reducePow, Int.reduceNeg, Int.reduceBEq, Int.reduceBNe, Int.reduceEq, Int.reduceAdd, Int.reduceSub, Int.reduceMul, cellv, sc, flatv, refs, refsF, refsC, syR, Int.le_refl, hF.not0, hF.not1, hF.up0, hF.up1, k.hr, k.hq, ht, hid, turnB, h1, at_walk hF2 k ht hr hq hid, setByte_walk hF k hw, hb, hset, hc]
    exact ⟨fr, e1, e2⟩
theorem come_walk (hF : Fit hp.length L H) {P Q col : List Nat} {c ix : Nat} {lv pk i : Int} (ht : hp[t]? = some (turnB r s n)) (hr : r ≠ t) (hq : q ≠ t) (hid : H.contains t = false) (hw : L ≤ r ∧ L ≤ q)
    (hs : 0 ≤ s) (hi : 0 ≤ i) (hP : (P.length : Int) = s + i) (hn : n = i + 1 + col.length) (hlv : s + n ≤ lv) (hix : ix ≤ col.length) (hsz : n ≤ 1048576) (k : ArOk hp.length r q H ⟨P ++ (c :: col ++ Q), lv, pk⟩) :
    ArOk hp.length r q H ⟨P ++ (pushC col ix c ++ Q), lv, pk⟩ ∧
    Lrun env (.func 71) [.pointer (some ⟨t, 0, some 0⟩), .int .i64 i, .int .i64 ix] ⟨put hp r q ⟨P ++ (c :: col ++ Q), lv, pk⟩, L, H, d⟩ = some (.int .i64 (rowN col ix c), ⟨put hp r q ⟨P ++ (pushC col ix c ++ Q), lv, pk⟩, L, H, d⟩) := by
  have h1 := k.r_lt
  have h2 := k.q_lt
  have htl : t < hp.length := (List.getElem?_eq_some_iff.1 ht).1
  have hb0 : (⟨P ++ (c :: col ++ Q), lv, pk⟩ : Arn).byteV s n i = c := by
    apply sure_byte hs (by omega) (by omega) (by omega)
    rw [amid_get (j := 0) (by simp) (by omega)]; rfl
  have hc : c < 256 := by
    have e1 : (P ++ (c :: col ++ Q))[P.length]? = some c := by rw [amid_get (j := 0) (by simp) (by omega)]; rfl
    have hl : P.length < (P ++ (c :: col ++ Q)).length := by simp
    rw [List.getElem?_eq_getElem hl] at e1
    rw [← Option.some.inj e1]
    exact k.by_.get hl
  have hcol : ∀ (j : Nat) x, col[j]? = some x → (⟨P ++ (c :: col ++ Q), lv, pk⟩ : Arn).byteV s n (i + 1 + (j : Int)) = x := fun j x hx => by
    have hjl : j < col.length := (List.getElem?_eq_some_iff.1 hx).1
    apply sure_byte hs (by omega) (by omega) (by omega)
    rw [amid_get (j := j + 1) (by simp; omega) (by omega), List.getElem?_cons_succ, hx]
  obtain ⟨fr, e1, e2, e3, e4, e5, e6⟩ := count_loop hF k ht hr hq hid (i := i) (c := c) (ix := ix) (col := col) hcol hi (by omega) (by omega) (by omega) col 0 rfl (by omega) 1 (by omega)
  obtain ⟨fr', g1, k', g2, g3, g4, g5, g6⟩ := move_loop hF (P := P) (Q := Q) (col := col) (c := c) (ix := ix) (m := 1 + cnt c ix 0 col) (lv := lv) (pk := pk) (i := i) ht hr hq hid hw hs hi hP hn hlv hix hsz ix 0 (by omega) k
  have hset : (⟨P ++ (mid col c ix ++ Q), lv, pk⟩ : Arn).setByte s n (i + ix) c = ⟨P ++ (pushC col ix c ++ Q), lv, pk⟩ := by
    rw [sure_set hs (by omega) (by omega) (by omega) k'.live1, amid_set (j := ix) (by rw [mid_length hix]; omega) (by omega), mid_end hix]
  have k2 := k'.setByte (s := s) (len := n) (i := i + ix) hc
  rw [hset] at k2
  refine ⟨k2, ?_⟩
  have hlim : n - i - 1 = col.length := by omega
  rw [mid_zero] at g1
  simp only [Int.natCast_zero, Int.natCast_one] at e1 g1
  have hF2 : Fit hp.length hp.length H := ⟨Nat.le_refl _, hF.2⟩
  simp only [List.cons_append] at k hb0 e1 g1
  rw [Lrun_sym 71 _ _ fn71]
  simp (disch := (first | omega | (simp only [lnE, put_length] <;> omega) | (refine Fit.mono ‹Fit _ _ _› ?_ <;> (simp only [lnE, put_length] <;> omega)) | (refine Fit.draw ‹Fit _ _ _› ?_ ?_ <;> (simp only [lnE, put_length] <;> omega)) | (refine Fit.hid1 ‹Fit _ _ _› ?_ ?_ <;> (simp only [lnE, put_length] <;> omega)) | (refine Fit.draw1 ‹Fit _ _ _› ?_ ?_ ?_ <;> (simp only [lnE, put_length] <;> omega)) | (refine Fit.range0 ?_ ?_ <;> (simp only [lnE, put_length] <;> omega)) | (refine ArOk.mono ‹ArOk _ _ _ _ _› ?_ <;> (simp only [lnE, put_length] <;> omega)) | (refine ArOk.hid ‹ArOk _ _ _ _ _› ?_ ?_ <;> (simp only [lnE, put_length] <;> omega)) | (refine ArOk.hid0 ‹ArOk _ _ _ _ _› ?_ ?_ <;> (simp only [lnE, put_length] <;> omega)) | ((intro xr hxr; simp [AM.refs, refsF, refsC] at hxr) <;> (simp only [lnE, put_length] <;> omega)) | fail)) only [syA, syB, argFr, D, E, T, C, undefv, eqF, aeq, sheqs, sheq, rdCells, cellsOf, fill, putAt, if_true, if_false, reduceIte, ↓reduceIte, reduceCtorEq, eq_self, Nat.reduceEqDiff, Nat.reduceAdd, Nat.reduceSub, Nat.reduceMul, Nat.reduceLT, Nat.reduceLeDiff, Nat.reducePow, Nat.reduceDiv, Nat.reduceMod, Int.reduceLT, Int.reduceLE, Int.reduceGT, Int.reduceGE, Int.reduceToNat, Int.reducePow, Int.reduceNeg, Int.reduceBEq, Int.reduceBNe, Int.reduceEq, Int.reduceAdd, Int.reduceSub, Int.reduceMul, cellv, sc, flatv, refs, refsF, refsC, syR, Int.le_refl, hF.not0, hF.not1, hF.up0, hF.up1, k.hr, k.hq, ac71, ht, hid, turnB, at_walk hF k ht hr hq hid, hb0, hlim, e1, e2, e3, e4, e5, e6, g1, g2, g3, g4, g5, g6, setByte_walk hF k' hw, hset, hc]
  rfl
theorem bwValid_walk (hF : Fit hp.length L H) (k : ArOk hp.length r q H A) (s n : Int) :
    Lrun env (.func 43) [arP r, .agg #[.int .i64 s, .int .i64 n]] ⟨put hp r q A, L, H, d⟩ = some (.bool (A.has s n && decide (0 < n) && decide (n ≤ 65536)), ⟨put hp r q A, L, H, d⟩) := by
  have h1 := k.r_lt
  have h2 := k.q_lt
  have h3 := k.live0
  have h4 := k.live1
  have h5 := k.size
  rw [Lrun_sym 43 _ _ fn43]
  simp (disch := (first | omega | (simp only [lnE, put_length] <;> omega) | (refine Fit.mono ‹Fit _ _ _› ?_ <;> (simp only [lnE, put_length] <;> omega)) | (refine Fit.draw ‹Fit _ _ _› ?_ ?_ <;> (simp only [lnE, put_length] <;> omega)) | (refine Fit.hid1 ‹Fit _ _ _› ?_ ?_ <;> (simp only [lnE, put_length] <;> omega)) | (refine Fit.draw1 ‹Fit _ _ _› ?_ ?_ ?_ <;> (simp only [lnE, put_length] <;> omega)) | (refine Fit.range0 ?_ ?_ <;> (simp only [lnE, put_length] <;> omega)) | (refine ArOk.mono ‹ArOk _ _ _ _ _› ?_ <;> (simp only [lnE, put_length] <;> omega)) | (refine ArOk.hid ‹ArOk _ _ _ _ _› ?_ ?_ <;> (simp only [lnE, put_length] <;> omega)) | (refine ArOk.hid0 ‹ArOk _ _ _ _ _› ?_ ?_ <;> (simp only [lnE, put_length] <;> omega)) | ((intro xr hxr; simp [AM.refs, refsF, refsC] at hxr) <;> (simp only [lnE, put_length] <;> omega)) | fail)) only [syA, syB, argFr, D, E, T, C, undefv, eqF, aeq, sheqs, sheq, rdCells, cellsOf, fill, putAt, if_true, if_false, reduceIte, ↓reduceIte, reduceCtorEq, eq_self, Nat.reduceEqDiff, Nat.reduceAdd, Nat.reduceSub, Nat.reduceMul, Nat.reduceLT, Nat.reduceLeDiff, Nat.reducePow, Nat.reduceDiv, Nat.reduceMod, Int.reduceLT, Int.reduceLE, Int.reduceGT, Int.reduceGE, Int.reduceToNat, Int.reducePow, Int.reduceNeg, Int.reduceBEq, Int.reduceBNe, Int.reduceEq, Int.reduceAdd, Int.reduceSub, Int.reduceMul, cellv, sc, flatv, refs, refsF, refsC, syR, Int.le_refl, hF.not0, hF.not1, hF.up0, hF.up1, k.hr, k.hq, ac43, has_walk]
  cases hh : A.has s n with
  | false => simp (disch := (first | omega | (simp only [lnE, put_length] <;> omega) | (refine Fit.mono ‹Fit _ _ _› ?_ <;> (simp only [lnE, put_length] <;> omega)) | (refine Fit.draw ‹Fit _ _ _› ?_ ?_ <;> (simp only [lnE, put_length] <;> omega)) | (refine Fit.hid1 ‹Fit _ _ _› ?_ ?_ <;> (simp only [lnE, put_length] <;> omega)) | (refine Fit.draw1 ‹Fit _ _ _› ?_ ?_ ?_ <;> (simp only [lnE, put_length] <;> omega)) | (refine Fit.range0 ?_ ?_ <;> (simp only [lnE, put_length] <;> omega)) | (refine ArOk.mono ‹ArOk _ _ _ _ _› ?_ <;> (simp only [lnE, put_length] <;> omega)) | (refine ArOk.hid ‹ArOk _ _ _ _ _› ?_ ?_ <;> (simp only [lnE, put_length] <;> omega)) | (refine ArOk.hid0 ‹ArOk _ _ _ _ _› ?_ ?_ <;> (simp only [lnE, put_length] <;> omega)) | ((intro xr hxr; simp [AM.refs, refsF, refsC] at hxr) <;> (simp only [lnE, put_length] <;> omega)) | fail)) only [syA, syB, argFr, D, E, T, C, undefv, eqF, aeq, sheqs, sheq, rdCells, cellsOf, fill, putAt, if_true, if_false, reduceIte, ↓reduceIte, reduceCtorEq, eq_self, Nat.reduceEqDiff, Nat.reduceAdd, Nat.reduceSub, Nat.reduceMul, Nat.reduceLT, Nat.reduceLeDiff, Nat.reducePow, Nat.reduceDiv, Nat.reduceMod, Int.reduceLT, Int.reduceLE, Int.reduceGT, Int.reduceGE, Int.reduceToNat, Int.reducePow, Int.reduceNeg, Int.reduceBEq, Int.reduceBNe, Int.reduceEq, Int.reduceAdd, Int.reduceSub, Int.reduceMul, cellv, sc, flatv, refs, refsF, refsC, syR, Int.le_refl, hF.not0, hF.not1, hF.up0, hF.up1, k.hr, k.hq]
  | true =>
    simp (disch := (first | omega | (simp only [lnE, put_length] <;> omega) | (refine Fit.mono ‹Fit _ _ _› ?_ <;> (simp only [lnE, put_length] <;> omega)) | (refine Fit.draw ‹Fit _ _ _› ?_ ?_ <;> (simp only [lnE, put_length] <;> omega)) | (refine Fit.hid1 ‹Fit _ _ _› ?_ ?_ <;> (simp only [lnE, put_length] <;> omega)) | (refine Fit.draw1 ‹Fit _ _ _› ?_ ?_ ?_ <;> (simp only [lnE, put_length] <;> omega)) | (refine Fit.range0 ?_ ?_ <;> (simp only [lnE, put_length] <;> omega)) | (refine ArOk.mono ‹ArOk _ _ _ _ _› ?_ <;> (simp only [lnE, put_length] <;> omega)) | (refine ArOk.hid ‹ArOk _ _ _ _ _› ?_ ?_ <;> (simp only [lnE, put_length] <;> omega)) | (refine ArOk.hid0 ‹ArOk _ _ _ _ _› ?_ ?_ <;> (simp only [lnE, put_length] <;> omega)) | ((intro xr hxr; simp [AM.refs, refsF, refsC] at hxr) <;> (simp only [lnE, put_length] <;> omega)) | fail)) only [syA, syB, argFr, D, E, T, C, undefv, eqF, aeq, sheqs, sheq, rdCells, cellsOf, fill, putAt, if_true, if_false, reduceIte, ↓reduceIte, reduceCtorEq, eq_self, Nat.reduceEqDiff, Nat.reduceAdd, Nat.reduceSub, Nat.reduceMul, Nat.reduceLT, Nat.reduceLeDiff, Nat.reducePow, Nat.reduceDiv, Nat.reduceMod, Int.reduceLT, Int.reduceLE, Int.reduceGT, Int.reduceGE, Int.reduceToNat, Int.reducePow, Int.reduceNeg, Int.reduceBEq, Int.reduceBNe, Int.reduceEq, Int.reduceAdd, Int.reduceSub, Int.reduceMul, cellv, sc, flatv, refs, refsF, refsC, syR, Int.le_refl, hF.not0, hF.not1, hF.up0, hF.up1, k.hr, k.hq]
    iterate 2 (all_goals (try (split <;> rename_i hq <;> (try simp only [Decidable.not_not] at hq) <;> (first | simp (disch := (first | omega | (simp only [lnE, put_length] <;> omega) | (refine Fit.mono ‹Fit _ _ _› ?_ <;> (simp only [lnE, put_length] <;> omega)) | (refine Fit.draw ‹Fit _ _ _› ?_ ?_ <;> (simp only [lnE, put_length] <;> omega)) | (refine Fit.hid1 ‹Fit _ _ _› ?_ ?_ <;> (simp only [lnE, put_length] <;> omega)) | (refine Fit.draw1 ‹Fit _ _ _› ?_ ?_ ?_ <;> (simp only [lnE, put_length] <;> omega)) | (refine Fit.range0 ?_ ?_ <;> (simp only [lnE, put_length] <;> omega)) | (refine ArOk.mono ‹ArOk _ _ _ _ _› ?_ <;> (simp only [lnE, put_length] <;> omega)) | (refine ArOk.hid ‹ArOk _ _ _ _ _› ?_ ?_ <;> (simp only [lnE, put_length] <;> omega)) | (refine ArOk.hid0 ‹ArOk _ _ _ _ _› ?_ ?_ <;> (simp only [lnE, put_length] <;> omega)) | ((intro xr hxr; simp [AM.refs, refsF, refsC] at hxr) <;> (simp only [lnE, put_length] <;> omega)) | fail)) only [syA, syB, argFr, D, E, T, C, undefv, eqF, aeq, sheqs, sheq, rdCells, cellsOf, fill, putAt, if_true, if_false, reduceIte, ↓reduceIte, reduceCtorEq, eq_self, Nat.reduceEqDiff, Nat.reduceAdd, Nat.reduceSub, Nat.reduceMul, Nat.reduceLT, Nat.reduceLeDiff, Nat.reducePow, Nat.reduceDiv, Nat.reduceMod, Int.reduceLT, Int.reduceLE, Int.reduceGT, Int.reduceGE, Int.reduceToNat, Int.reducePow, Int.reduceNeg, Int.reduceBEq, Int.reduceBNe, Int.reduceEq, Int.reduceAdd, Int.reduceSub, Int.reduceMul, cellv, sc, flatv, refs, refsF, refsC, syR, Int.le_refl, hF.not0, hF.not1, hF.up0, hF.up1, k.hr, k.hq, eq_false hq] | simp (disch := (first | omega | (simp only [lnE, put_length] <;> omega) | (refine Fit.mono ‹Fit _ _ _› ?_ <;> (simp only [lnE, put_length] <;> omega)) | (refine Fit.draw ‹Fit _ _ _› ?_ ?_ <;> (simp only [lnE, put_length] <;> omega)) | (refine Fit.hid1 ‹Fit _ _ _› ?_ ?_ <;> (simp only [lnE, put_length] <;> omega)) | (refine Fit.draw1 ‹Fit _ _ _› ?_ ?_ ?_ <;> (simp only [lnE, put_length] <;> omega)) | (refine Fit.range0 ?_ ?_ <;> (simp only [lnE, put_length] <;> omega)) | (refine ArOk.mono ‹ArOk _ _ _ _ _› ?_ <;> (simp only [lnE, put_length] <;> omega)) | (refine ArOk.hid ‹ArOk _ _ _ _ _› ?_ ?_ <;> (simp only [lnE, put_length] <;> omega)) | (refine ArOk.hid0 ‹ArOk _ _ _ _ _› ?_ ?_ <;> (simp only [lnE, put_length] <;> omega)) | ((intro xr hxr; simp [AM.refs, refsF, refsC] at hxr) <;> (simp only [lnE, put_length] <;> omega)) | fail)) only [syA, syB, argFr, D, E, T, C, undefv, eqF, aeq, sheqs, sheq, rdCells, cellsOf, fill, putAt, if_true, if_false, reduceIte, ↓reduceIte, reduceCtorEq, eq_self, Nat.reduceEqDiff, Nat.reduceAdd, Nat.reduceSub, Nat.reduceMul, Nat.reduceLT, Nat.reduceLeDiff, Nat.reducePow, Nat.reduceDiv, Nat.reduceMod, Int.reduceLT, Int.reduceLE, Int.reduceGT, Int.reduceGE, Int.reduceToNat, Int.reducePow, Int.reduceNeg, Int.reduceBEq, Int.reduceBNe, Int.reduceEq, Int.reduceAdd, Int.reduceSub, Int.reduceMul, cellv, sc, flatv, refs, refsF, refsC, syR, Int.le_refl, hF.not0, hF.not1, hF.up0, hF.up1, k.hr, k.hq, eq_true hq]))))
    all_goals (first | (simp [*]; done) | (simp; omega))
theorem turn_loop (hF : Fit hp.length L H) {P Q x : List Nat} {b : Nat} {lv pk : Int} (hx : hp[b]? = some (.cells 0 true [.int .i64 s, .int .i64 n])) (hbr : r ≠ b) (hbq : q ≠ b) (hidb : H.contains b = false)
    (ht : hp[t]? = some (turnB r s n)) (hr : r ≠ t) (hq : q ≠ t) (hid : H.contains t = false) (hw : L ≤ r ∧ L ≤ q)
    (hs : 0 ≤ s) (hP : (P.length : Int) = s) (hn : n = x.length) (hlv : s + n ≤ lv) (hsz : n ≤ 1048576) :
    ∀ j : Nat, j ≤ x.length → ArOk hp.length r q H ⟨P ++ (x.take j ++ ((turnR (x.drop j)).1 ++ Q)), lv, pk⟩ → ∃ fr,
    Liter env lb44_0 [5, 4, 8, 3, 7] hp.length [(5, .int .i64 (turnR (x.drop j)).2.2), (4, .int .i64 (turnR (x.drop j)).2.1), (8, .int .i64 ((j : Int) - 1)), (3, .pointer (some ⟨b, 0, some 0⟩)), (7, .pointer (some ⟨t, 0, some 0⟩))] ⟨put hp r q ⟨P ++ (x.take j ++ ((turnR (x.drop j)).1 ++ Q)), lv, pk⟩, L, H, []⟩ =
      some (.exit 0, fr, ⟨put hp r q ⟨P ++ ((turnR x).1 ++ Q), lv, pk⟩, L, H, []⟩) ∧ ArOk hp.length r q H ⟨P ++ ((turnR x).1 ++ Q), lv, pk⟩ ∧ fr.get 4 = some (.int .i64 (turnR x).2.1) ∧ fr.get 5 = some (.int .i64 (turnR x).2.2)
  | 0, hj, k => by
    rw [iter_by lb44_0.eq_1]
    simp (disch := (first | omega | (simp only [lnE, put_length] <;> omega) | (refine Fit.mono ‹Fit _ _ _› ?_ <;> (simp only [lnE, put_length] <;> omega)) | (refine Fit.draw ‹Fit _ _ _› ?_ ?_ <;> (simp only [lnE, put_length] <;> omega)) | (refine Fit.hid1 ‹Fit _ _ _› ?_ ?_ <;> (simp only [lnE, put_length] <;> omega)) | (refine Fit.draw1 ‹Fit _ _ _› ?_ ?_ ?_ <;> (simp only [lnE, put_length] <;> omega)) | (refine Fit.range0 ?_ ?_ <;> (simp only [lnE, put_length] <;> omega)) | (refine ArOk.mono ‹ArOk _ _ _ _ _› ?_ <;> (simp only [lnE, put_length] <;> omega)) | (refine ArOk.hid ‹ArOk _ _ _ _ _› ?_ ?_ <;> (simp only [lnE, put_length] <;> omega)) | (refine ArOk.hid0 ‹ArOk _ _ _ _ _› ?_ ?_ <;> (simp only [lnE, put_length] <;> omega)) | ((intro xr hxr; simp [AM.refs, refsF, refsC] at hxr) <;> (simp only [lnE, put_length] <;> omega)) | fail)) only [syA, syB, argFr, D, E, T, C, undefv, eqF, aeq, sheqs, sheq, rdCells, cellsOf, fill, putAt, if_true, if_false, reduceIte, ↓reduceIte, reduceCtorEq, eq_self, Nat.reduceEqDiff, Nat.reduceAdd, Nat.reduceSub, Nat.reduceMul, Nat.reduceLT, Nat.reduceLeDiff, Nat.reducePow, Nat.reduceDiv, Nat.reduceMod, Int.reduceLT, Int.reduceLE, Int.reduceGT, Int.reduceGE, Int.reduceToNat, Int.reducePow, Int.reduceNeg, Int.reduceBEq, Int.reduceBNe, Int.reduceEq, Int.reduceAdd, Int.reduceSub, Int.reduceMul, cellv, sc, flatv, refs, refsF, refsC, syR, Int.le_refl, hF.not0, hF.not1, hF.up0, hF.up1, k.hr, k.hq, Int.natCast_zero]
    exact ⟨_, rfl, k, rfl, rfl⟩
  | j + 1, hj, k => by
    have hj' : j < x.length := hj
    have hd : x.drop j = x[j] :: x.drop (j + 1) := List.drop_eq_getElem_cons hj'
    have htk : x.take (j + 1) = x.take j ++ [x[j]] := by rw [List.take_succ, List.getElem?_eq_getElem hj']; rfl
    have hlen := turnR_len (x.drop (j + 1))
    have hst := turnR_small (t := x.drop (j + 1)) (by simp; omega)
    have hl : (x.drop (j + 1)).length = x.length - (j + 1) := by simp
    have hl2 : (x.take j).length = j := by simp; omega
    have key : P ++ (x.take (j + 1) ++ ((turnR (x.drop (j + 1))).1 ++ Q)) = (P ++ x.take j) ++ (x[j] :: (turnR (x.drop (j + 1))).1 ++ Q) := by rw [htk]; simp only [List.append_assoc, List.cons_append, List.nil_append]
    have kc := come_walk (d := []) hF (P := P ++ x.take j) (Q := Q) (col := (turnR (x.drop (j + 1))).1) (c := x[j]) (ix := (turnR (x.drop (j + 1))).2.1) (lv := lv) (pk := pk) (i := j) ht hr hq hid hw hs (by omega) (by simp; omega) (by omega) hlv (by omega) hsz (by rw [← key]; exact k)
    obtain ⟨k2, hcome⟩ := kc
    have key2 : (P ++ x.take j) ++ (pushC (turnR (x.drop (j + 1))).1 (turnR (x.drop (j + 1))).2.1 x[j] ++ Q) = P ++ (x.take j ++ ((turnR (x.drop j)).1 ++ Q)) := by rw [hd]; simp [turnR]
    have key3 : rowN (turnR (x.drop (j + 1))).1 (turnR (x.drop (j + 1))).2.1 x[j] = (turnR (x.drop j)).2.1 := by rw [hd]; rfl
    have key4 : ((turnR (x.drop (j + 1))).2.2 : Int) + (n - 1 - j + (turnR (x.drop (j + 1))).2.1) = (turnR (x.drop j)).2.2 := by rw [hd]; simp only [turnR]; omega
    rw [← key, key2, key3] at hcome
    rw [key2] at k2
    obtain ⟨fr, e1, e2⟩ := turn_loop hF hx hbr hbq hidb ht hr hq hid hw hs hP hn hlv hsz j (by omega) k2
    have h1 : (((j + 1 : Nat) : Int) - 1) = j := by omega
    have h2 : (j : Int) ≥ 0 := by omega
    rw [iter_by lb44_0.eq_1]
    rw [h1]
    generalize turnR (x.drop (j + 1)) = u at *
    generalize P ++ (x.take (j + 1) ++ (u.1 ++ Q)) = l at *
    simp (disch := (first | omega | (simp only [lnE, put_length] <;> omega) | (refine Fit.mono ‹Fit _ _ _› ?_ <;> (simp only [lnE, put_length] <;> omega)) | (refine Fit.draw ‹Fit _ _ _› ?_ ?_ <;> (simp only [lnE, put_length] <;> omega)) | (refine Fit.hid1 ‹Fit _ _ _› ?_ ?_ <;> (simp only [lnE, put_length] <;> omega)) | (refine Fit.draw1 ‹Fit _ _ _› ?_ ?_ ?_ <;> (simp only [lnE, put_length] <;> omega)) | (refine Fit.range0 ?_ ?_ <;> (simp only [lnE, put_length] <;> omega)) | (refine ArOk.mono ‹ArOk _ _ _ _ _› ?_ <;> (simp only [lnE, put_length] <;> omega)) | (refine ArOk.hid ‹ArOk _ _ _ _ _› ?_ ?_ <;> (simp only [lnE, put_length] <;> omega)) | (refine ArOk.hid0 ‹ArOk _ _ _ _ _› ?_ ?_ <;> (simp only [lnE, put_length] <;> omega)) | ((intro xr hxr; simp [AM.refs, refsF, refsC] at hxr) <;> (simp only [lnE, put_length] <;> omega)) | fail)) only [syA, syB, argFr, D, E, T, C, undefv, eqF, aeq, sheqs, sheq, rdCells, cellsOf, fill, putAt, if_true, if_false, reduceIte, ↓reduceIte, reduceCtorEq, eq_self, Nat.reduceEqDiff, Nat.reduceAdd, Nat.reduceSub, Nat.reduceMul, Nat.reduceLT, Nat.reduceLeDiff, Nat.reducePow, Nat.reduceDiv, Nat.reduceMod, Int.reduceLT, Int.reduceLE, Int.reduceGT, Int.reduceGE, Int.reduceToNat, Int.reducePow, Int.reduceNeg, Int.reduceBEq, Int.reduceBNe, Int.reduceEq, Int.reduceAdd, Int.reduceSub, Int.reduceMul, cellv, sc, flatv, refs, refsF, refsC, syR, Int.le_refl, hF.not0, hF.not1, hF.up0, hF.up1, k.hr, k.hq, h2, hx, hidb, hcome, key4]
    exact ⟨fr, e1, e2⟩
theorem turn_bad (hF : Fit hp.length L H) (k : ArOk hp.length r q H A) (h : (A.has s n && decide (0 < n) && decide (n ≤ 65536)) = false) :
    Lrun env (.func 44) [arP r, .agg #[.int .i64 s, .int .i64 n]] ⟨put hp r q A, L, H, d⟩ = some (.tuple #[.int .i64 0, .int .i64 0, .int .i64 2], ⟨put hp r q A, L, H, d⟩) := by
  have h1 := k.r_lt
  have h2 := k.q_lt
  rw [Lrun_sym 44 _ _ fn44]
  simp (disch := (first | omega | (simp only [lnE, put_length] <;> omega) | (refine Fit.mono ‹Fit _ _ _› ?_ <;> (simp only [lnE, put_length] <;> omega)) | (refine Fit.draw ‹Fit _ _ _› ?_ ?_ <;> (simp only [lnE, put_length] <;> omega)) | (refine Fit.hid1 ‹Fit _ _ _› ?_ ?_ <;> (simp only [lnE, put_length] <;> omega)) | (refine Fit.draw1 ‹Fit _ _ _› ?_ ?_ ?_ <;> (simp only [lnE, put_length] <;> omega)) | (refine Fit.range0 ?_ ?_ <;> (simp only [lnE, put_length] <;> omega)) | (refine ArOk.mono ‹ArOk _ _ _ _ _› ?_ <;> (simp only [lnE, put_length] <;> omega)) | (refine ArOk.hid ‹ArOk _ _ _ _ _› ?_ ?_ <;> (simp only [lnE, put_length] <;> omega)) | (refine ArOk.hid0 ‹ArOk _ _ _ _ _› ?_ ?_ <;> (simp only [lnE, put_length] <;> omega)) | ((intro xr hxr; simp [AM.refs, refsF, refsC] at hxr) <;> (simp only [lnE, put_length] <;> omega)) | fail)) only [syA, syB, argFr, D, E, T, C, undefv, eqF, aeq, sheqs, sheq, rdCells, cellsOf, fill, putAt, if_true, if_false, reduceIte, ↓reduceIte, reduceCtorEq, eq_self, Nat.reduceEqDiff, Nat.reduceAdd, Nat.reduceSub, Nat.reduceMul, Nat.reduceLT, Nat.reduceLeDiff, Nat.reducePow, Nat.reduceDiv, Nat.reduceMod, Int.reduceLT, Int.reduceLE, Int.reduceGT, Int.reduceGE, Int.reduceToNat, Int.reducePow, Int.reduceNeg, Int.reduceBEq, Int.reduceBNe, Int.reduceEq, Int.reduceAdd, Int.reduceSub, Int.reduceMul, cellv, sc, flatv, refs, refsF, refsC, syR, Int.le_refl, hF.not0, hF.not1, hF.up0, hF.up1, k.hr, k.hq, ac44, bwValid_walk, h]
theorem turn_walk (hF : Fit hp.length L H) {P Q x : List Nat} {lv pk : Int} (hw : L ≤ r ∧ L ≤ q) (hs : 0 ≤ s) (hP : (P.length : Int) = s) (hn : n = x.length) (hlv : s + n ≤ lv) (hsz : n ≤ 65536) (h0 : 0 < n) (k : ArOk hp.length r q H ⟨P ++ (x ++ Q), lv, pk⟩) :
    ArOk hp.length r q H ⟨P ++ ((turnR x).1 ++ Q), lv, pk⟩ ∧
    Lrun env (.func 44) [arP r, .agg #[.int .i64 s, .int .i64 n]] ⟨put hp r q ⟨P ++ (x ++ Q), lv, pk⟩, L, H, d⟩ = some (.tuple #[.int .i64 (turnR x).2.1, .int .i64 (turnR x).2.2, .int .i64 0], ⟨put hp r q ⟨P ++ ((turnR x).1 ++ Q), lv, pk⟩, L, H, d⟩) := by
  have h1 := k.r_lt
  have h2 := k.q_lt
  have hv : ((⟨P ++ (x ++ Q), lv, pk⟩ : Arn).has s n && decide (0 < n) && decide (n ≤ 65536)) = true := by
    have : (⟨P ++ (x ++ Q), lv, pk⟩ : Arn).has s n = true := by rw [Arn.has_iff]; show _ ∧ _ ∧ _ ≤ lv ∧ _ ≤ lv - s; omega
    rw [this]; simp; omega
  have hlx : x.take x.length = x := List.take_length
  have hdx : x.drop x.length = [] := List.drop_length
  have hloop := turn_loop (hp := hp ++ [.cells 0 true [.int .i64 s, .int .i64 n], turnB r s n]) (hF.mono (by simp)) (P := P) (Q := Q) (x := x) (b := hp.length) (t := hp.length + 1) (s := s) (n := n) (lv := lv) (pk := pk) (by rw [get_new0]) (by omega) (by omega) hF.not0 (by rw [get_new]; rfl) (by omega) (by omega) (hF.not1 1) hw hs hP hn hlv (by omega) x.length (Nat.le_refl _) (by rw [hlx, hdx]; exact k.mono (by simp))
  obtain ⟨fr, e1, k2, e2, e3⟩ := hloop
  refine ⟨⟨h1, h2, k2.ne, k2.by_, k2.live0, k2.live1, k2.peak0, k2.peak1, k2.size, k2.hr, k2.hq⟩, ?_⟩
  rw [hlx, hdx] at e1
  simp only [turnR, List.nil_append, Int.natCast_zero, turnB, List.length_append, List.length_cons, List.length_nil, Nat.zero_add, Nat.reduceAdd] at e1
  rw [← hn] at e1
  rw [Lrun_sym 44 _ _ fn44]
  simp (disch := (first | omega | (simp only [lnE, put_length] <;> omega) | (refine Fit.mono ‹Fit _ _ _› ?_ <;> (simp only [lnE, put_length] <;> omega)) | (refine Fit.draw ‹Fit _ _ _› ?_ ?_ <;> (simp only [lnE, put_length] <;> omega)) | (refine Fit.hid1 ‹Fit _ _ _› ?_ ?_ <;> (simp only [lnE, put_length] <;> omega)) | (refine Fit.draw1 ‹Fit _ _ _› ?_ ?_ ?_ <;> (simp only [lnE, put_length] <;> omega)) | (refine Fit.range0 ?_ ?_ <;> (simp only [lnE, put_length] <;> omega)) | (refine ArOk.mono ‹ArOk _ _ _ _ _› ?_ <;> (simp only [lnE, put_length] <;> omega)) | (refine ArOk.hid ‹ArOk _ _ _ _ _› ?_ ?_ <;> (simp only [lnE, put_length] <;> omega)) | (refine ArOk.hid0 ‹ArOk _ _ _ _ _› ?_ ?_ <;> (simp only [lnE, put_length] <;> omega)) | ((intro xr hxr; simp [AM.refs, refsF, refsC] at hxr) <;> (simp only [lnE, put_length] <;> omega)) | fail)) only [syA, syB, argFr, D, E, T, C, undefv, eqF, aeq, sheqs, sheq, rdCells, cellsOf, fill, putAt, if_true, if_false, reduceIte, ↓reduceIte, reduceCtorEq, eq_self, Nat.reduceEqDiff, Nat.reduceAdd, Nat.reduceSub, Nat.reduceMul, Nat.reduceLT, Nat.reduceLeDiff, Nat.reducePow, Nat.reduceDiv, Nat.reduceMod, Int.reduceLT, Int.reduceLE, Int.reduceGT, Int.reduceGE, Int.reduceToNat, Int.reducePow, Int.reduceNeg, Int.reduceBEq, Int.reduceBNe, Int.reduceEq, Int.reduceAdd, Int.reduceSub, Int.reduceMul, cellv, sc, flatv, refs, refsF, refsC, syR, Int.le_refl, hF.not0, hF.not1, hF.up0, hF.up1, k.hr, k.hq, ac44, bwValid_walk, hv, e1, e2, e3]
end
end ArA
end Go.Proofs.Ytfefeikkjebfoaa
