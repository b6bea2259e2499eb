/-
  RANKS: the reference's Rank on the abstract machine. Conditions: none.
-/
import Derived.Test.YtfefeikkjebfoaaRmA
set_option linter.all false
namespace Go.Proofs.Ytfefeikkjebfoaa
namespace ArA
open Go Go.RowKit AM ArEnv
section
variable {hp : List Blk} {L : Nat} {H d : List Nat} {r q : Nat} {A : Arn}
theorem rfr_cell (k : ArOk hp.length r q H A) {i : Nat} (h : i < A.bs.length) : (u8s A.bs)[i]? = some (.int .u8 ((A.bs.getD i 0 : Nat) : Int)) := by
  rw [u8s_get, List.getElem?_eq_getElem h, List.getD_eq_getElem?_getD, List.getElem?_eq_getElem h]; rfl
theorem rfr_lt (k : ArOk hp.length r q H A) (i : Nat) : A.bs.getD i 0 < 256 := by
  rw [List.getD_eq_getElem?_getD]
  cases hg : A.bs[i]? with
  | none => simp
  | some y => exact k.by_ y (List.mem_of_getElem? hg)
theorem rfr_word (hF : Fit hp.length L H) (k : ArOk hp.length r q H A) {w : Nat} (h : w + 4 ≤ A.bs.length) (v4 v7 v5 v3 : Value) : ∃ fr,
    Liter env lb49_1 [15, 17, 4, 7, 5, 3, 0, 16] hp.length [(15, .int .i64 0), (17, .int .i64 3), (4, v4), (7, v7), (5, v5), (3, v3), (0, arP r), (16, .int .i64 w)] ⟨put hp r q A, L, H, []⟩
      = some (.exit 0, fr, ⟨put hp r q A, L, H, []⟩) ∧ fr.get 15 = some (.int .i64 (le4 (A.bs.getD w 0) (A.bs.getD (w + 1) 0) (A.bs.getD (w + 2) 0) (A.bs.getD (w + 3) 0) : Nat)) ∧ fr.get 4 = some v4 ∧ fr.get 7 = some v7 ∧ fr.get 5 = some v5 ∧ fr.get 3 = some v3 ∧ fr.get 0 = some (arP r) := by
  have hrl := k.r_lt
  have hql := k.q_lt
  have hne := k.ne
  have hsz := k.size
  have g0 := rfr_cell k (i := w) (by omega)
  have g1 := rfr_cell k (i := w + 1) (by omega)
  have g2 := rfr_cell k (i := w + 2) (by omega)
  have g3 := rfr_cell k (i := w + 3) (by omega)
  have l0 := rfr_lt k w
  have l1 := rfr_lt k (w + 1)
  have l2 := rfr_lt k (w + 2)
  have l3 := rfr_lt k (w + 3)
  have t1 : ((w : Int) + 1).toNat = w + 1 := by omega
  have t2 : ((w : Int) + 2).toNat = w + 2 := by omega
  have t3 : ((w : Int) + 3).toNat = w + 3 := by omega
  have r0 : 0 ≤ (w : Int) ∧ (w : Int) < A.bs.length := by omega
  have r1 : 0 ≤ (w : Int) + 1 ∧ (w : Int) + 1 < A.bs.length := by omega
  have r2 : 0 ≤ (w : Int) + 2 ∧ (w : Int) + 2 < A.bs.length := by omega
  have r3 : 0 ≤ (w : Int) + 3 ∧ (w : Int) + 3 < A.bs.length := by omega
  have hle : ((le4 (A.bs.getD w 0) (A.bs.getD (w + 1) 0) (A.bs.getD (w + 2) 0) (A.bs.getD (w + 3) 0) : Nat) : Int) = 256 * (256 * (256 * ((A.bs.getD (w + 3) 0 : Nat) : Int) + (A.bs.getD (w + 2) 0 : Nat)) + (A.bs.getD (w + 1) 0 : Nat)) + (A.bs.getD w 0 : Nat) := by unfold le4; omega
  rw [hle]
  have it := iter_by (env := env) lb49_1.eq_1
  generalize A.bs.getD w 0 = b0 at *
  generalize A.bs.getD (w + 1) 0 = b1 at *
  generalize A.bs.getD (w + 2) 0 = b2 at *
  generalize A.bs.getD (w + 3) 0 = b3 at *
  simp (disch := (first | omega | (simp only [lnE, put_length] <;> omega) | (refine Fit.mono ‹Fit _ _ _› ?_ <;> (simp only [lnE, put_length] <;> omega)) | (refine Fit.draw ‹Fit _ _ _› ?_ ?_ <;> (simp only [lnE, put_length] <;> omega)) | (refine Fit.hid1 ‹Fit _ _ _› ?_ ?_ <;> (simp only [lnE, put_length] <;> omega)) | (refine Fit.hidc1 ‹Fit _ _ _› ?_ ?_ <;> (simp only [lnE, put_length] <;> omega)) | (refine Fit.hidc2 ‹Fit _ _ _› ?_ ?_ ?_ <;> (simp only [lnE, put_length] <;> omega)) | (refine Fit.draw1 ‹Fit _ _ _› ?_ ?_ ?_ <;> (simp only [lnE, put_length] <;> omega)) | (refine Fit.range0 ?_ ?_ <;> (simp only [lnE, put_length] <;> omega)) | (refine ArOk.mono ‹ArOk _ _ _ _ _› ?_ <;> (simp only [lnE, put_length] <;> omega)) | (refine ArOk.hid ‹ArOk _ _ _ _ _› ?_ ?_ <;> (simp only [lnE, put_length] <;> omega)) | (refine ArOk.hid0 ‹ArOk _ _ _ _ _› ?_ ?_ <;> (simp only [lnE, put_length] <;> omega)) | ((intro xr hxr; simp [AM.refs, refsF, refsC] at hxr) <;> (simp only [lnE, put_length] <;> omega)) | fail)) only [syA, syB, argFr, D, E, T, C, undefv, eqF, aeq, sheqs, sheq, rdCells, cellsOf, fill, putAt, if_true, if_false, reduceIte, ↓reduceIte, reduceCtorEq, eq_self, Nat.reduceEqDiff, Nat.reduceAdd, Nat.reduceSub, Nat.reduceMul, Nat.reduceLT, Nat.reduceLeDiff, Nat.reducePow, Nat.reduceDiv, Nat.reduceMod, Int.reduceLT, Int.reduceLE, Int.reduceGT, Int.reduceGE, Int.reduceToNat, Int.reducePow, Int.reduceNeg, Int.reduceBEq, Int.reduceBNe, Int.reduceEq, Int.reduceAdd, Int.reduceSub, Int.reduceMul, cellv, sc, flatv, refs, refsF, refsC, syR, Int.le_refl, hF.not0, hF.not1, hF.up0, hF.up1, k.hr, k.hq, it, g0, g1, g2, g3, t1, t2, t3, r0, r1, r2, r3]
  exact ⟨_, rfl, rfl, rfl, rfl, rfl, rfl, rfl⟩
theorem rfr_loop (hF : Fit hp.length L H) (k : ArOk hp.length r q H A) {s b c : Nat} {v18 : Value} {x : List Nat} (hx : Holds A s x) (hb : hp[b]? = some (.cells 0 true [.int .i64 s, .int .i64 x.length])) (hrb : r ≠ b) (hqb : q ≠ b) (hid : H.contains b = false) (hm : x.length ≤ 65536) :
    ∀ (j i : Nat), i + j ≤ x.length → ∀ n : Nat, n ≤ 4294967296 + i → ∃ fr,
    Liter env lb49_0 [15, 19, 5, 18, 0, 7, 4] hp.length [(15, .int .i64 n), (19, .int .i64 i), (5, .int .i64 (i + j : Nat)), (18, v18), (0, arP r), (7, .pointer (some ⟨b, 0, some 0⟩)), (4, .int .u8 c)] ⟨put hp r q A, L, H, []⟩ =
      some (.exit 2, fr, ⟨put hp r q A, L, H, []⟩) ∧ fr.get 15 = some (.int .i64 (n + ((x.drop i).take j).count c : Nat)) ∧ fr.get 18 = some v18
  | 0, i, e, n, h1 => by
    rw [iter_by lb49_0.eq_1]
    simp (disch := (first | omega | (simp only [lnE, put_length] <;> omega) | (refine Fit.mono ‹Fit _ _ _› ?_ <;> (simp only [lnE, put_length] <;> omega)) | (refine Fit.draw ‹Fit _ _ _› ?_ ?_ <;> (simp only [lnE, put_length] <;> omega)) | (refine Fit.hid1 ‹Fit _ _ _› ?_ ?_ <;> (simp only [lnE, put_length] <;> omega)) | (refine Fit.hidc1 ‹Fit _ _ _› ?_ ?_ <;> (simp only [lnE, put_length] <;> omega)) | (refine Fit.hidc2 ‹Fit _ _ _› ?_ ?_ ?_ <;> (simp only [lnE, put_length] <;> omega)) | (refine Fit.draw1 ‹Fit _ _ _› ?_ ?_ ?_ <;> (simp only [lnE, put_length] <;> omega)) | (refine Fit.range0 ?_ ?_ <;> (simp only [lnE, put_length] <;> omega)) | (refine ArOk.mono ‹ArOk _ _ _ _ _› ?_ <;> (simp only [lnE, put_length] <;> omega)) | (refine ArOk.hid ‹ArOk _ _ _ _ _› ?_ ?_ <;> (simp only [lnE, put_length] <;> omega)) | (refine ArOk.hid0 ‹ArOk _ _ _ _ _› ?_ ?_ <;> (simp only [lnE, put_length] <;> omega)) | ((intro xr hxr; simp [AM.refs, refsF, refsC] at hxr) <;> (simp only [lnE, put_length] <;> omega)) | fail)) only [syA, syB, argFr, D, E, T, C, undefv, eqF, aeq, sheqs, sheq, rdCells, cellsOf, fill, putAt, if_true, if_false, reduceIte, ↓reduceIte, reduceCtorEq, eq_self, Nat.reduceEqDiff, Nat.reduceAdd, Nat.reduceSub, Nat.reduceMul, Nat.reduceLT, Nat.reduceLeDiff, Nat.reducePow, Nat.reduceDiv, Nat.reduceMod, Int.reduceLT, Int.reduceLE, Int.reduceGT, Int.reduceGE, Int.reduceToNat, Int.reducePow, Int.reduceNeg, Int.reduceBEq, Int.reduceBNe, Int.reduceEq, Int.reduceAdd, Int.reduceSub, Int.reduceMul, cellv, sc, flatv, refs, refsF, refsC, syR, Int.le_refl, hF.not0, hF.not1, hF.up0, hF.up1, k.hr, k.hq, Nat.add_zero]
    exact ⟨_, rfl, by simp [Fr.get], rfl⟩
  | j + 1, i, e, n, h1 => by
    have hi : i < x.length := by omega
    have hrl := k.r_lt
    have hql := k.q_lt
    have hne := k.ne
    have hd : x.drop i = x[i] :: x.drop (i + 1) := List.drop_eq_getElem_cons hi
    have c1 : (i : Int) < (i + (j + 1) : Nat) := by omega
    have hlv := hx.live
    have hl1 := k.live1
    have hsz := k.size
    have hcell : (u8s A.bs)[s + i]? = some (.int .u8 (x[i] : Int)) := by rw [u8s_get, hx.get i hi]; rfl
    have r0 : 0 ≤ (s : Int) + (i : Int) ∧ (s : Int) + (i : Int) < A.bs.length := by omega
    have t0 : ((s : Int) + (i : Int)).toNat = s + i := by omega
    rw [hd, List.take_succ_cons]
    rw [iter_by lb49_0.eq_1]
    by_cases hc : x[i] = c
    · obtain ⟨fr, e1, e2, e3⟩ := rfr_loop hF k hx hb hrb hqb hid hm (c := c) (v18 := v18) j (i + 1) (by omega) (n + 1) (by omega)
      rw [show i + 1 + j = i + (j + 1) by omega] at e1
      simp only [Int.natCast_add, Int.natCast_one] at e1 e2 e3 c1 ⊢
      have hc' : ((x[i] : Int) == c) = true := by rw [hc]; simp
      have hct : (x[i] :: (x.drop (i + 1)).take j).count c = ((x.drop (i + 1)).take j).count c + 1 := by rw [hc, List.count_cons_self]
      rw [hct]
      simp (disch := (first | omega | (simp only [lnE, put_length] <;> omega) | (refine Fit.mono ‹Fit _ _ _› ?_ <;> (simp only [lnE, put_length] <;> omega)) | (refine Fit.draw ‹Fit _ _ _› ?_ ?_ <;> (simp only [lnE, put_length] <;> omega)) | (refine Fit.hid1 ‹Fit _ _ _› ?_ ?_ <;> (simp only [lnE, put_length] <;> omega)) | (refine Fit.hidc1 ‹Fit _ _ _› ?_ ?_ <;> (simp only [lnE, put_length] <;> omega)) | (refine Fit.hidc2 ‹Fit _ _ _› ?_ ?_ ?_ <;> (simp only [lnE, put_length] <;> omega)) | (refine Fit.draw1 ‹Fit _ _ _› ?_ ?_ ?_ <;> (simp only [lnE, put_length] <;> omega)) | (refine Fit.range0 ?_ ?_ <;> (simp only [lnE, put_length] <;> omega)) | (refine ArOk.mono ‹ArOk _ _ _ _ _› ?_ <;> (simp only [lnE, put_length] <;> omega)) | (refine ArOk.hid ‹ArOk _ _ _ _ _› ?_ ?_ <;> (simp only [lnE, put_length] <;> omega)) | (refine ArOk.hid0 ‹ArOk _ _ _ _ _› ?_ ?_ <;> (simp only [lnE, put_length] <;> omega)) | ((intro xr hxr; simp [AM.refs, refsF, refsC] at hxr) <;> (simp only [lnE, put_length] <;> omega)) | fail)) only [syA, syB, argFr, D, E, T, C, undefv, eqF, aeq, sheqs, sheq, rdCells, cellsOf, fill, putAt, if_true, if_false, reduceIte, ↓reduceIte, reduceCtorEq, eq_self, Nat.reduceEqDiff, Nat.reduceAdd, Nat.reduceSub, Nat.reduceMul, Nat.reduceLT, Nat.reduceLeDiff, Nat.reducePow, Nat.reduceDiv, Nat.reduceMod, Int.reduceLT, Int.reduceLE, Int.reduceGT, Int.reduceGE, Int.reduceToNat, Int.reducePow, Int.reduceNeg, Int.reduceBEq, Int.reduceBNe, Int.reduceEq, Int.reduceAdd, Int.reduceSub, Int.reduceMul, cellv, sc, flatv, refs, refsF, refsC, syR, Int.le_refl, hF.not0, hF.not1, hF.up0, hF.up1, k.hr, k.hq, c1, hb, hid, hcell, r0, t0, hc', e1]
      refine ⟨fr, rfl, ?_, e3⟩
      rw [e2]; congr 2; omega
    · obtain ⟨fr, e1, e2, e3⟩ := rfr_loop hF k hx hb hrb hqb hid hm (c := c) (v18 := v18) j (i + 1) (by omega) n (by omega)
      rw [show i + 1 + j = i + (j + 1) by omega] at e1
      simp only [Int.natCast_add, Int.natCast_one] at e1 e2 e3 c1 ⊢
      have hc' : ((x[i] : Int) == c) = false := by rw [beq_eq_false_iff_ne]; omega
      have hct : (x[i] :: (x.drop (i + 1)).take j).count c = ((x.drop (i + 1)).take j).count c := List.count_cons_of_ne hc
      rw [hct]
      simp (disch := (first | omega | (simp only [lnE, put_length] <;> omega) | (refine Fit.mono ‹Fit _ _ _› ?_ <;> (simp only [lnE, put_length] <;> omega)) | (refine Fit.draw ‹Fit _ _ _› ?_ ?_ <;> (simp only [lnE, put_length] <;> omega)) | (refine Fit.hid1 ‹Fit _ _ _› ?_ ?_ <;> (simp only [lnE, put_length] <;> omega)) | (refine Fit.hidc1 ‹Fit _ _ _› ?_ ?_ <;> (simp only [lnE, put_length] <;> omega)) | (refine Fit.hidc2 ‹Fit _ _ _› ?_ ?_ ?_ <;> (simp only [lnE, put_length] <;> omega)) | (refine Fit.draw1 ‹Fit _ _ _› ?_ ?_ ?_ <;> (simp only [lnE, put_length] <;> omega)) | (refine Fit.range0 ?_ ?_ <;> (simp only [lnE, put_length] <;> omega)) | (refine ArOk.mono ‹ArOk _ _ _ _ _› ?_ <;> (simp only [lnE, put_length] <;> omega)) | (refine ArOk.hid ‹ArOk _ _ _ _ _› ?_ ?_ <;> (simp only [lnE, put_length] <;> omega)) | (refine ArOk.hid0 ‹ArOk _ _ _ _ _› ?_ ?_ <;> (simp only [lnE, put_length] <;> omega)) | ((intro xr hxr; simp [AM.refs, refsF, refsC] at hxr) <;> (simp only [lnE, put_length] <;> omega)) | fail)) only [syA, syB, argFr, D, E, T, C, undefv, eqF, aeq, sheqs, sheq, rdCells, cellsOf, fill, putAt, if_true, if_false, reduceIte, ↓reduceIte, reduceCtorEq, eq_self, Nat.reduceEqDiff, Nat.reduceAdd, Nat.reduceSub, Nat.reduceMul, Nat.reduceLT, Nat.reduceLeDiff, Nat.reducePow, Nat.reduceDiv, Nat.reduceMod, Int.reduceLT, Int.reduceLE, Int.reduceGT, Int.reduceGE, Int.reduceToNat, Int.reducePow, Int.reduceNeg, Int.reduceBEq, Int.reduceBNe, Int.reduceEq, Int.reduceAdd, Int.reduceSub, Int.reduceMul, cellv, sc, flatv, refs, refsF, refsC, syR, Int.le_refl, hF.not0, hF.not1, hF.up0, hF.up1, k.hr, k.hq, c1, hb, hid, hcell, r0, t0, hc', e1]
      exact ⟨fr, rfl, e2, e3⟩
theorem rfr_bad (hF : Fit hp.length L H) (k : ArOk hp.length r q H A) {s m t z kk p : Int} {c : Nat} (hc : c < 256) (h : rValid A s m t z kk = false ∨ ¬ (0 ≤ p ∧ p ≤ m)) :
    Lrun env (.func 49) [arP r, .agg #[.int .i64 s, .int .i64 m], .agg #[.int .i64 t, .int .i64 z], .int .i64 kk, .int .u8 c, .int .i64 p] ⟨put hp r q A, L, H, d⟩ =
      some (.tuple #[.int .i64 0, .int .i64 0, .bool false], ⟨put hp r q A, L, H, d⟩) := by
  have h1 := k.r_lt
  have h2 := k.q_lt
  rw [Lrun_sym 49 _ _ fn49]
  have vw := fun nw => rfvalid_walk (d := []) (L := L) (H := H) (hp := hp ++ nw) (r := r) (q := q) (hF.mono (by simp)) (k.mono (by simp)) s m t z kk
  cases hv : rValid A s m t z kk with
  | false => simp (disch := (first | omega | (simp only [lnE, put_length] <;> omega) | (refine Fit.mono ‹Fit _ _ _› ?_ <;> (simp only [lnE, put_length] <;> omega)) | (refine Fit.draw ‹Fit _ _ _› ?_ ?_ <;> (simp only [lnE, put_length] <;> omega)) | (refine Fit.hid1 ‹Fit _ _ _› ?_ ?_ <;> (simp only [lnE, put_length] <;> omega)) | (refine Fit.hidc1 ‹Fit _ _ _› ?_ ?_ <;> (simp only [lnE, put_length] <;> omega)) | (refine Fit.hidc2 ‹Fit _ _ _› ?_ ?_ ?_ <;> (simp only [lnE, put_length] <;> omega)) | (refine Fit.draw1 ‹Fit _ _ _› ?_ ?_ ?_ <;> (simp only [lnE, put_length] <;> omega)) | (refine Fit.range0 ?_ ?_ <;> (simp only [lnE, put_length] <;> omega)) | (refine ArOk.mono ‹ArOk _ _ _ _ _› ?_ <;> (simp only [lnE, put_length] <;> omega)) | (refine ArOk.hid ‹ArOk _ _ _ _ _› ?_ ?_ <;> (simp only [lnE, put_length] <;> omega)) | (refine ArOk.hid0 ‹ArOk _ _ _ _ _› ?_ ?_ <;> (simp only [lnE, put_length] <;> omega)) | ((intro xr hxr; simp [AM.refs, refsF, refsC] at hxr) <;> (simp only [lnE, put_length] <;> omega)) | fail)) only [syA, syB, argFr, D, E, T, C, undefv, eqF, aeq, sheqs, sheq, rdCells, cellsOf, fill, putAt, if_true, if_false, reduceIte, ↓reduceIte, reduceCtorEq, eq_self, Nat.reduceEqDiff, Nat.reduceAdd, Nat.reduceSub, Nat.reduceMul, Nat.reduceLT, Nat.reduceLeDiff, Nat.reducePow, Nat.reduceDiv, Nat.reduceMod, Int.reduceLT, Int.reduceLE, Int.reduceGT, Int.reduceGE, Int.reduceToNat, Int.reducePow, Int.reduceNeg, Int.reduceBEq, Int.reduceBNe, Int.reduceEq, Int.reduceAdd, Int.reduceSub, Int.reduceMul, cellv, sc, flatv, refs, refsF, refsC, syR, Int.le_refl, hF.not0, hF.not1, hF.up0, hF.up1, k.hr, k.hq, ac49, vw, hv]
  | true =>
    have hp : ¬ (0 ≤ p ∧ p ≤ m) := by
      rcases h with h | h
      · rw [hv] at h; cases h
      · exact h
    by_cases c1 : p < 0
    · simp (disch := (first | omega | (simp only [lnE, put_length] <;> omega) | (refine Fit.mono ‹Fit _ _ _› ?_ <;> (simp only [lnE, put_length] <;> omega)) | (refine Fit.draw ‹Fit _ _ _› ?_ ?_ <;> (simp only [lnE, put_length] <;> omega)) | (refine Fit.hid1 ‹Fit _ _ _› ?_ ?_ <;> (simp only [lnE, put_length] <;> omega)) | (refine Fit.hidc1 ‹Fit _ _ _› ?_ ?_ <;> (simp only [lnE, put_length] <;> omega)) | (refine Fit.hidc2 ‹Fit _ _ _› ?_ ?_ ?_ <;> (simp only [lnE, put_length] <;> omega)) | (refine Fit.draw1 ‹Fit _ _ _› ?_ ?_ ?_ <;> (simp only [lnE, put_length] <;> omega)) | (refine Fit.range0 ?_ ?_ <;> (simp only [lnE, put_length] <;> omega)) | (refine ArOk.mono ‹ArOk _ _ _ _ _› ?_ <;> (simp only [lnE, put_length] <;> omega)) | (refine ArOk.hid ‹ArOk _ _ _ _ _› ?_ ?_ <;> (simp only [lnE, put_length] <;> omega)) | (refine ArOk.hid0 ‹ArOk _ _ _ _ _› ?_ ?_ <;> (simp only [lnE, put_length] <;> omega)) | ((intro xr hxr; simp [AM.refs, refsF, refsC] at hxr) <;> (simp only [lnE, put_length] <;> omega)) | fail)) only [syA, syB, argFr, D, E, T, C, undefv, eqF, aeq, sheqs, sheq, rdCells, cellsOf, fill, putAt, if_true, if_false, reduceIte, ↓reduceIte, reduceCtorEq, eq_self, Nat.reduceEqDiff, Nat.reduceAdd, Nat.reduceSub, Nat.reduceMul, Nat.reduceLT, Nat.reduceLeDiff, Nat.reducePow, Nat.reduceDiv, Nat.reduceMod, Int.reduceLT, Int.reduceLE, Int.reduceGT, Int.reduceGE, Int.reduceToNat, Int.reducePow, Int.reduceNeg, Int.reduceBEq, Int.reduceBNe, Int.reduceEq, Int.reduceAdd, Int.reduceSub, Int.reduceMul, cellv, sc, flatv, refs, refsF, refsC, syR, Int.le_refl, hF.not0, hF.not1, hF.up0, hF.up1, k.hr, k.hq, ac49, vw, hv, c1]
    · have c2 : p > m := by omega
      simp (disch := (first | omega | (simp only [lnE, put_length] <;> omega) | (refine Fit.mono ‹Fit _ _ _› ?_ <;> (simp only [lnE, put_length] <;> omega)) | (refine Fit.draw ‹Fit _ _ _› ?_ ?_ <;> (simp only [lnE, put_length] <;> omega)) | (refine Fit.hid1 ‹Fit _ _ _› ?_ ?_ <;> (simp only [lnE, put_length] <;> omega)) | (refine Fit.hidc1 ‹Fit _ _ _› ?_ ?_ <;> (simp only [lnE, put_length] <;> omega)) | (refine Fit.hidc2 ‹Fit _ _ _› ?_ ?_ ?_ <;> (simp only [lnE, put_length] <;> omega)) | (refine Fit.draw1 ‹Fit _ _ _› ?_ ?_ ?_ <;> (simp only [lnE, put_length] <;> omega)) | (refine Fit.range0 ?_ ?_ <;> (simp only [lnE, put_length] <;> omega)) | (refine ArOk.mono ‹ArOk _ _ _ _ _› ?_ <;> (simp only [lnE, put_length] <;> omega)) | (refine ArOk.hid ‹ArOk _ _ _ _ _› ?_ ?_ <;> (simp only [lnE, put_length] <;> omega)) | (refine ArOk.hid0 ‹ArOk _ _ _ _ _› ?_ ?_ <;> (simp only [lnE, put_length] <;> omega)) | ((intro xr hxr; simp [AM.refs, refsF, refsC] at hxr) <;> (simp only [lnE, put_length] <;> omega)) | fail)) only [syA, syB, argFr, D, E, T, C, undefv, eqF, aeq, sheqs, sheq, rdCells, cellsOf, fill, putAt, if_true, if_false, reduceIte, ↓reduceIte, reduceCtorEq, eq_self, Nat.reduceEqDiff, Nat.reduceAdd, Nat.reduceSub, Nat.reduceMul, Nat.reduceLT, Nat.reduceLeDiff, Nat.reducePow, Nat.reduceDiv, Nat.reduceMod, Int.reduceLT, Int.reduceLE, Int.reduceGT, Int.reduceGE, Int.reduceToNat, Int.reducePow, Int.reduceNeg, Int.reduceBEq, Int.reduceBNe, Int.reduceEq, Int.reduceAdd, Int.reduceSub, Int.reduceMul, cellv, sc, flatv, refs, refsF, refsC, syR, Int.le_refl, hF.not0, hF.not1, hF.up0, hF.up1, k.hr, k.hq, ac49, vw, hv, c1, c2]
theorem rfr_walk (hF : Fit hp.length L H) (k : ArOk hp.length r q H A) {s c p kk : Nat} {t z : Int} {x : List Nat} (hx : Holds A s x) (hm : x.length ≤ 65536) (hv : rValid A s x.length t z kk = true) (hk : 1 ≤ kk) (hp2 : p ≤ x.length) (hc : c < 256) :
    Lrun env (.func 49) [arP r, .agg #[.int .i64 s, .int .i64 x.length], .agg #[.int .i64 t, .int .i64 z], .int .i64 kk, .int .u8 c, .int .i64 p] ⟨put hp r q A, L, H, d⟩ =
      some (.tuple #[.int .i64 (base A t z kk c p + tail x kk c p : Nat), .int .i64 (p % kk : Nat), .bool true], ⟨put hp r q A, L, H, d⟩) := by
  have h1 := k.r_lt
  have h2 := k.q_lt
  have hl1 := k.live1
  have hsz := k.size
  obtain ⟨v1, v2, v3, v4, v5, v6⟩ := rValid_parts hv
  have b2 := Arn.has_iff.1 v2
  rw [rSize_nat (by omega) (by omega)] at v6
  have hk0 : ¬ (kk : Int) = 0 := by omega
  have hq : Int.tdiv (p : Int) (kk : Int) = ((p / kk : Nat) : Int) := by rw [Int.tdiv_eq_ediv_of_nonneg (by omega)]; rfl
  have hrm : Int.tmod (p : Int) (kk : Int) = ((p % kk : Nat) : Int) := by rw [Int.tmod_eq_emod_of_nonneg (by omega)]; rfl
  have hdm := Nat.div_add_mod p kk
  have hdl : p / kk * kk ≤ p := Nat.div_mul_le_self p kk
  have hdp : p / kk ≤ p := Nat.div_le_self p kk
  have hdx : p / kk ≤ x.length / kk := Nat.div_le_div_right hp2
  have hmod : p % kk = p - p / kk * kk := by rw [Nat.mul_comm] at hdm; omega
  have hmodi : (p : Int) - ((p % kk : Nat) : Int) = ((p / kk * kk : Nat) : Int) := by omega
  have kx := fun nw => (k.mono (m := (hp ++ nw).length) (by simp) : ArOk (hp ++ nw).length r q H A)
  have hbase : base A t z kk c p ≤ 4294967295 := by
    unfold base Arn.wordV
    split
    · split
      · have sl : ∀ a, A.slot t a < 256 := fun a => rfr_lt k _
        unfold le4
        have := sl (4 * (((p / kk : Nat) : Int) * 256 - 256 + c)); have := sl (4 * (((p / kk : Nat) : Int) * 256 - 256 + c) + 1); have := sl (4 * (((p / kk : Nat) : Int) * 256 - 256 + c) + 2); have := sl (4 * (((p / kk : Nat) : Int) * 256 - 256 + c) + 3)
        omega
      · omega
    · omega
  obtain ⟨fr, e1, e2, e3⟩ := rfr_loop (hp := hp ++ [.cells 0 true [.int .i64 s, .int .i64 x.length], .cells 0 true [.int .i64 t, .int .i64 z]]) (b := hp.length) (c := c) (v18 := .int .i64 (p % kk : Nat)) (hF.mono (by simp)) (kx _) hx (by rw [get_new0]) (by omega) (by omega) hF.not0 hm (p - p / kk * kk) (p / kk * kk) (by omega) (base A t z kk c p) (by omega)
  rw [show p / kk * kk + (p - p / kk * kk) = p by omega] at e1
  simp only [List.length_append, List.length_cons, List.length_nil, Nat.zero_add, Nat.reduceAdd, Int.natCast_zero] at e1 e3
  have e2' : fr.get 15 = some (.int .i64 (base A t z kk c p + tail x kk c p : Nat)) := e2
  have vw := fun nw => rfvalid_walk (d := []) (L := L) (H := H) (hp := hp ++ nw) (r := r) (q := q) (hF.mono (by simp)) (k.mono (by simp)) s x.length t z kk
  have c1 : ¬ (p : Int) < 0 := by omega
  have c2 : ¬ (p : Int) > x.length := by omega
  by_cases h0 : p ≥ kk
  · have h0' : (p : Int) ≥ kk := by omega
    have hd0 : 0 < p / kk := Nat.div_pos h0 (by omega)
    have hw : ∃ w : Nat, t + 1024 * (((p / kk : Nat) : Int) - 1) + 4 * (c : Int) = (w : Nat) ∧ w + 4 ≤ A.bs.length ∧ base A t z kk c p = le4 (A.bs.getD w 0) (A.bs.getD (w + 1) 0) (A.bs.getD (w + 2) 0) (A.bs.getD (w + 3) 0) := by
      refine ⟨(t + 1024 * (((p / kk : Nat) : Int) - 1) + 4 * (c : Int)).toNat, by omega, by omega, ?_⟩
      have hp1 : A.wpart t z (((p / kk : Nat) : Int) * 256 - 256 + c) = true := by
        unfold Arn.wpart
        rw [Bool.and_eq_true, decide_eq_true_eq, Arn.part_iff]
        omega
      unfold base Arn.wordV Arn.slot
      rw [if_pos hd0, if_pos hp1]
      congr 2 <;> omega
    obtain ⟨w, w1, w2, w3⟩ := hw
    obtain ⟨fr2, f1, f2, f3, f4, f5, f6, f7⟩ := rfr_word (hp := hp ++ [.cells 0 true [.int .i64 s, .int .i64 x.length], .cells 0 true [.int .i64 t, .int .i64 z]]) (hF.mono (by simp)) (kx _) w2 (.int .u8 c) (.pointer (some ⟨hp.length, 0, some 0⟩)) (.int .i64 p) (.int .i64 kk)
    rw [← w3] at f2
    simp only [List.length_append, List.length_cons, List.length_nil, Nat.zero_add, Nat.reduceAdd] at f1
    have w4 : (w : Int) ≤ 1048576 ∧ 0 ≤ (1024 * (((p / kk : Nat) : Int) - 1)) ∧ t + 1024 * (((p / kk : Nat) : Int) - 1) ≤ w ∧ 1024 * (((p / kk : Nat) : Int) - 1) ≤ w := by omega
    clear e2 hdm hmod v6 hdx w3
    generalize base A t z kk c p = bs at *
    generalize tail x kk c p = tl at *
    generalize p / kk * kk = st at *
    generalize p / kk = mk at *
    generalize p % kk = mq at *
    rw [Lrun_sym 49 _ _ fn49]
    simp (disch := (first | omega | (simp only [lnE, put_length] <;> omega) | (refine Fit.mono ‹Fit _ _ _› ?_ <;> (simp only [lnE, put_length] <;> omega)) | (refine Fit.draw ‹Fit _ _ _› ?_ ?_ <;> (simp only [lnE, put_length] <;> omega)) | (refine Fit.hid1 ‹Fit _ _ _› ?_ ?_ <;> (simp only [lnE, put_length] <;> omega)) | (refine Fit.hidc1 ‹Fit _ _ _› ?_ ?_ <;> (simp only [lnE, put_length] <;> omega)) | (refine Fit.hidc2 ‹Fit _ _ _› ?_ ?_ ?_ <;> (simp only [lnE, put_length] <;> omega)) | (refine Fit.draw1 ‹Fit _ _ _› ?_ ?_ ?_ <;> (simp only [lnE, put_length] <;> omega)) | (refine Fit.range0 ?_ ?_ <;> (simp only [lnE, put_length] <;> omega)) | (refine ArOk.mono ‹ArOk _ _ _ _ _› ?_ <;> (simp only [lnE, put_length] <;> omega)) | (refine ArOk.hid ‹ArOk _ _ _ _ _› ?_ ?_ <;> (simp only [lnE, put_length] <;> omega)) | (refine ArOk.hid0 ‹ArOk _ _ _ _ _› ?_ ?_ <;> (simp only [lnE, put_length] <;> omega)) | ((intro xr hxr; simp [AM.refs, refsF, refsC] at hxr) <;> (simp only [lnE, put_length] <;> omega)) | fail)) only [syA, syB, argFr, D, E, T, C, undefv, eqF, aeq, sheqs, sheq, rdCells, cellsOf, fill, putAt, if_true, if_false, reduceIte, ↓reduceIte, reduceCtorEq, eq_self, Nat.reduceEqDiff, Nat.reduceAdd, Nat.reduceSub, Nat.reduceMul, Nat.reduceLT, Nat.reduceLeDiff, Nat.reducePow, Nat.reduceDiv, Nat.reduceMod, Int.reduceLT, Int.reduceLE, Int.reduceGT, Int.reduceGE, Int.reduceToNat, Int.reducePow, Int.reduceNeg, Int.reduceBEq, Int.reduceBNe, Int.reduceEq, Int.reduceAdd, Int.reduceSub, Int.reduceMul, cellv, sc, flatv, refs, refsF, refsC, syR, Int.le_refl, hF.not0, hF.not1, hF.up0, hF.up1, k.hr, k.hq, ac49, vw, hv, c1, c2, hk0, hq, hrm, hmodi, h0', w1, f1, f2, f3, f4, f5, f6, f7, e1, e2', e3]
  · have h0' : ¬ (p : Int) ≥ kk := by omega
    have hb0 : base A t z kk c p = 0 := by unfold base; rw [if_neg]; rw [Nat.div_eq_of_lt (by omega)]; omega
    rw [hb0] at e1 e2' ⊢
    simp only [Int.natCast_zero] at e1
    clear e2 hdm hmod v6 hdx hbase hb0
    generalize tail x kk c p = tl at *
    generalize p / kk * kk = st at *
    generalize p / kk = mk at *
    generalize p % kk = mq at *
    rw [Lrun_sym 49 _ _ fn49]
    simp (disch := (first | omega | (simp only [lnE, put_length] <;> omega) | (refine Fit.mono ‹Fit _ _ _› ?_ <;> (simp only [lnE, put_length] <;> omega)) | (refine Fit.draw ‹Fit _ _ _› ?_ ?_ <;> (simp only [lnE, put_length] <;> omega)) | (refine Fit.hid1 ‹Fit _ _ _› ?_ ?_ <;> (simp only [lnE, put_length] <;> omega)) | (refine Fit.hidc1 ‹Fit _ _ _› ?_ ?_ <;> (simp only [lnE, put_length] <;> omega)) | (refine Fit.hidc2 ‹Fit _ _ _› ?_ ?_ ?_ <;> (simp only [lnE, put_length] <;> omega)) | (refine Fit.draw1 ‹Fit _ _ _› ?_ ?_ ?_ <;> (simp only [lnE, put_length] <;> omega)) | (refine Fit.range0 ?_ ?_ <;> (simp only [lnE, put_length] <;> omega)) | (refine ArOk.mono ‹ArOk _ _ _ _ _› ?_ <;> (simp only [lnE, put_length] <;> omega)) | (refine ArOk.hid ‹ArOk _ _ _ _ _› ?_ ?_ <;> (simp only [lnE, put_length] <;> omega)) | (refine ArOk.hid0 ‹ArOk _ _ _ _ _› ?_ ?_ <;> (simp only [lnE, put_length] <;> omega)) | ((intro xr hxr; simp [AM.refs, refsF, refsC] at hxr) <;> (simp only [lnE, put_length] <;> omega)) | fail)) only [syA, syB, argFr, D, E, T, C, undefv, eqF, aeq, sheqs, sheq, rdCells, cellsOf, fill, putAt, if_true, if_false, reduceIte, ↓reduceIte, reduceCtorEq, eq_self, Nat.reduceEqDiff, Nat.reduceAdd, Nat.reduceSub, Nat.reduceMul, Nat.reduceLT, Nat.reduceLeDiff, Nat.reducePow, Nat.reduceDiv, Nat.reduceMod, Int.reduceLT, Int.reduceLE, Int.reduceGT, Int.reduceGE, Int.reduceToNat, Int.reducePow, Int.reduceNeg, Int.reduceBEq, Int.reduceBNe, Int.reduceEq, Int.reduceAdd, Int.reduceSub, Int.reduceMul, cellv, sc, flatv, refs, refsF, refsC, syR, Int.le_refl, hF.not0, hF.not1, hF.up0, hF.up1, k.hr, k.hq, ac49, vw, hv, c1, c2, hk0, hq, hrm, hmodi, h0', e1, e2', e3]
end
end ArA
end Go.Proofs.Ytfefeikkjebfoaa
