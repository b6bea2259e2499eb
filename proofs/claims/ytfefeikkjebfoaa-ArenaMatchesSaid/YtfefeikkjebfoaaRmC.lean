/-
  RANKS: the reference's Less on the abstract machine. Conditions: none.
-/
import Derived.Test.YtfefeikkjebfoaaRmB
set_option linter.all false
namespace Go.Proofs.Ytfefeikkjebfoaa
namespace ArA
open Go Go.RowKit AM ArEnv
theorem csm_take {x : List Nat} {i : Nat} (h : i < x.length) : ∀ b, csm (x.take (i + 1)) b = csm (x.take i) b + (if x[i] < b then 1 else 0)
  | 0 => by simp [csm]
  | b + 1 => by
    simp only [csm]
    rw [csm_take h b, cnt_take h b]
    by_cases h1 : x[i] < b
    · rw [if_pos h1, if_neg (by omega), if_pos (by omega)]; omega
    · by_cases h2 : x[i] = b
      · rw [if_neg h1, if_pos h2, if_pos (by omega)]; omega
      · rw [if_neg h1, if_neg h2, if_neg (by omega)]; omega
theorem csm_nil : ∀ b, csm [] b = 0
  | 0 => rfl
  | b + 1 => by simp only [csm]; rw [csm_nil b]; rfl
theorem lP_nil (n : Nat) : lP [] n = c256 [] := ext256 (lP_len _ _) (c256_len _) fun j hj => by rw [c256_at _ hj, lP_get _ _ hj, csm_nil]; simp
theorem lP_set0 (l : List Nat) {n : Nat} (h : n < 256) : (lP l n).set n (.int .i64 0) = lP l n := ext256 (by rw [List.length_set, lP_len]) (lP_len _ _) fun j hj => by
  rw [List.getElem?_set]
  by_cases e : n = j
  · subst e; rw [if_pos rfl, if_pos (by rw [lP_len]; exact h), lP_get _ _ hj, if_neg (by omega)]; rfl
  · rw [if_neg e]
section
variable {hp : List Blk} {L : Nat} {H d : List Nat} {r q : Nat} {A : Arn}
theorem rfl_in (hF : Fit hp.length L H) (k : ArOk hp.length r q H A) {s b : Nat} {x : List Nat} {M : List Value} {B4 : Blk} (hx : Holds A s x) (hm : x.length ≤ 65536) (hM : M.length = 256) (hb : b < 256) :
    ∀ (j i : Nat), i + j = x.length → ∃ fr,
    Liter env lb55_0 [7, 4, 3, 0, 6, 5] (hp.length + 3) [(7, .int .i64 (s + i : Nat)), (4, .pointer (some ⟨hp.length + 1, 0, some 0⟩)), (3, .pointer (some ⟨hp.length, 0, some 0⟩)), (0, arP r), (6, .int .i64 b), (5, .pointer (some ⟨hp.length + 2, 0, some 0⟩))]
      ⟨put (hp ++ [.cells 0 true [.int .i64 s, .int .i64 x.length], B4, .cells 0 true (M.set b (.int .i64 (csm (x.take i) b : Nat)))]) r q A, L, H, []⟩ =
      some (.exit 2, fr, ⟨put (hp ++ [.cells 0 true [.int .i64 s, .int .i64 x.length], B4, .cells 0 true (M.set b (.int .i64 (csm x b : Nat)))]) r q A, L, H, []⟩) ∧ fr.get 4 = some (.pointer (some ⟨hp.length + 1, 0, some 0⟩)) ∧ fr.get 3 = some (.pointer (some ⟨hp.length, 0, some 0⟩)) ∧ fr.get 0 = some (arP r) ∧ fr.get 6 = some (.int .i64 b) ∧ fr.get 5 = some (.pointer (some ⟨hp.length + 2, 0, some 0⟩))
  | 0, i, e => by
    obtain rfl : i = x.length := by omega
    have hrl := k.r_lt
    have hql := k.q_lt
    have hne := k.ne
    have hsz := k.size
    have hl1 := k.live1
    have hlv := hx.live
    have c1 : ¬ (s : Int) + (x.length : Int) < (s : Int) + (x.length : Int) := by omega
    rw [iter_by lb55_0.eq_1, List.take_of_length_le (Nat.le_refl _)]
    simp only [Int.natCast_add]
    simp (disch := (first | omega | (simp only [lnE, put_length] <;> omega) | (refine Fit.mono ‹Fit _ _ _› ?_ <;> (simp only [lnE, put_length] <;> omega)) | (refine Fit.draw ‹Fit _ _ _› ?_ ?_ <;> (simp only [lnE, put_length] <;> omega)) | (refine Fit.hid1 ‹Fit _ _ _› ?_ ?_ <;> (simp only [lnE, put_length] <;> omega)) | (refine Fit.hidc1 ‹Fit _ _ _› ?_ ?_ <;> (simp only [lnE, put_length] <;> omega)) | (refine Fit.hidc2 ‹Fit _ _ _› ?_ ?_ ?_ <;> (simp only [lnE, put_length] <;> omega)) | (refine Fit.draw1 ‹Fit _ _ _› ?_ ?_ ?_ <;> (simp only [lnE, put_length] <;> omega)) | (refine Fit.range0 ?_ ?_ <;> (simp only [lnE, put_length] <;> omega)) | (refine ArOk.mono ‹ArOk _ _ _ _ _› ?_ <;> (simp only [lnE, put_length] <;> omega)) | (refine ArOk.hid ‹ArOk _ _ _ _ _› ?_ ?_ <;> (simp only [lnE, put_length] <;> omega)) | (refine ArOk.hid0 ‹ArOk _ _ _ _ _› ?_ ?_ <;> (simp only [lnE, put_length] <;> omega)) | ((intro xr hxr; simp [AM.refs, refsF, refsC] at hxr) <;> (simp only [lnE, put_length] <;> omega)) | fail)) only [syA, syB, argFr, D, E, T, C, undefv, eqF, aeq, sheqs, sheq, rdCells, cellsOf, fill, putAt, if_true, if_false, reduceIte, ↓reduceIte, reduceCtorEq, eq_self, Nat.reduceEqDiff, Nat.reduceAdd, Nat.reduceSub, Nat.reduceMul, Nat.reduceLT, Nat.reduceLeDiff, Nat.reducePow, Nat.reduceDiv, Nat.reduceMod, Int.reduceLT, Int.reduceLE, Int.reduceGT, Int.reduceGE, Int.reduceToNat, Int.reducePow, Int.reduceNeg, Int.reduceBEq, Int.reduceBNe, Int.reduceEq, Int.reduceAdd, Int.reduceSub, Int.reduceMul, cellv, sc, flatv, refs, refsF, refsC, syR, Int.le_refl, hF.not0, hF.not1, hF.up0, hF.up1, k.hr, k.hq, c1]
    exact ⟨_, rfl, rfl, rfl, rfl, rfl, rfl⟩
  | j + 1, i, e => by
    have hi : i < x.length := by omega
    have hrl := k.r_lt
    have hql := k.q_lt
    have hne := k.ne
    have hlv := hx.live
    have hl1 := k.live1
    have hsz := k.size
    obtain ⟨fr, e1, e2⟩ := rfl_in hF k hx hm hM hb (B4 := B4) j (i + 1) (by omega)
    have c1 : (s : Int) + (i : Int) < (s : Int) + (x.length : Int) := by omega
    have hcell : (u8s A.bs)[s + i]? = some (.int .u8 (x[i] : Int)) := by rw [u8s_get, hx.get i hi]; rfl
    have r0 : 0 ≤ (s : Int) + (i : Int) ∧ (s : Int) + (i : Int) < A.bs.length := by omega
    have t0 : ((s : Int) + (i : Int)).toNat = s + i := by omega
    have hxb : x[i] < 256 := k.by_ _ (List.mem_of_getElem? (hx.get i hi))
    have hss : (s : Int) + (i : Int) + 1 = (s : Int) + ((i : Int) + 1) := by omega
    have hct := csm_take hi b
    have hcl := csm_le (x.take i) b
    have hcl2 : b * (x.take i).length ≤ 256 * 65536 := Nat.mul_le_mul (by omega) (by simp; omega)
    have hg : ∀ v : Nat, (M.set b (.int .i64 (v : Int)))[b]? = some (.int .i64 (v : Int)) := fun v => by rw [List.getElem?_set, if_pos rfl, if_pos (by omega)]
    have hst : ∀ v w : Value, (M.set b v).set b w = M.set b w := fun v w => by rw [List.set_set]
    have hb1 : 0 ≤ (b : Int) ∧ (b : Int) < 256 := by omega
    have hb2 : b + 1 ≤ 256 := by omega
    have hlm : ∀ v : Value, (M.set b v).length = 256 := fun v => by rw [List.length_set, hM]
    generalize csm (x.take i) b = v at *
    rw [iter_by lb55_0.eq_1]
    by_cases hc : x[i] < b
    · rw [if_pos hc] at hct
      rw [hct] at e1
      have hc' : (x[i] : Int) < b := by omega
      simp only [Int.natCast_add, Int.natCast_one] at e1 ⊢
      simp (disch := (first | omega | (simp only [lnE, put_length] <;> omega) | (refine Fit.mono ‹Fit _ _ _› ?_ <;> (simp only [lnE, put_length] <;> omega)) | (refine Fit.draw ‹Fit _ _ _› ?_ ?_ <;> (simp only [lnE, put_length] <;> omega)) | (refine Fit.hid1 ‹Fit _ _ _› ?_ ?_ <;> (simp only [lnE, put_length] <;> omega)) | (refine Fit.hidc1 ‹Fit _ _ _› ?_ ?_ <;> (simp only [lnE, put_length] <;> omega)) | (refine Fit.hidc2 ‹Fit _ _ _› ?_ ?_ ?_ <;> (simp only [lnE, put_length] <;> omega)) | (refine Fit.draw1 ‹Fit _ _ _› ?_ ?_ ?_ <;> (simp only [lnE, put_length] <;> omega)) | (refine Fit.range0 ?_ ?_ <;> (simp only [lnE, put_length] <;> omega)) | (refine ArOk.mono ‹ArOk _ _ _ _ _› ?_ <;> (simp only [lnE, put_length] <;> omega)) | (refine ArOk.hid ‹ArOk _ _ _ _ _› ?_ ?_ <;> (simp only [lnE, put_length] <;> omega)) | (refine ArOk.hid0 ‹ArOk _ _ _ _ _› ?_ ?_ <;> (simp only [lnE, put_length] <;> omega)) | ((intro xr hxr; simp [AM.refs, refsF, refsC] at hxr) <;> (simp only [lnE, put_length] <;> omega)) | fail)) only [syA, syB, argFr, D, E, T, C, undefv, eqF, aeq, sheqs, sheq, rdCells, cellsOf, fill, putAt, if_true, if_false, reduceIte, ↓reduceIte, reduceCtorEq, eq_self, Nat.reduceEqDiff, Nat.reduceAdd, Nat.reduceSub, Nat.reduceMul, Nat.reduceLT, Nat.reduceLeDiff, Nat.reducePow, Nat.reduceDiv, Nat.reduceMod, Int.reduceLT, Int.reduceLE, Int.reduceGT, Int.reduceGE, Int.reduceToNat, Int.reducePow, Int.reduceNeg, Int.reduceBEq, Int.reduceBNe, Int.reduceEq, Int.reduceAdd, Int.reduceSub, Int.reduceMul, cellv, sc, flatv, refs, refsF, refsC, syR, Int.le_refl, hF.not0, hF.not1, hF.up0, hF.up1, k.hr, k.hq, c1, hcell, r0, t0, hc', hg, hst, hb1, hb2, hlm, hss, e1]
      exact ⟨fr, rfl, e2⟩
    · rw [if_neg hc, Nat.add_zero] at hct
      rw [hct] at e1
      have hc' : ¬ (x[i] : Int) < b := by omega
      simp only [Int.natCast_add, Int.natCast_one] at e1 ⊢
      simp (disch := (first | omega | (simp only [lnE, put_length] <;> omega) | (refine Fit.mono ‹Fit _ _ _› ?_ <;> (simp only [lnE, put_length] <;> omega)) | (refine Fit.draw ‹Fit _ _ _› ?_ ?_ <;> (simp only [lnE, put_length] <;> omega)) | (refine Fit.hid1 ‹Fit _ _ _› ?_ ?_ <;> (simp only [lnE, put_length] <;> omega)) | (refine Fit.hidc1 ‹Fit _ _ _› ?_ ?_ <;> (simp only [lnE, put_length] <;> omega)) | (refine Fit.hidc2 ‹Fit _ _ _› ?_ ?_ ?_ <;> (simp only [lnE, put_length] <;> omega)) | (refine Fit.draw1 ‹Fit _ _ _› ?_ ?_ ?_ <;> (simp only [lnE, put_length] <;> omega)) | (refine Fit.range0 ?_ ?_ <;> (simp only [lnE, put_length] <;> omega)) | (refine ArOk.mono ‹ArOk _ _ _ _ _› ?_ <;> (simp only [lnE, put_length] <;> omega)) | (refine ArOk.hid ‹ArOk _ _ _ _ _› ?_ ?_ <;> (simp only [lnE, put_length] <;> omega)) | (refine ArOk.hid0 ‹ArOk _ _ _ _ _› ?_ ?_ <;> (simp only [lnE, put_length] <;> omega)) | ((intro xr hxr; simp [AM.refs, refsF, refsC] at hxr) <;> (simp only [lnE, put_length] <;> omega)) | fail)) only [syA, syB, argFr, D, E, T, C, undefv, eqF, aeq, sheqs, sheq, rdCells, cellsOf, fill, putAt, if_true, if_false, reduceIte, ↓reduceIte, reduceCtorEq, eq_self, Nat.reduceEqDiff, Nat.reduceAdd, Nat.reduceSub, Nat.reduceMul, Nat.reduceLT, Nat.reduceLeDiff, Nat.reducePow, Nat.reduceDiv, Nat.reduceMod, Int.reduceLT, Int.reduceLE, Int.reduceGT, Int.reduceGE, Int.reduceToNat, Int.reducePow, Int.reduceNeg, Int.reduceBEq, Int.reduceBNe, Int.reduceEq, Int.reduceAdd, Int.reduceSub, Int.reduceMul, cellv, sc, flatv, refs, refsF, refsC, syR, Int.le_refl, hF.not0, hF.not1, hF.up0, hF.up1, k.hr, k.hq, c1, hcell, r0, t0, hc', hg, hst, hb1, hb2, hlm, hss, e1]
      exact ⟨fr, by first | exact e1 | rfl, e2⟩
theorem rfl_out (hF : Fit hp.length L H) (k : ArOk hp.length r q H A) {s : Nat} {x : List Nat} {B4 : Blk} (hx : Holds A s x) (hm : x.length ≤ 65536) :
    ∀ (j n : Nat), n + j = 256 → ∃ fr,
    Liter env lb55_1 [3, 4, 0, 6, 5] (hp.length + 3) [(3, .pointer (some ⟨hp.length, 0, some 0⟩)), (4, .pointer (some ⟨hp.length + 1, 0, some 0⟩)), (0, arP r), (6, .int .i64 n), (5, .pointer (some ⟨hp.length + 2, 0, some 0⟩))]
      ⟨put (hp ++ [.cells 0 true [.int .i64 s, .int .i64 x.length], B4, .cells 0 true (lP x n)]) r q A, L, H, []⟩ =
      some (.exit 0, fr, ⟨put (hp ++ [.cells 0 true [.int .i64 s, .int .i64 x.length], B4, .cells 0 true (lP x 256)]) r q A, L, H, []⟩) ∧ fr.get 4 = some (.pointer (some ⟨hp.length + 1, 0, some 0⟩)) ∧ fr.get 5 = some (.pointer (some ⟨hp.length + 2, 0, some 0⟩))
  | 0, n, e => by
    obtain rfl : n = 256 := by omega
    have hrl := k.r_lt
    have hql := k.q_lt
    have hne := k.ne
    rw [iter_by lb55_1.eq_1]
    simp (disch := (first | omega | (simp only [lnE, put_length] <;> omega) | (refine Fit.mono ‹Fit _ _ _› ?_ <;> (simp only [lnE, put_length] <;> omega)) | (refine Fit.draw ‹Fit _ _ _› ?_ ?_ <;> (simp only [lnE, put_length] <;> omega)) | (refine Fit.hid1 ‹Fit _ _ _› ?_ ?_ <;> (simp only [lnE, put_length] <;> omega)) | (refine Fit.hidc1 ‹Fit _ _ _› ?_ ?_ <;> (simp only [lnE, put_length] <;> omega)) | (refine Fit.hidc2 ‹Fit _ _ _› ?_ ?_ ?_ <;> (simp only [lnE, put_length] <;> omega)) | (refine Fit.draw1 ‹Fit _ _ _› ?_ ?_ ?_ <;> (simp only [lnE, put_length] <;> omega)) | (refine Fit.range0 ?_ ?_ <;> (simp only [lnE, put_length] <;> omega)) | (refine ArOk.mono ‹ArOk _ _ _ _ _› ?_ <;> (simp only [lnE, put_length] <;> omega)) | (refine ArOk.hid ‹ArOk _ _ _ _ _› ?_ ?_ <;> (simp only [lnE, put_length] <;> omega)) | (refine ArOk.hid0 ‹ArOk _ _ _ _ _› ?_ ?_ <;> (simp only [lnE, put_length] <;> omega)) | ((intro xr hxr; simp [AM.refs, refsF, refsC] at hxr) <;> (simp only [lnE, put_length] <;> omega)) | fail)) only [syA, syB, argFr, D, E, T, C, undefv, eqF, aeq, sheqs, sheq, rdCells, cellsOf, fill, putAt, if_true, if_false, reduceIte, ↓reduceIte, reduceCtorEq, eq_self, Nat.reduceEqDiff, Nat.reduceAdd, Nat.reduceSub, Nat.reduceMul, Nat.reduceLT, Nat.reduceLeDiff, Nat.reducePow, Nat.reduceDiv, Nat.reduceMod, Int.reduceLT, Int.reduceLE, Int.reduceGT, Int.reduceGE, Int.reduceToNat, Int.reducePow, Int.reduceNeg, Int.reduceBEq, Int.reduceBNe, Int.reduceEq, Int.reduceAdd, Int.reduceSub, Int.reduceMul, cellv, sc, flatv, refs, refsF, refsC, syR, Int.le_refl, hF.not0, hF.not1, hF.up0, hF.up1, k.hr, k.hq]
    exact ⟨_, rfl, rfl, rfl⟩
  | j + 1, n, e => by
    have hn : n < 256 := by omega
    have hrl := k.r_lt
    have hql := k.q_lt
    have hne := k.ne
    have hlv := hx.live
    have hl1 := k.live1
    have hsz := k.size
    obtain ⟨fr, e1, e2⟩ := rfl_out hF k hx hm (B4 := B4) j (n + 1) (by omega)
    obtain ⟨fr2, f1, f2, f3, f4, f5, f6⟩ := rfl_in hF k hx hm (lP_len x n) hn (B4 := B4) x.length 0 (by omega)
    rw [List.take_zero, csm_nil, lP_set x hn] at f1
    simp only [Int.natCast_zero, lP_set0 x hn, Nat.add_zero] at f1
    have hw := fun nw s n => rfhas_walk (d := []) (L := L) (H := H) (hp := hp ++ nw) (r := r) (q := q) (hF.mono (by simp)) (k.mono (by simp)) s n
    have hhas := hx.has
    have h1 : (n : Int) < 256 := by omega
    simp only [Int.natCast_add, Int.natCast_one] at e1
    rw [iter_by lb55_1.eq_1]
    simp (disch := (first | omega | (simp only [lnE, put_length] <;> omega) | (refine Fit.mono ‹Fit _ _ _› ?_ <;> (simp only [lnE, put_length] <;> omega)) | (refine Fit.draw ‹Fit _ _ _› ?_ ?_ <;> (simp only [lnE, put_length] <;> omega)) | (refine Fit.hid1 ‹Fit _ _ _› ?_ ?_ <;> (simp only [lnE, put_length] <;> omega)) | (refine Fit.hidc1 ‹Fit _ _ _› ?_ ?_ <;> (simp only [lnE, put_length] <;> omega)) | (refine Fit.hidc2 ‹Fit _ _ _› ?_ ?_ ?_ <;> (simp only [lnE, put_length] <;> omega)) | (refine Fit.draw1 ‹Fit _ _ _› ?_ ?_ ?_ <;> (simp only [lnE, put_length] <;> omega)) | (refine Fit.range0 ?_ ?_ <;> (simp only [lnE, put_length] <;> omega)) | (refine ArOk.mono ‹ArOk _ _ _ _ _› ?_ <;> (simp only [lnE, put_length] <;> omega)) | (refine ArOk.hid ‹ArOk _ _ _ _ _› ?_ ?_ <;> (simp only [lnE, put_length] <;> omega)) | (refine ArOk.hid0 ‹ArOk _ _ _ _ _› ?_ ?_ <;> (simp only [lnE, put_length] <;> omega)) | ((intro xr hxr; simp [AM.refs, refsF, refsC] at hxr) <;> (simp only [lnE, put_length] <;> omega)) | fail)) only [syA, syB, argFr, D, E, T, C, undefv, eqF, aeq, sheqs, sheq, rdCells, cellsOf, fill, putAt, if_true, if_false, reduceIte, ↓reduceIte, reduceCtorEq, eq_self, Nat.reduceEqDiff, Nat.reduceAdd, Nat.reduceSub, Nat.reduceMul, Nat.reduceLT, Nat.reduceLeDiff, Nat.reducePow, Nat.reduceDiv, Nat.reduceMod, Int.reduceLT, Int.reduceLE, Int.reduceGT, Int.reduceGE, Int.reduceToNat, Int.reducePow, Int.reduceNeg, Int.reduceBEq, Int.reduceBNe, Int.reduceEq, Int.reduceAdd, Int.reduceSub, Int.reduceMul, cellv, sc, flatv, refs, refsF, refsC, syR, Int.le_refl, hF.not0, hF.not1, hF.up0, hF.up1, k.hr, k.hq, h1, hw, hhas, f1, f2, f3, f4, f5, f6, e1]
    exact ⟨fr, rfl, e2⟩
theorem rfless_walk (hF : Fit hp.length L H) (k : ArOk hp.length r q H A) {s : Nat} {x : List Nat} (hx : Holds A s x) (hm : x.length ≤ 65536) :
    Lrun env (.func 55) [arP r, .agg #[.int .i64 s, .int .i64 x.length]] ⟨put hp r q A, L, H, d⟩ = some (.agg (lP x 256).toArray, ⟨put hp r q A, L, H, d⟩) := by
  have hrl := k.r_lt
  have hql := k.q_lt
  have hne := k.ne
  obtain ⟨fr, e1, e2, e3⟩ := rfl_out hF k hx hm (B4 := .cells 0 true (c256 [])) 256 0 (by omega)
  rw [← lP_zero] at e1
  simp only [Int.natCast_zero] at e1
  have hput : putAt (c256 []) 0 (lP x 256) = lP x 256 := putAt_own (by rw [c256_len, lP_len])
  rw [Lrun_sym 55 _ _ fn55]
  simp (disch := (first | omega | (simp only [lnE, put_length] <;> omega) | (refine Fit.mono ‹Fit _ _ _› ?_ <;> (simp only [lnE, put_length] <;> omega)) | (refine Fit.draw ‹Fit _ _ _› ?_ ?_ <;> (simp only [lnE, put_length] <;> omega)) | (refine Fit.hid1 ‹Fit _ _ _› ?_ ?_ <;> (simp only [lnE, put_length] <;> omega)) | (refine Fit.hidc1 ‹Fit _ _ _› ?_ ?_ <;> (simp only [lnE, put_length] <;> omega)) | (refine Fit.hidc2 ‹Fit _ _ _› ?_ ?_ ?_ <;> (simp only [lnE, put_length] <;> omega)) | (refine Fit.draw1 ‹Fit _ _ _› ?_ ?_ ?_ <;> (simp only [lnE, put_length] <;> omega)) | (refine Fit.range0 ?_ ?_ <;> (simp only [lnE, put_length] <;> omega)) | (refine ArOk.mono ‹ArOk _ _ _ _ _› ?_ <;> (simp only [lnE, put_length] <;> omega)) | (refine ArOk.hid ‹ArOk _ _ _ _ _› ?_ ?_ <;> (simp only [lnE, put_length] <;> omega)) | (refine ArOk.hid0 ‹ArOk _ _ _ _ _› ?_ ?_ <;> (simp only [lnE, put_length] <;> omega)) | ((intro xr hxr; simp [AM.refs, refsF, refsC] at hxr) <;> (simp only [lnE, put_length] <;> omega)) | fail)) only [syA, syB, argFr, D, E, T, C, undefv, eqF, aeq, sheqs, sheq, rdCells, cellsOf, fill, putAt, if_true, if_false, reduceIte, ↓reduceIte, reduceCtorEq, eq_self, Nat.reduceEqDiff, Nat.reduceAdd, Nat.reduceSub, Nat.reduceMul, Nat.reduceLT, Nat.reduceLeDiff, Nat.reducePow, Nat.reduceDiv, Nat.reduceMod, Int.reduceLT, Int.reduceLE, Int.reduceGT, Int.reduceGE, Int.reduceToNat, Int.reducePow, Int.reduceNeg, Int.reduceBEq, Int.reduceBNe, Int.reduceEq, Int.reduceAdd, Int.reduceSub, Int.reduceMul, cellv, sc, flatv, refs, refsF, refsC, syR, Int.le_refl, hF.not0, hF.not1, hF.up0, hF.up1, k.hr, k.hq, ac55, c256_nil, e1, e2, e3, lP_len, c256_len, lP_cellv, lP_scs, lP_refs, lP_take, hput]
theorem rfless_none (hF : Fit hp.length L H) (k : ArOk hp.length r q H A) {s m : Int} (hh : A.has s m = false) :
    Lrun env (.func 55) [arP r, .agg #[.int .i64 s, .int .i64 m]] ⟨put hp r q A, L, H, d⟩ = some (.agg (lP [] 256).toArray, ⟨put hp r q A, L, H, d⟩) := by
  have hrl := k.r_lt
  have hql := k.q_lt
  have hne := k.ne
  have hw := fun nw s n => rfhas_walk (d := []) (L := L) (H := H) (hp := hp ++ nw) (r := r) (q := q) (hF.mono (by simp)) (k.mono (by simp)) s n
  have hput : putAt (c256 []) 0 (lP [] 256) = lP [] 256 := putAt_own (by rw [c256_len, lP_len])
  have it := iter_by (env := env) lb55_1.eq_1
  have hl := lP_nil 256
  have hput2 : putAt (lP [] 256) 0 (lP [] 256) = lP [] 256 := putAt_own rfl
  rw [Lrun_sym 55 _ _ fn55]
  simp (disch := (first | omega | (simp only [lnE, put_length] <;> omega) | (refine Fit.mono ‹Fit _ _ _› ?_ <;> (simp only [lnE, put_length] <;> omega)) | (refine Fit.draw ‹Fit _ _ _› ?_ ?_ <;> (simp only [lnE, put_length] <;> omega)) | (refine Fit.hid1 ‹Fit _ _ _› ?_ ?_ <;> (simp only [lnE, put_length] <;> omega)) | (refine Fit.hidc1 ‹Fit _ _ _› ?_ ?_ <;> (simp only [lnE, put_length] <;> omega)) | (refine Fit.hidc2 ‹Fit _ _ _› ?_ ?_ ?_ <;> (simp only [lnE, put_length] <;> omega)) | (refine Fit.draw1 ‹Fit _ _ _› ?_ ?_ ?_ <;> (simp only [lnE, put_length] <;> omega)) | (refine Fit.range0 ?_ ?_ <;> (simp only [lnE, put_length] <;> omega)) | (refine ArOk.mono ‹ArOk _ _ _ _ _› ?_ <;> (simp only [lnE, put_length] <;> omega)) | (refine ArOk.hid ‹ArOk _ _ _ _ _› ?_ ?_ <;> (simp only [lnE, put_length] <;> omega)) | (refine ArOk.hid0 ‹ArOk _ _ _ _ _› ?_ ?_ <;> (simp only [lnE, put_length] <;> omega)) | ((intro xr hxr; simp [AM.refs, refsF, refsC] at hxr) <;> (simp only [lnE, put_length] <;> omega)) | fail)) only [syA, syB, argFr, D, E, T, C, undefv, eqF, aeq, sheqs, sheq, rdCells, cellsOf, fill, putAt, if_true, if_false, reduceIte, ↓reduceIte, reduceCtorEq, eq_self, Nat.reduceEqDiff, Nat.reduceAdd, Nat.reduceSub, Nat.reduceMul, Nat.reduceLT, Nat.reduceLeDiff, Nat.reducePow, Nat.reduceDiv, Nat.reduceMod, Int.reduceLT, Int.reduceLE, Int.reduceGT, Int.reduceGE, Int.reduceToNat, Int.reducePow, Int.reduceNeg, Int.reduceBEq, Int.reduceBNe, Int.reduceEq, Int.reduceAdd, Int.reduceSub, Int.reduceMul, cellv, sc, flatv, refs, refsF, refsC, syR, Int.le_refl, hF.not0, hF.not1, hF.up0, hF.up1, k.hr, k.hq, ac55, c256_nil, ← hl, it, hw, hh, lP_len, c256_len, lP_cellv, lP_scs, lP_refs, lP_take, hput2]
theorem lless_loop3 (hF : Fit hp.length L H) (k : ArOk hp.length r q H A) {x : List Nat} {B1 : Blk} (hm : x.length ≤ 65536) :
    ∀ (j n : Nat), n + j = 256 → ∃ fr,
    Liter env lb54_0 [8, 24, 4, 5] (hp.length + 3) [(8, .int .i64 (csm x n : Nat)), (24, .int .i64 n), (4, .pointer (some ⟨hp.length + 1, 0, some 0⟩)), (5, .pointer (some ⟨hp.length + 2, 0, some 0⟩))]
      ⟨put (hp ++ [B1, .cells 0 true (lP x n), .cells 0 true (c256 x)]) r q A, L, H, []⟩ =
      some (.exit 2, fr, ⟨put (hp ++ [B1, .cells 0 true (lP x 256), .cells 0 true (c256 x)]) r q A, L, H, []⟩) ∧ fr.get 4 = some (.pointer (some ⟨hp.length + 1, 0, some 0⟩))
  | 0, n, e => by
    obtain rfl : n = 256 := by omega
    rw [iter_by lb54_0.eq_1]
    simp (disch := (first | omega | (simp only [lnE, put_length] <;> omega) | (refine Fit.mono ‹Fit _ _ _› ?_ <;> (simp only [lnE, put_length] <;> omega)) | (refine Fit.draw ‹Fit _ _ _› ?_ ?_ <;> (simp only [lnE, put_length] <;> omega)) | (refine Fit.hid1 ‹Fit _ _ _› ?_ ?_ <;> (simp only [lnE, put_length] <;> omega)) | (refine Fit.hidc1 ‹Fit _ _ _› ?_ ?_ <;> (simp only [lnE, put_length] <;> omega)) | (refine Fit.hidc2 ‹Fit _ _ _› ?_ ?_ ?_ <;> (simp only [lnE, put_length] <;> omega)) | (refine Fit.draw1 ‹Fit _ _ _› ?_ ?_ ?_ <;> (simp only [lnE, put_length] <;> omega)) | (refine Fit.range0 ?_ ?_ <;> (simp only [lnE, put_length] <;> omega)) | (refine ArOk.mono ‹ArOk _ _ _ _ _› ?_ <;> (simp only [lnE, put_length] <;> omega)) | (refine ArOk.hid ‹ArOk _ _ _ _ _› ?_ ?_ <;> (simp only [lnE, put_length] <;> omega)) | (refine ArOk.hid0 ‹ArOk _ _ _ _ _› ?_ ?_ <;> (simp only [lnE, put_length] <;> omega)) | ((intro xr hxr; simp [AM.refs, refsF, refsC] at hxr) <;> (simp only [lnE, put_length] <;> omega)) | fail)) only [syA, syB, argFr, D, E, T, C, undefv, eqF, aeq, sheqs, sheq, rdCells, cellsOf, fill, putAt, if_true, if_false, reduceIte, ↓reduceIte, reduceCtorEq, eq_self, Nat.reduceEqDiff, Nat.reduceAdd, Nat.reduceSub, Nat.reduceMul, Nat.reduceLT, Nat.reduceLeDiff, Nat.reducePow, Nat.reduceDiv, Nat.reduceMod, Int.reduceLT, Int.reduceLE, Int.reduceGT, Int.reduceGE, Int.reduceToNat, Int.reducePow, Int.reduceNeg, Int.reduceBEq, Int.reduceBNe, Int.reduceEq, Int.reduceAdd, Int.reduceSub, Int.reduceMul, cellv, sc, flatv, refs, refsF, refsC, syR, Int.le_refl, hF.not0, hF.not1, hF.up0, hF.up1, k.hr, k.hq]
    exact ⟨_, rfl, rfl⟩
  | j + 1, n, e => by
    have hn : n < 256 := by omega
    have hrl := k.r_lt
    have hql := k.q_lt
    obtain ⟨fr, e1, e2⟩ := lless_loop3 hF k hm (x := x) (B1 := B1) j (n + 1) (by omega)
    have h1 : (n : Int) < 256 := by omega
    have h2 : 0 ≤ (n : Int) ∧ (n : Int) < 256 := by omega
    have h5 : n + 1 ≤ 256 := by omega
    have hb := csm_le x (n + 1)
    have hb2 : (n + 1) * x.length ≤ 256 * 65536 := Nat.mul_le_mul (by omega) hm
    have hadd : ((csm x n : Nat) : Int) + (x.count n : Nat) = (csm x (n + 1) : Nat) := by simp only [csm]; omega
    simp only [Int.natCast_add, Int.natCast_one] at e1
    rw [iter_by lb54_0.eq_1]
    simp (disch := (first | omega | (simp only [lnE, put_length] <;> omega) | (refine Fit.mono ‹Fit _ _ _› ?_ <;> (simp only [lnE, put_length] <;> omega)) | (refine Fit.draw ‹Fit _ _ _› ?_ ?_ <;> (simp only [lnE, put_length] <;> omega)) | (refine Fit.hid1 ‹Fit _ _ _› ?_ ?_ <;> (simp only [lnE, put_length] <;> omega)) | (refine Fit.hidc1 ‹Fit _ _ _› ?_ ?_ <;> (simp only [lnE, put_length] <;> omega)) | (refine Fit.hidc2 ‹Fit _ _ _› ?_ ?_ ?_ <;> (simp only [lnE, put_length] <;> omega)) | (refine Fit.draw1 ‹Fit _ _ _› ?_ ?_ ?_ <;> (simp only [lnE, put_length] <;> omega)) | (refine Fit.range0 ?_ ?_ <;> (simp only [lnE, put_length] <;> omega)) | (refine ArOk.mono ‹ArOk _ _ _ _ _› ?_ <;> (simp only [lnE, put_length] <;> omega)) | (refine ArOk.hid ‹ArOk _ _ _ _ _› ?_ ?_ <;> (simp only [lnE, put_length] <;> omega)) | (refine ArOk.hid0 ‹ArOk _ _ _ _ _› ?_ ?_ <;> (simp only [lnE, put_length] <;> omega)) | ((intro xr hxr; simp [AM.refs, refsF, refsC] at hxr) <;> (simp only [lnE, put_length] <;> omega)) | fail)) only [syA, syB, argFr, D, E, T, C, undefv, eqF, aeq, sheqs, sheq, rdCells, cellsOf, fill, putAt, if_true, if_false, reduceIte, ↓reduceIte, reduceCtorEq, eq_self, Nat.reduceEqDiff, Nat.reduceAdd, Nat.reduceSub, Nat.reduceMul, Nat.reduceLT, Nat.reduceLeDiff, Nat.reducePow, Nat.reduceDiv, Nat.reduceMod, Int.reduceLT, Int.reduceLE, Int.reduceGT, Int.reduceGE, Int.reduceToNat, Int.reducePow, Int.reduceNeg, Int.reduceBEq, Int.reduceBNe, Int.reduceEq, Int.reduceAdd, Int.reduceSub, Int.reduceMul, cellv, sc, flatv, refs, refsF, refsC, syR, Int.le_refl, hF.not0, hF.not1, hF.up0, hF.up1, k.hr, k.hq, h1, h2, h5, c256_at _ hn, lP_len, lP_set x hn, hadd, e1]
    exact ⟨fr, rfl, e2⟩
theorem less_none (hF : Fit hp.length L H) (k : ArOk hp.length r q H A) {s m : Int} (hh : A.has s m = false) :
    Lrun env (.func 54) [arP r, .agg #[.int .i64 s, .int .i64 m]] ⟨put hp r q A, L, H, d⟩ = some (.agg (lP [] 256).toArray, ⟨put hp r q A, L, H, d⟩) := by
  have hrl := k.r_lt
  have hql := k.q_lt
  have hne := k.ne
  have hlo : A.loadO s m = none := by unfold Arn.loadO; rw [if_neg (by rw [hh]; simp)]
  have it := iter_by (env := env) lb54_1.eq_1
  obtain ⟨fr2, f1, f2⟩ := lless_loop3 (hp := hp) (L := L) (H := H) hF k (x := []) (B1 := .cells 0 true [.int .i64 s, .int .i64 m]) (by simp) 256 0 rfl
  rw [← lP_zero] at f1
  simp only [csm, Int.natCast_zero] at f1
  have lw := fun nw => load_walk (d := []) (L := L) (H := H) (hp := hp ++ nw) (r := r) (q := q) (hF.mono (by simp)) (k.mono (by simp)) s m
  simp only [hlo] at lw
  have hput : putAt (lP [] 256) 0 (lP [] 256) = lP [] 256 := putAt_own rfl
  rw [Lrun_sym 54 _ _ fn54]
  simp (disch := (first | omega | (simp only [lnE, put_length] <;> omega) | (refine Fit.mono ‹Fit _ _ _› ?_ <;> (simp only [lnE, put_length] <;> omega)) | (refine Fit.draw ‹Fit _ _ _› ?_ ?_ <;> (simp only [lnE, put_length] <;> omega)) | (refine Fit.hid1 ‹Fit _ _ _› ?_ ?_ <;> (simp only [lnE, put_length] <;> omega)) | (refine Fit.hidc1 ‹Fit _ _ _› ?_ ?_ <;> (simp only [lnE, put_length] <;> omega)) | (refine Fit.hidc2 ‹Fit _ _ _› ?_ ?_ ?_ <;> (simp only [lnE, put_length] <;> omega)) | (refine Fit.draw1 ‹Fit _ _ _› ?_ ?_ ?_ <;> (simp only [lnE, put_length] <;> omega)) | (refine Fit.range0 ?_ ?_ <;> (simp only [lnE, put_length] <;> omega)) | (refine ArOk.mono ‹ArOk _ _ _ _ _› ?_ <;> (simp only [lnE, put_length] <;> omega)) | (refine ArOk.hid ‹ArOk _ _ _ _ _› ?_ ?_ <;> (simp only [lnE, put_length] <;> omega)) | (refine ArOk.hid0 ‹ArOk _ _ _ _ _› ?_ ?_ <;> (simp only [lnE, put_length] <;> omega)) | ((intro xr hxr; simp [AM.refs, refsF, refsC] at hxr) <;> (simp only [lnE, put_length] <;> omega)) | fail)) only [syA, syB, argFr, D, E, T, C, undefv, eqF, aeq, sheqs, sheq, rdCells, cellsOf, fill, putAt, if_true, if_false, reduceIte, ↓reduceIte, reduceCtorEq, eq_self, Nat.reduceEqDiff, Nat.reduceAdd, Nat.reduceSub, Nat.reduceMul, Nat.reduceLT, Nat.reduceLeDiff, Nat.reducePow, Nat.reduceDiv, Nat.reduceMod, Int.reduceLT, Int.reduceLE, Int.reduceGT, Int.reduceGE, Int.reduceToNat, Int.reducePow, Int.reduceNeg, Int.reduceBEq, Int.reduceBNe, Int.reduceEq, Int.reduceAdd, Int.reduceSub, Int.reduceMul, cellv, sc, flatv, refs, refsF, refsC, syR, Int.le_refl, hF.not0, hF.not1, hF.up0, hF.up1, k.hr, k.hq, ac54, c256_nil, lw, sl_none, slB_none, it, f1, f2, lP_len, lP_cellv, lP_scs, lP_refs, lP_take, hput]
end
end ArA
end Go.Proofs.Ytfefeikkjebfoaa
