/-
  RANKS: the reference's Count and the loops of its Make on the abstract machine. Conditions: none.
-/
import Derived.Test.YtfefeikkjebfoaaRmC
set_option linter.all false
namespace Go.Proofs.Ytfefeikkjebfoaa
namespace ArA
open Go Go.RowKit AM ArEnv
section
variable {hp : List Blk} {L : Nat} {H d : List Nat} {r q : Nat} {A : Arn}
theorem rfc_loop {hq : List Blk} {a : Option Addr} {e p c : Nat} {x : List Nat} (R : Rd ⟨hq, L, H, []⟩ (.slice a x.length e) x) (hF : Fit hq.length L H) (hp2 : p ≤ x.length) (hm : x.length ≤ 65536) :
    ∀ (j i : Nat), i + j = p → ∃ fr, Liter env lb74_0 [7, 8, 2, 0, 1] hq.length [(7, .int .i64 ((x.take i).count c : Nat)), (8, .int .i64 i), (2, .int .i64 p), (0, .slice a x.length e), (1, .int .u8 c)] ⟨hq, L, H, []⟩
      = some (.exit 0, fr, ⟨hq, L, H, []⟩) ∧ fr.get 7 = some (.int .i64 ((x.take p).count c : Nat))
  | 0, i, h => by
    obtain rfl : i = p := by omega
    rw [iter_by lb74_0.eq_1]
    simp (disch := (first | omega | (simp only [lnE] <;> omega) | (refine Fit.mono ‹Fit _ _ _› ?_ <;> (simp only [lnE] <;> omega)) | (refine Fit.draw ‹Fit _ _ _› ?_ ?_ <;> (simp only [lnE] <;> omega)) | (refine Fit.hid1 ‹Fit _ _ _› ?_ ?_ <;> (simp only [lnE] <;> omega)) | (refine Fit.hidc1 ‹Fit _ _ _› ?_ ?_ <;> (simp only [lnE] <;> omega)) | (refine Fit.hidc2 ‹Fit _ _ _› ?_ ?_ ?_ <;> (simp only [lnE] <;> omega)) | (refine Fit.draw1 ‹Fit _ _ _› ?_ ?_ ?_ <;> (simp only [lnE] <;> omega)) | (refine Fit.range0 ?_ ?_ <;> (simp only [lnE] <;> omega)) | fail)) only [syA, syB, argFr, D, E, T, C, undefv, eqF, aeq, sheqs, sheq, rdCells, cellsOf, fill, putAt, if_true, if_false, reduceIte, ↓reduceIte, reduceCtorEq, eq_self, Nat.reduceEqDiff, Nat.reduceAdd, Nat.reduceSub, Nat.reduceMul, Nat.reduceLT, Nat.reduceLeDiff, Nat.reducePow, Nat.reduceDiv, Nat.reduceMod, Int.reduceLT, Int.reduceLE, Int.reduceGT, Int.reduceGE, Int.reduceToNat, Int.reducePow, Int.reduceNeg, Int.reduceBEq, Int.reduceBNe, Int.reduceEq, Int.reduceAdd, Int.reduceSub, Int.reduceMul, cellv, sc, flatv, refs, refsF, refsC]
    exact ⟨_, rfl, rfl⟩
  | j + 1, i, h => by
    have hi : i < x.length := by omega
    obtain ⟨fr, e1, e2⟩ := rfc_loop R hF hp2 hm (c := c) j (i + 1) (by omega)
    obtain ⟨b1, o1, g1, pl1, cs1, rfl, _, hh1, hb1, hc1⟩ := R.at_ hi
    simp only at hh1 hb1
    have c1 : (i : Int) < p := by omega
    have c2 : (i : Int) < x.length := by omega
    have c3 : 0 ≤ (i : Int) ∧ (i : Int) < x.length := by omega
    have hct := cnt_take hi c
    have hcl : (x.take i).count c ≤ 65536 := Nat.le_trans List.count_le_length (by simp; omega)
    rw [iter_by lb74_0.eq_1]
    simp only [Int.natCast_add, Int.natCast_one] at e1
    by_cases hc : x[i] = c
    · rw [if_pos hc] at hct
      rw [hct] at e1
      have hc' : ((x[i] : Int) == c) = true := by rw [hc]; simp
      simp only [Int.natCast_add, Int.natCast_one] at e1
      simp (disch := (first | omega | (simp only [lnE] <;> omega) | (refine Fit.mono ‹Fit _ _ _› ?_ <;> (simp only [lnE] <;> omega)) | (refine Fit.draw ‹Fit _ _ _› ?_ ?_ <;> (simp only [lnE] <;> omega)) | (refine Fit.hid1 ‹Fit _ _ _› ?_ ?_ <;> (simp only [lnE] <;> omega)) | (refine Fit.hidc1 ‹Fit _ _ _› ?_ ?_ <;> (simp only [lnE] <;> omega)) | (refine Fit.hidc2 ‹Fit _ _ _› ?_ ?_ ?_ <;> (simp only [lnE] <;> omega)) | (refine Fit.draw1 ‹Fit _ _ _› ?_ ?_ ?_ <;> (simp only [lnE] <;> omega)) | (refine Fit.range0 ?_ ?_ <;> (simp only [lnE] <;> omega)) | fail)) only [syA, syB, argFr, D, E, T, C, undefv, eqF, aeq, sheqs, sheq, rdCells, cellsOf, fill, putAt, if_true, if_false, reduceIte, ↓reduceIte, reduceCtorEq, eq_self, Nat.reduceEqDiff, Nat.reduceAdd, Nat.reduceSub, Nat.reduceMul, Nat.reduceLT, Nat.reduceLeDiff, Nat.reducePow, Nat.reduceDiv, Nat.reduceMod, Int.reduceLT, Int.reduceLE, Int.reduceGT, Int.reduceGE, Int.reduceToNat, Int.reducePow, Int.reduceNeg, Int.reduceBEq, Int.reduceBNe, Int.reduceEq, Int.reduceAdd, Int.reduceSub, Int.reduceMul, cellv, sc, flatv, refs, refsF, refsC, c1, c2, c3, hh1, hb1, hc1, hc', e1]
      exact ⟨fr, by first | exact e1 | rfl, e2⟩
    · rw [if_neg hc, Nat.add_zero] at hct
      rw [hct] at e1
      have hc' : ((x[i] : Int) == c) = false := by rw [beq_eq_false_iff_ne]; omega
      simp (disch := (first | omega | (simp only [lnE] <;> omega) | (refine Fit.mono ‹Fit _ _ _› ?_ <;> (simp only [lnE] <;> omega)) | (refine Fit.draw ‹Fit _ _ _› ?_ ?_ <;> (simp only [lnE] <;> omega)) | (refine Fit.hid1 ‹Fit _ _ _› ?_ ?_ <;> (simp only [lnE] <;> omega)) | (refine Fit.hidc1 ‹Fit _ _ _› ?_ ?_ <;> (simp only [lnE] <;> omega)) | (refine Fit.hidc2 ‹Fit _ _ _› ?_ ?_ ?_ <;> (simp only [lnE] <;> omega)) | (refine Fit.draw1 ‹Fit _ _ _› ?_ ?_ ?_ <;> (simp only [lnE] <;> omega)) | (refine Fit.range0 ?_ ?_ <;> (simp only [lnE] <;> omega)) | fail)) only [syA, syB, argFr, D, E, T, C, undefv, eqF, aeq, sheqs, sheq, rdCells, cellsOf, fill, putAt, if_true, if_false, reduceIte, ↓reduceIte, reduceCtorEq, eq_self, Nat.reduceEqDiff, Nat.reduceAdd, Nat.reduceSub, Nat.reduceMul, Nat.reduceLT, Nat.reduceLeDiff, Nat.reducePow, Nat.reduceDiv, Nat.reduceMod, Int.reduceLT, Int.reduceLE, Int.reduceGT, Int.reduceGE, Int.reduceToNat, Int.reducePow, Int.reduceNeg, Int.reduceBEq, Int.reduceBNe, Int.reduceEq, Int.reduceAdd, Int.reduceSub, Int.reduceMul, cellv, sc, flatv, refs, refsF, refsC, c1, c2, c3, hh1, hb1, hc1, hc', e1]
      exact ⟨fr, by first | exact e1 | rfl, e2⟩
theorem rfc_walk {hq : List Blk} {v : Value} {p c : Nat} {x : List Nat} (R : Rd ⟨hq, L, H, []⟩ v x) (hF : Fit hq.length L H) (hp2 : p ≤ x.length) (hm : x.length ≤ 65536) :
    Lrun env (.func 74) [v, .int .u8 c, .int .i64 p] ⟨hq, L, H, d⟩ = some (.int .i64 ((x.take p).count c : Nat), ⟨hq, L, H, d⟩) := by
  obtain ⟨a, e, rfl⟩ := R.len
  obtain ⟨fr, e1, e2⟩ := rfc_loop (c := c) R hF hp2 hm p 0 (by omega)
  simp only [List.take_zero, List.count_nil, Int.natCast_zero] at e1
  rw [Lrun_sym 74 _ _ fn74]
  simp (disch := (first | omega | (simp only [lnE] <;> omega) | (refine Fit.mono ‹Fit _ _ _› ?_ <;> (simp only [lnE] <;> omega)) | (refine Fit.draw ‹Fit _ _ _› ?_ ?_ <;> (simp only [lnE] <;> omega)) | (refine Fit.hid1 ‹Fit _ _ _› ?_ ?_ <;> (simp only [lnE] <;> omega)) | (refine Fit.hidc1 ‹Fit _ _ _› ?_ ?_ <;> (simp only [lnE] <;> omega)) | (refine Fit.hidc2 ‹Fit _ _ _› ?_ ?_ ?_ <;> (simp only [lnE] <;> omega)) | (refine Fit.draw1 ‹Fit _ _ _› ?_ ?_ ?_ <;> (simp only [lnE] <;> omega)) | (refine Fit.range0 ?_ ?_ <;> (simp only [lnE] <;> omega)) | fail)) only [syA, syB, argFr, D, E, T, C, undefv, eqF, aeq, sheqs, sheq, rdCells, cellsOf, fill, putAt, if_true, if_false, reduceIte, ↓reduceIte, reduceCtorEq, eq_self, Nat.reduceEqDiff, Nat.reduceAdd, Nat.reduceSub, Nat.reduceMul, Nat.reduceLT, Nat.reduceLeDiff, Nat.reducePow, Nat.reduceDiv, Nat.reduceMod, Int.reduceLT, Int.reduceLE, Int.reduceGT, Int.reduceGE, Int.reduceToNat, Int.reducePow, Int.reduceNeg, Int.reduceBEq, Int.reduceBNe, Int.reduceEq, Int.reduceAdd, Int.reduceSub, Int.reduceMul, cellv, sc, flatv, refs, refsF, refsC, hF.not0, hF.not1, hF.up0, hF.up1, ac74, e1, e2]
theorem ArOk.put1 {n : Nat} {B : Arn} (k : ArOk n r q H B) (i : Nat) {x : Nat} (hx : x < 256) : ArOk n r q H ⟨B.bs.set i x, B.live, B.peak⟩ where
  r_lt := k.r_lt
  q_lt := k.q_lt
  ne := k.ne
  by_ := fun y hy => by
    rcases List.mem_or_eq_of_mem_set hy with h | h
    · exact k.by_ y h
    · omega
  live0 := k.live0
  live1 := by rw [List.length_set]; exact k.live1
  peak0 := k.peak0
  peak1 := by rw [List.length_set]; exact k.peak1
  size := by rw [List.length_set]; exact k.size
  hr := k.hr
  hq := k.hq
theorem rfm_put1 (hF : Fit hp.length L H) {B : Arn} (k : ArOk hp.length r q H B) (hw : L ≤ r ∧ L ≤ q) {at_ v kx : Nat} (ha : at_ < B.bs.length) (hv : v ≤ 65536) (hk : kx < 4) (v3 v5 v9 v11 v12 : Value) :
    Liter env lb57_0 [13, 10, 14, 3, 5, 9, 11, 12, 0] hp.length [(13, .int .i64 v), (10, .int .i64 at_), (14, .int .i64 kx), (3, v3), (5, v5), (9, v9), (11, v11), (12, v12), (0, arP r)] ⟨put hp r q B, L, H, []⟩
      = Liter env lb57_0 [13, 10, 14, 3, 5, 9, 11, 12, 0] hp.length [(13, .int .i64 (v / 256 : Nat)), (10, .int .i64 (at_ + 1 : Nat)), (14, .int .i64 (kx + 1 : Nat)), (3, v3), (5, v5), (9, v9), (11, v11), (12, v12), (0, arP r)] ⟨put hp r q ⟨B.bs.set at_ (v % 256), B.live, B.peak⟩, L, H, []⟩ := by
  have hrl := k.r_lt
  have hql := k.q_lt
  have hne := k.ne
  have hsz := k.size
  have hqL : (q < L) = False := eq_false (by omega)
  have c1 : (kx : Int) < 4 := by omega
  have c2 : 0 ≤ (at_ : Int) ∧ (at_ : Int) < B.bs.length := by omega
  have c3 : at_ + 1 ≤ B.bs.length := ha
  have d1 : (v : Int).tdiv 256 = ((v / 256 : Nat) : Int) := by rw [tdiv_pos (by omega)]; omega
  have d2 : (v : Int).tmod 256 = ((v % 256 : Nat) : Int) := by rw [tmod_pos (by omega)]; omega
  have d3 : v / 256 ≤ v := Nat.div_le_self _ _
  have d4 : v % 256 < 256 := Nat.mod_lt _ (by omega)
  have d5 : IntKind.u8.wrap ((v % 256 : Nat) : Int) = ((v % 256 : Nat) : Int) := by rw [wu8m]; omega
  have z1 := u8s_setN B.bs at_ (v % 256)
  generalize v / 256 = vd at *
  generalize v % 256 = vm at *
  rw [iter_by lb57_0.eq_1]
  simp only [Int.natCast_add, Int.natCast_one]
  simp (disch := (first | omega | (simp only [lnE, put_length] <;> omega) | (refine Fit.mono ‹Fit _ _ _› ?_ <;> (simp only [lnE, put_length] <;> omega)) | (refine Fit.draw ‹Fit _ _ _› ?_ ?_ <;> (simp only [lnE, put_length] <;> omega)) | (refine Fit.hid1 ‹Fit _ _ _› ?_ ?_ <;> (simp only [lnE, put_length] <;> omega)) | (refine Fit.hidc1 ‹Fit _ _ _› ?_ ?_ <;> (simp only [lnE, put_length] <;> omega)) | (refine Fit.hidc2 ‹Fit _ _ _› ?_ ?_ ?_ <;> (simp only [lnE, put_length] <;> omega)) | (refine Fit.draw1 ‹Fit _ _ _› ?_ ?_ ?_ <;> (simp only [lnE, put_length] <;> omega)) | (refine Fit.range0 ?_ ?_ <;> (simp only [lnE, put_length] <;> omega)) | (refine ArOk.mono ‹ArOk _ _ _ _ _› ?_ <;> (simp only [lnE, put_length] <;> omega)) | (refine ArOk.hid ‹ArOk _ _ _ _ _› ?_ ?_ <;> (simp only [lnE, put_length] <;> omega)) | (refine ArOk.hid0 ‹ArOk _ _ _ _ _› ?_ ?_ <;> (simp only [lnE, put_length] <;> omega)) | ((intro xr hxr; simp [AM.refs, refsF, refsC] at hxr) <;> (simp only [lnE, put_length] <;> omega)) | fail)) only [syA, syB, argFr, D, E, T, C, undefv, eqF, aeq, sheqs, sheq, rdCells, cellsOf, fill, putAt, if_true, if_false, reduceIte, ↓reduceIte, reduceCtorEq, eq_self, Nat.reduceEqDiff, Nat.reduceAdd, Nat.reduceSub, Nat.reduceMul, Nat.reduceLT, Nat.reduceLeDiff, Nat.reducePow, Nat.reduceDiv, Nat.reduceMod, Int.reduceLT, Int.reduceLE, Int.reduceGT, Int.reduceGE, Int.reduceToNat, Int.reducePow, Int.reduceNeg, Int.reduceBEq, Int.reduceBNe, Int.reduceEq, Int.reduceAdd, Int.reduceSub, Int.reduceMul, cellv, sc, flatv, refs, refsF, refsC, syR, Int.le_refl, hF.not0, hF.not1, hF.up0, hF.up1, k.hr, k.hq, c1, c2, c3, d1, d2, d5, z1, hqL, List.length_set]
theorem rfm_put4 (hF : Fit hp.length L H) {B : Arn} (k : ArOk hp.length r q H B) (hw : L ≤ r ∧ L ≤ q) {at_ v : Nat} (ha : at_ + 4 ≤ B.bs.length) (hv : v ≤ 65536) (v3 v5 v9 v11 v12 : Value) : ∃ fr,
    Liter env lb57_0 [13, 10, 14, 3, 5, 9, 11, 12, 0] hp.length [(13, .int .i64 v), (10, .int .i64 at_), (14, .int .i64 0), (3, v3), (5, v5), (9, v9), (11, v11), (12, v12), (0, arP r)] ⟨put hp r q B, L, H, []⟩
      = some (.exit 4, fr, ⟨put hp r q ⟨putN B.bs at_ (split4 v), B.live, B.peak⟩, L, H, []⟩) ∧ fr.get 10 = some (.int .i64 (at_ + 4 : Nat)) ∧ fr.get 3 = some v3 ∧ fr.get 5 = some v5 ∧ fr.get 9 = some v9 ∧ fr.get 11 = some v11 ∧ fr.get 12 = some v12 ∧ fr.get 0 = some (arP r) := by
  have k1 := ArOk.put1 k at_ (x := v % 256) (by omega)
  have k2 := ArOk.put1 k1 (at_ + 1) (x := v / 256 % 256) (by omega)
  have k3 := ArOk.put1 k2 (at_ + 1 + 1) (x := v / 256 / 256 % 256) (by omega)
  have s0 := rfm_put1 hF k hw (at_ := at_) (v := v) (kx := 0) (by omega) hv (by omega) v3 v5 v9 v11 v12
  have s1 := rfm_put1 hF k1 hw (at_ := at_ + 1) (v := v / 256) (kx := 0 + 1) (by simp only [List.length_set]; omega) (by omega) (by omega) v3 v5 v9 v11 v12
  have s2 := rfm_put1 hF k2 hw (at_ := at_ + 1 + 1) (v := v / 256 / 256) (kx := 0 + 1 + 1) (by simp only [List.length_set]; omega) (by omega) (by omega) v3 v5 v9 v11 v12
  have s3 := rfm_put1 hF k3 hw (at_ := at_ + 1 + 1 + 1) (v := v / 256 / 256 / 256) (kx := 0 + 1 + 1 + 1) (by simp only [List.length_set]; omega) (by omega) (by omega) v3 v5 v9 v11 v12
  simp only [Int.natCast_zero] at s0
  rw [s0, s1, s2, s3, iter_by lb57_0.eq_1]
  have e : putN B.bs at_ (split4 v) = (((B.bs.set at_ (v % 256)).set (at_ + 1) (v / 256 % 256)).set (at_ + 1 + 1) (v / 256 / 256 % 256)).set (at_ + 1 + 1 + 1) (v / 256 / 256 / 256 % 256) := by
    unfold split4
    rw [putN_four ha]
    simp only [Nat.div_div_eq_div_mul]
  rw [e]
  have hrl := k.r_lt
  have hql := k.q_lt
  have c1 : ¬ ((0 + 1 + 1 + 1 + 1 : Nat) : Int) < 4 := by omega
  have c2 : at_ + 4 = at_ + 1 + 1 + 1 + 1 := rfl
  rw [c2]
  generalize ((0 + 1 + 1 + 1 + 1 : Nat) : Int) = kx at *
  simp (disch := (first | omega | (simp only [lnE, put_length] <;> omega) | (refine Fit.mono ‹Fit _ _ _› ?_ <;> (simp only [lnE, put_length] <;> omega)) | (refine Fit.draw ‹Fit _ _ _› ?_ ?_ <;> (simp only [lnE, put_length] <;> omega)) | (refine Fit.hid1 ‹Fit _ _ _› ?_ ?_ <;> (simp only [lnE, put_length] <;> omega)) | (refine Fit.hidc1 ‹Fit _ _ _› ?_ ?_ <;> (simp only [lnE, put_length] <;> omega)) | (refine Fit.hidc2 ‹Fit _ _ _› ?_ ?_ ?_ <;> (simp only [lnE, put_length] <;> omega)) | (refine Fit.draw1 ‹Fit _ _ _› ?_ ?_ ?_ <;> (simp only [lnE, put_length] <;> omega)) | (refine Fit.range0 ?_ ?_ <;> (simp only [lnE, put_length] <;> omega)) | (refine ArOk.mono ‹ArOk _ _ _ _ _› ?_ <;> (simp only [lnE, put_length] <;> omega)) | (refine ArOk.hid ‹ArOk _ _ _ _ _› ?_ ?_ <;> (simp only [lnE, put_length] <;> omega)) | (refine ArOk.hid0 ‹ArOk _ _ _ _ _› ?_ ?_ <;> (simp only [lnE, put_length] <;> omega)) | ((intro xr hxr; simp [AM.refs, refsF, refsC] at hxr) <;> (simp only [lnE, put_length] <;> omega)) | fail)) only [syA, syB, argFr, D, E, T, C, undefv, eqF, aeq, sheqs, sheq, rdCells, cellsOf, fill, putAt, if_true, if_false, reduceIte, ↓reduceIte, reduceCtorEq, eq_self, Nat.reduceEqDiff, Nat.reduceAdd, Nat.reduceSub, Nat.reduceMul, Nat.reduceLT, Nat.reduceLeDiff, Nat.reducePow, Nat.reduceDiv, Nat.reduceMod, Int.reduceLT, Int.reduceLE, Int.reduceGT, Int.reduceGE, Int.reduceToNat, Int.reducePow, Int.reduceNeg, Int.reduceBEq, Int.reduceBNe, Int.reduceEq, Int.reduceAdd, Int.reduceSub, Int.reduceMul, cellv, sc, flatv, refs, refsF, refsC, syR, Int.le_refl, hF.not0, hF.not1, hF.up0, hF.up1, k.hr, k.hq, c1]
  exact ⟨_, rfl, rfl, rfl, rfl, rfl, rfl, rfl, rfl⟩
theorem rfm_row (hF : Fit hp.length L H) (k : ArOk hp.length r q H A) (hw : L ≤ r ∧ L ≤ q) {t z g kk jj : Nat} {x : List Nat} {v : Value} (hR : ∀ B, Rd ⟨put hp r q B, L, H, []⟩ v x) (hz : (t : Int) + z ≤ A.live) (hfit : 4 * (256 * g + 256) ≤ z) (hx : x.length ≤ 65536) (hg : (g + 1) * kk = jj) (hj : jj ≤ x.length) (v5 v3 : Value) :
    ∀ (j b : Nat), b + j = 256 → ∀ B, Marked A B t x kk (256 * g + b) → ∃ fr B',
    Liter env lb57_1 [10, 11, 9, 5, 3, 12, 0] hp.length [(10, .int .i64 (t + 4 * (256 * g + b) : Nat)), (11, .int .i64 jj), (9, v), (5, v5), (3, v3), (12, .int .i64 b), (0, arP r)] ⟨put hp r q B, L, H, []⟩ =
      some (.exit 2, fr, ⟨put hp r q B', L, H, []⟩) ∧ Marked A B' t x kk (256 * (g + 1)) ∧
      fr.get 10 = some (.int .i64 (t + 4 * (256 * (g + 1)) : Nat)) ∧ fr.get 11 = some (.int .i64 jj) ∧ fr.get 9 = some v ∧ fr.get 5 = some v5 ∧ fr.get 3 = some v3 ∧ fr.get 0 = some (arP r)
  | 0, b, e, B, hM => by
    obtain rfl : b = 256 := by omega
    rw [iter_by lb57_1.eq_1, show 256 * (g + 1) = 256 * g + 256 by omega]
    simp (disch := (first | omega | (simp only [lnE, put_length] <;> omega) | (refine Fit.mono ‹Fit _ _ _› ?_ <;> (simp only [lnE, put_length] <;> omega)) | (refine Fit.draw ‹Fit _ _ _› ?_ ?_ <;> (simp only [lnE, put_length] <;> omega)) | (refine Fit.hid1 ‹Fit _ _ _› ?_ ?_ <;> (simp only [lnE, put_length] <;> omega)) | (refine Fit.hidc1 ‹Fit _ _ _› ?_ ?_ <;> (simp only [lnE, put_length] <;> omega)) | (refine Fit.hidc2 ‹Fit _ _ _› ?_ ?_ ?_ <;> (simp only [lnE, put_length] <;> omega)) | (refine Fit.draw1 ‹Fit _ _ _› ?_ ?_ ?_ <;> (simp only [lnE, put_length] <;> omega)) | (refine Fit.range0 ?_ ?_ <;> (simp only [lnE, put_length] <;> omega)) | (refine ArOk.mono ‹ArOk _ _ _ _ _› ?_ <;> (simp only [lnE, put_length] <;> omega)) | (refine ArOk.hid ‹ArOk _ _ _ _ _› ?_ ?_ <;> (simp only [lnE, put_length] <;> omega)) | (refine ArOk.hid0 ‹ArOk _ _ _ _ _› ?_ ?_ <;> (simp only [lnE, put_length] <;> omega)) | ((intro xr hxr; simp [AM.refs, refsF, refsC] at hxr) <;> (simp only [lnE, put_length] <;> omega)) | fail)) only [syA, syB, argFr, D, E, T, C, undefv, eqF, aeq, sheqs, sheq, rdCells, cellsOf, fill, putAt, if_true, if_false, reduceIte, ↓reduceIte, reduceCtorEq, eq_self, Nat.reduceEqDiff, Nat.reduceAdd, Nat.reduceSub, Nat.reduceMul, Nat.reduceLT, Nat.reduceLeDiff, Nat.reducePow, Nat.reduceDiv, Nat.reduceMod, Int.reduceLT, Int.reduceLE, Int.reduceGT, Int.reduceGE, Int.reduceToNat, Int.reducePow, Int.reduceNeg, Int.reduceBEq, Int.reduceBNe, Int.reduceEq, Int.reduceAdd, Int.reduceSub, Int.reduceMul, cellv, sc, flatv, refs, refsF, refsC, syR, Int.le_refl, hF.not0, hF.not1, hF.up0, hF.up1, k.hr, k.hq]
    exact ⟨_, B, rfl, hM, rfl, rfl, rfl, rfl, rfl, rfl⟩
  | j + 1, b, e, B, hM => by
    have hb : b < 256 := by omega
    have hrl := k.r_lt
    have hql := k.q_lt
    have hsz := k.size
    have hlv := k.live1
    have hlen := hM.len
    obtain ⟨hwp, hM2⟩ := hM.next (z := z) hz hlv (by omega) (by omega)
    have hval : wval x kk (256 * g + b) = (x.take jj).count b := by
      unfold wval
      rw [show (256 * g + b) / 256 = g by omega, show (256 * g + b) % 256 = b by omega, hg]
    rw [hval] at hM2
    have hct : (x.take jj).count b ≤ 65536 := Nat.le_trans List.count_le_length (by simp; omega)
    have e0 : B.setWord t z (256 * g + b : Nat) ((x.take jj).count b) = ⟨putN B.bs (t + 4 * (256 * g + b)) (split4 ((x.take jj).count b)), B.live, B.peak⟩ := by
      unfold Arn.setWord
      rw [if_pos hwp]
      unfold Arn.setAt
      rw [show ((t : Int) + 4 * ((256 * g + b : Nat) : Int)).toNat = t + 4 * (256 * g + b) by omega]
    rw [e0] at hM2
    obtain ⟨fr, B', e1, e2⟩ := rfm_row hF k hw hR hz hfit hx hg hj v5 v3 j (b + 1) (by omega) _ hM2
    obtain ⟨fr2, f1, f2, f3, f4, f5, f6, f7, f8⟩ := rfm_put4 hF (hM.ok k) hw (at_ := t + 4 * (256 * g + b)) (v := (x.take jj).count b) (by omega) hct v3 v5 v (.int .i64 jj) (.int .i64 b)
    have cw := fun d => rfc_walk (d := d) (c := b) (p := jj) (hR B) (by rw [put_length]; exact hF) hj hx
    have h1 : (b : Int) < 256 := by omega
    have w1 : IntKind.u8.wrap (b : Int) = (b : Int) := by rw [wu8m]; omega
    have hat : t + 4 * (256 * g + b) + 4 = t + 4 * (256 * g + (b + 1)) := by omega
    rw [hat] at f2
    generalize (x.take jj).count b = n at *
    generalize t + 4 * (256 * g + b) = at_ at *
    generalize t + 4 * (256 * g + (b + 1)) = at2 at *
    simp only [Int.natCast_add, Int.natCast_one] at e1
    rw [iter_by lb57_1.eq_1]
    simp (disch := (first | omega | (simp only [lnE, put_length] <;> omega) | (refine Fit.mono ‹Fit _ _ _› ?_ <;> (simp only [lnE, put_length] <;> omega)) | (refine Fit.draw ‹Fit _ _ _› ?_ ?_ <;> (simp only [lnE, put_length] <;> omega)) | (refine Fit.hid1 ‹Fit _ _ _› ?_ ?_ <;> (simp only [lnE, put_length] <;> omega)) | (refine Fit.hidc1 ‹Fit _ _ _› ?_ ?_ <;> (simp only [lnE, put_length] <;> omega)) | (refine Fit.hidc2 ‹Fit _ _ _› ?_ ?_ ?_ <;> (simp only [lnE, put_length] <;> omega)) | (refine Fit.draw1 ‹Fit _ _ _› ?_ ?_ ?_ <;> (simp only [lnE, put_length] <;> omega)) | (refine Fit.range0 ?_ ?_ <;> (simp only [lnE, put_length] <;> omega)) | (refine ArOk.mono ‹ArOk _ _ _ _ _› ?_ <;> (simp only [lnE, put_length] <;> omega)) | (refine ArOk.hid ‹ArOk _ _ _ _ _› ?_ ?_ <;> (simp only [lnE, put_length] <;> omega)) | (refine ArOk.hid0 ‹ArOk _ _ _ _ _› ?_ ?_ <;> (simp only [lnE, put_length] <;> omega)) | ((intro xr hxr; simp [AM.refs, refsF, refsC] at hxr) <;> (simp only [lnE, put_length] <;> omega)) | fail)) only [syA, syB, argFr, D, E, T, C, undefv, eqF, aeq, sheqs, sheq, rdCells, cellsOf, fill, putAt, if_true, if_false, reduceIte, ↓reduceIte, reduceCtorEq, eq_self, Nat.reduceEqDiff, Nat.reduceAdd, Nat.reduceSub, Nat.reduceMul, Nat.reduceLT, Nat.reduceLeDiff, Nat.reducePow, Nat.reduceDiv, Nat.reduceMod, Int.reduceLT, Int.reduceLE, Int.reduceGT, Int.reduceGE, Int.reduceToNat, Int.reducePow, Int.reduceNeg, Int.reduceBEq, Int.reduceBNe, Int.reduceEq, Int.reduceAdd, Int.reduceSub, Int.reduceMul, cellv, sc, flatv, refs, refsF, refsC, syR, Int.le_refl, hF.not0, hF.not1, hF.up0, hF.up1, k.hr, k.hq, h1, w1, cw, f1, f2, f3, f4, f5, f6, f7, f8, e1]
    exact ⟨fr, B', by first | exact e1 | rfl, e2⟩
end
end ArA
end Go.Proofs.Ytfefeikkjebfoaa
