/-
  RANKS: the laws run on the abstract machine: counts and sums. Conditions: none.
-/
import Derived.Test.YtfefeikkjebfoaaRkL
set_option linter.all false
namespace Go.Proofs.Ytfefeikkjebfoaa
namespace ArA
open Go Go.RowKit AM ArEnv

/-- After Make, a rank is what it says. -/
theorem rank_is {A B : Arn} {t z : Nat} {x : List Nat} {kk c p : Nat} (hM : Marked A B t x kk (256 * (x.length / kk))) (hz : (t : Int) + z ≤ A.live) (hfit : 4 * (256 * (x.length / kk)) ≤ z) (hs : z ≤ 1048576) (hk : 1 ≤ kk) (hx : x.length ≤ 65536) (hc : c < 256) (hp : p ≤ x.length) :
    base B t z kk c p + tail x kk c p = (x.take p).count c := by
  have hdl : p / kk * kk ≤ p := Nat.div_mul_le_self p kk
  have hsp : x.take p = x.take (p / kk * kk) ++ (x.drop (p / kk * kk)).take (p - p / kk * kk) := by
    have := List.take_append_drop (p / kk * kk) (x.take p)
    rw [List.take_take, Nat.min_eq_left hdl, List.drop_take] at this
    exact this.symm
  rw [hsp, List.count_append]
  unfold tail
  congr 1
  unfold base
  have hle : p / kk ≤ x.length / kk := Nat.div_le_div_right hp
  clear hsp hdl
  generalize p / kk = y at *
  by_cases h0 : 0 < y
  · rw [if_pos h0]
    have hwl : (y - 1) * 256 + c < 256 * (x.length / kk) := by
      clear hfit hM
      generalize x.length / kk = X at *
      omega
    have hw := hM.wordV (w := (y - 1) * 256 + c) hz hfit hs hwl hx
    rw [show ((y : Int) * 256 - 256 + (c : Int)) = (((y - 1) * 256 + c : Nat) : Int) by omega, hw]
    unfold wval
    rw [show ((y - 1) * 256 + c) / 256 = y - 1 by omega, show ((y - 1) * 256 + c) % 256 = c by omega, show y - 1 + 1 = y by omega]
  · rw [if_neg h0, show y = 0 by omega, Nat.zero_mul, List.take_zero]
    rfl
theorem Rd_put_hide {hp nw : List Blk} {L L' r q lo n : Nat} {d d' : List Nat} {v : Value} {l : List Nat} {A : Arn} (k : Rd ⟨hp, L, [], d⟩ v l) (hr : hp.length ≤ r) (hq : hp.length ≤ q) (hlo : hp.length ≤ lo) : Rd ⟨put (hp ++ nw) r q A, L', List.range' lo n, d'⟩ v l :=
  k.more fun b x hx hh => by
    have hb := (List.getElem?_eq_some_iff.1 hx).1
    simp only at hb hx hh
    refine ⟨by simp only; rw [put_o (by omega) (by omega), get_left hb]; exact hx, ?_⟩
    simp only []
    cases hc : (List.range' lo n).contains b with
    | false => rfl
    | true =>
      rw [List.contains_iff_mem, List.mem_range'_1] at hc
      omega
theorem counts_loop20 {hp : List Blk} {a : Option Addr} {e : Nat} {x : List Nat} {t z kk c : Nat} {B : Arn} (hr : Rd ⟨hp, hp.length, [], []⟩ (.slice a x.length e) x) (hx60 : x.length ≤ 60) (hc : c < 256) (k : ArOk (hp.length + 2) hp.length (hp.length + 1) [] B) (hH : Holds B 0 x) (hv : rValid B (0 : Nat) x.length t z kk = true) (hk : 1 ≤ kk)
    (hrk : ∀ p, p ≤ x.length → base B t z kk c p + tail x kk c p = (x.take p).count c) :
    ∀ (j i : Nat), i + j = x.length + 1 → ∃ fr,
    Liter env lb12_0 [0, 2, 1, 9, 8, 7, 11, 10] (hp.length + 4) [(0, .slice a x.length e), (2, .int .u8 c), (1, .int .i64 kk), (9, .pointer (some ⟨hp.length + 3, 0, some 0⟩)), (8, .pointer (some ⟨hp.length + 2, 0, some 0⟩)), (7, arP hp.length), (11, .int .i64 i), (10, .int .i64 ((x.take i).count c : Nat))]
      ⟨put (hp ++ [default, default, .cells 0 true [.int .i64 0, .int .i64 x.length], .cells 0 true [.int .i64 t, .int .i64 z]]) hp.length (hp.length + 1) B, hp.length, [], []⟩ =
      some (.exit 0, fr, ⟨put (hp ++ [default, default, .cells 0 true [.int .i64 0, .int .i64 x.length], .cells 0 true [.int .i64 t, .int .i64 z]]) hp.length (hp.length + 1) B, hp.length, [], []⟩) ∧ fr.get 0 = some (.slice a x.length e) ∧ fr.get 7 = some (arP hp.length) ∧ fr.get 8 = some (.pointer (some ⟨hp.length + 2, 0, some 0⟩))
  | 0, i, e1 => by
    obtain rfl : i = x.length + 1 := by omega
    have h1 : ¬ ((x.length + 1 : Nat) : Int) ≤ x.length := by omega
    rw [iter_by lb12_0.eq_1]
    simp (disch := (first | omega | (simp only [lnE, put_length] <;> omega) | (refine Fit.mono ‹Fit _ _ _› ?_ <;> (simp only [lnE, put_length] <;> omega)) | (refine Fit.draw ‹Fit _ _ _› ?_ ?_ <;> (simp only [lnE, put_length] <;> omega)) | (refine Fit.hid1 ‹Fit _ _ _› ?_ ?_ <;> (simp only [lnE, put_length] <;> omega)) | (refine Fit.draw1 ‹Fit _ _ _› ?_ ?_ ?_ <;> (simp only [lnE, put_length] <;> omega)) | (refine Fit.range0 ?_ ?_ <;> (simp only [lnE, put_length] <;> omega)) | (refine ArOk.mono ‹ArOk _ _ _ _ _› ?_ <;> (simp only [lnE, put_length] <;> omega)) | (refine ArOk.hid ‹ArOk _ _ _ _ _› ?_ ?_ <;> (simp only [lnE, put_length] <;> omega)) | (refine ArOk.hid0 ‹ArOk _ _ _ _ _› ?_ ?_ <;> (simp only [lnE, put_length] <;> omega)) | ((intro xr hxr; simp [AM.refs, refsF, refsC] at hxr) <;> (simp only [lnE, put_length] <;> omega)) | fail)) only [syA, syB, argFr, D, E, T, C, undefv, eqF, aeq, sheqs, sheq, rdCells, cellsOf, fill, putAt, if_true, if_false, reduceIte, ↓reduceIte, reduceCtorEq, eq_self, Nat.reduceEqDiff, Nat.reduceAdd, Nat.reduceSub, Nat.reduceMul, Nat.reduceLT, Nat.reduceLeDiff, Nat.reducePow, Nat.reduceDiv, Nat.reduceMod, Int.reduceLT, Int.reduceLE, Int.reduceGT, Int.reduceGE, Int.reduceToNat, Int.reducePow, Int.reduceNeg, Int.reduceBEq, Int.reduceBNe, Int.reduceEq, Int.reduceAdd, Int.reduceSub, Int.reduceMul, cellv, sc, flatv, refs, refsF, refsC, syR, Int.le_refl, h1]
    exact ⟨_, rfl, rfl, rfl, rfl⟩
  | j + 1, i, e1 => by
    have hF : Fit hp.length hp.length [] := ⟨Nat.le_refl _, Low.nil _⟩
    obtain ⟨fr, f1, f2⟩ := counts_loop20 hr hx60 hc k hH hv hk hrk j (i + 1) (by omega)
    have h1 : (i : Int) ≤ x.length := by omega
    have hct : (x.take i).count c ≤ 60 := Nat.le_trans List.count_le_length (by simp; omega)
    have rw1 := fun nw => rank_walk (d := []) (L := hp.length) (H := []) (hp := hp ++ (default :: default :: nw)) (r := hp.length) (q := hp.length + 1) (c := c) (p := i) (hF.mono (by simp)) (k.mono (by simp)) hH (by omega) hv hk (by omega) hc
    simp only [hrk i (by omega), Int.natCast_zero] at rw1
    have hk0 : ¬ (kk : Int) = 0 := by omega
    have htm : Int.tmod (i : Int) (kk : Int) = ((i % kk : Nat) : Int) := by rw [Int.tmod_eq_emod_of_nonneg (by omega)]; rfl
    have hlt : ¬ ((i % kk : Nat) : Int) ≥ kk := by have := Nat.mod_lt i (show 0 < kk by omega); omega
    simp only [Int.natCast_add, Int.natCast_one] at f1
    rw [iter_by lb12_0.eq_1]
    by_cases hil : i < x.length
    · have hil' : (i : Int) < x.length := by omega
      have h2 : 0 ≤ (i : Int) ∧ (i : Int) < x.length := by omega
      obtain ⟨b, o, g, pl, cs, rfl, _, hh, hb, hcell⟩ := hr.at_ hil
      simp only [] at hb hh
      have hbl : b < hp.length := (List.getElem?_eq_some_iff.1 hb).1
      rw [cnt_take hil] at f1
      by_cases hq : x[i] = c
      · have hq' : ((x[i] : Int) == c) = true := by rw [hq]; simp
        rw [if_pos hq] at f1
        simp only [Int.natCast_add, Int.natCast_one] at f1
        simp (disch := (first | omega | (simp only [lnE, put_length] <;> omega) | (refine Fit.mono ‹Fit _ _ _› ?_ <;> (simp only [lnE, put_length] <;> omega)) | (refine Fit.draw ‹Fit _ _ _› ?_ ?_ <;> (simp only [lnE, put_length] <;> omega)) | (refine Fit.hid1 ‹Fit _ _ _› ?_ ?_ <;> (simp only [lnE, put_length] <;> omega)) | (refine Fit.draw1 ‹Fit _ _ _› ?_ ?_ ?_ <;> (simp only [lnE, put_length] <;> omega)) | (refine Fit.range0 ?_ ?_ <;> (simp only [lnE, put_length] <;> omega)) | (refine ArOk.mono ‹ArOk _ _ _ _ _› ?_ <;> (simp only [lnE, put_length] <;> omega)) | (refine ArOk.hid ‹ArOk _ _ _ _ _› ?_ ?_ <;> (simp only [lnE, put_length] <;> omega)) | (refine ArOk.hid0 ‹ArOk _ _ _ _ _› ?_ ?_ <;> (simp only [lnE, put_length] <;> omega)) | ((intro xr hxr; simp [AM.refs, refsF, refsC] at hxr) <;> (simp only [lnE, put_length] <;> omega)) | fail)) only [syA, syB, argFr, D, E, T, C, undefv, eqF, aeq, sheqs, sheq, rdCells, cellsOf, fill, putAt, if_true, if_false, reduceIte, ↓reduceIte, reduceCtorEq, eq_self, Nat.reduceEqDiff, Nat.reduceAdd, Nat.reduceSub, Nat.reduceMul, Nat.reduceLT, Nat.reduceLeDiff, Nat.reducePow, Nat.reduceDiv, Nat.reduceMod, Int.reduceLT, Int.reduceLE, Int.reduceGT, Int.reduceGE, Int.reduceToNat, Int.reducePow, Int.reduceNeg, Int.reduceBEq, Int.reduceBNe, Int.reduceEq, Int.reduceAdd, Int.reduceSub, Int.reduceMul, cellv, sc, flatv, refs, refsF, refsC, syR, Int.le_refl, hF.not0, hF.not1, hF.up0, hF.up1, h1, rw1, hk0, htm, hlt, hil', h2, hb, hbl, hcell, hq', f1]
        exact ⟨fr, rfl, f2⟩
      · have hq' : ((x[i] : Int) == c) = false := by rw [beq_eq_false_iff_ne]; omega
        rw [if_neg hq] at f1
        simp only [Nat.add_zero] at f1
        simp (disch := (first | omega | (simp only [lnE, put_length] <;> omega) | (refine Fit.mono ‹Fit _ _ _› ?_ <;> (simp only [lnE, put_length] <;> omega)) | (refine Fit.draw ‹Fit _ _ _› ?_ ?_ <;> (simp only [lnE, put_length] <;> omega)) | (refine Fit.hid1 ‹Fit _ _ _› ?_ ?_ <;> (simp only [lnE, put_length] <;> omega)) | (refine Fit.draw1 ‹Fit _ _ _› ?_ ?_ ?_ <;> (simp only [lnE, put_length] <;> omega)) | (refine Fit.range0 ?_ ?_ <;> (simp only [lnE, put_length] <;> omega)) | (refine ArOk.mono ‹ArOk _ _ _ _ _› ?_ <;> (simp only [lnE, put_length] <;> omega)) | (refine ArOk.hid ‹ArOk _ _ _ _ _› ?_ ?_ <;> (simp only [lnE, put_length] <;> omega)) | (refine ArOk.hid0 ‹ArOk _ _ _ _ _› ?_ ?_ <;> (simp only [lnE, put_length] <;> omega)) | ((intro xr hxr; simp [AM.refs, refsF, refsC] at hxr) <;> (simp only [lnE, put_length] <;> omega)) | fail)) only [syA, syB, argFr, D, E, T, C, undefv, eqF, aeq, sheqs, sheq, rdCells, cellsOf, fill, putAt, if_true, if_false, reduceIte, ↓reduceIte, reduceCtorEq, eq_self, Nat.reduceEqDiff, Nat.reduceAdd, Nat.reduceSub, Nat.reduceMul, Nat.reduceLT, Nat.reduceLeDiff, Nat.reducePow, Nat.reduceDiv, Nat.reduceMod, Int.reduceLT, Int.reduceLE, Int.reduceGT, Int.reduceGE, Int.reduceToNat, Int.reducePow, Int.reduceNeg, Int.reduceBEq, Int.reduceBNe, Int.reduceEq, Int.reduceAdd, Int.reduceSub, Int.reduceMul, cellv, sc, flatv, refs, refsF, refsC, syR, Int.le_refl, hF.not0, hF.not1, hF.up0, hF.up1, h1, rw1, hk0, htm, hlt, hil', h2, hb, hbl, hcell, hq', f1]
        exact ⟨fr, rfl, f2⟩
    · have hil' : ¬ (i : Int) < x.length := by omega
      obtain rfl : i = x.length := by omega
      have e5 : x.take (x.length + 1) = x.take x.length := by rw [List.take_of_length_le (by omega), List.take_of_length_le (by omega)]
      rw [e5] at f1
      simp (disch := (first | omega | (simp only [lnE, put_length] <;> omega) | (refine Fit.mono ‹Fit _ _ _› ?_ <;> (simp only [lnE, put_length] <;> omega)) | (refine Fit.draw ‹Fit _ _ _› ?_ ?_ <;> (simp only [lnE, put_length] <;> omega)) | (refine Fit.hid1 ‹Fit _ _ _› ?_ ?_ <;> (simp only [lnE, put_length] <;> omega)) | (refine Fit.draw1 ‹Fit _ _ _› ?_ ?_ ?_ <;> (simp only [lnE, put_length] <;> omega)) | (refine Fit.range0 ?_ ?_ <;> (simp only [lnE, put_length] <;> omega)) | (refine ArOk.mono ‹ArOk _ _ _ _ _› ?_ <;> (simp only [lnE, put_length] <;> omega)) | (refine ArOk.hid ‹ArOk _ _ _ _ _› ?_ ?_ <;> (simp only [lnE, put_length] <;> omega)) | (refine ArOk.hid0 ‹ArOk _ _ _ _ _› ?_ ?_ <;> (simp only [lnE, put_length] <;> omega)) | ((intro xr hxr; simp [AM.refs, refsF, refsC] at hxr) <;> (simp only [lnE, put_length] <;> omega)) | fail)) only [syA, syB, argFr, D, E, T, C, undefv, eqF, aeq, sheqs, sheq, rdCells, cellsOf, fill, putAt, if_true, if_false, reduceIte, ↓reduceIte, reduceCtorEq, eq_self, Nat.reduceEqDiff, Nat.reduceAdd, Nat.reduceSub, Nat.reduceMul, Nat.reduceLT, Nat.reduceLeDiff, Nat.reducePow, Nat.reduceDiv, Nat.reduceMod, Int.reduceLT, Int.reduceLE, Int.reduceGT, Int.reduceGE, Int.reduceToNat, Int.reducePow, Int.reduceNeg, Int.reduceBEq, Int.reduceBNe, Int.reduceEq, Int.reduceAdd, Int.reduceSub, Int.reduceMul, cellv, sc, flatv, refs, refsF, refsC, syR, Int.le_refl, hF.not0, hF.not1, hF.up0, hF.up1, h1, rw1, hk0, htm, hlt, hil', f1]
      exact ⟨fr, rfl, f2⟩
theorem rcounts_run {hp : List Blk} {v : Value} {x : List Nat} (hr : Rd ⟨hp, hp.length, [], []⟩ v x) (kk : Int) (hk0 : -9223372036854775808 ≤ kk) (hk1 : kk ≤ 9223372036854775807) (c : Nat) (hc : c < 256) :
    ∃ σ', Lrun env (.func 12) [v, .int .i64 kk, .int .u8 c] ⟨hp, hp.length, [], []⟩ = some (.bool true, σ') := by
  have hF : Fit hp.length hp.length [] := ⟨Nat.le_refl _, Low.nil _⟩
  have hlen := hr.lenF
  rw [Lrun_sym 12 _ _ fn12]
  by_cases g1 : (x.length : Int) = 0
  · simp (disch := (first | omega | (simp only [lnE] <;> omega) | (refine Fit.mono ‹Fit _ _ _› ?_ <;> (simp only [lnE] <;> omega)) | (refine Fit.draw ‹Fit _ _ _› ?_ ?_ <;> (simp only [lnE] <;> omega)) | (refine Fit.hid1 ‹Fit _ _ _› ?_ ?_ <;> (simp only [lnE] <;> omega)) | (refine Fit.draw1 ‹Fit _ _ _› ?_ ?_ ?_ <;> (simp only [lnE] <;> omega)) | (refine Fit.range0 ?_ ?_ <;> (simp only [lnE] <;> omega)) | fail)) only [syA, syB, argFr, D, E, T, C, undefv, eqF, aeq, sheqs, sheq, rdCells, cellsOf, fill, putAt, if_true, if_false, reduceIte, ↓reduceIte, reduceCtorEq, eq_self, Nat.reduceEqDiff, Nat.reduceAdd, Nat.reduceSub, Nat.reduceMul, Nat.reduceLT, Nat.reduceLeDiff, Nat.reducePow, Nat.reduceDiv, Nat.reduceMod, Int.reduceLT, Int.reduceLE, Int.reduceGT, Int.reduceGE, Int.reduceToNat, Int.reducePow, Int.reduceNeg, Int.reduceBEq, Int.reduceBNe, Int.reduceEq, Int.reduceAdd, Int.reduceSub, Int.reduceMul, cellv, sc, flatv, refs, refsF, refsC, hF.not0, hF.not1, hF.up0, hF.up1, ac12, hlen, g1, wakes20_walk]
    exact ⟨_, rfl⟩
  have g1' : ((x.length : Int) == 0) = false := by rw [beq_eq_false_iff_ne]; exact g1
  by_cases g2 : (x.length : Int) > 60
  · simp (disch := (first | omega | (simp only [lnE] <;> omega) | (refine Fit.mono ‹Fit _ _ _› ?_ <;> (simp only [lnE] <;> omega)) | (refine Fit.draw ‹Fit _ _ _› ?_ ?_ <;> (simp only [lnE] <;> omega)) | (refine Fit.hid1 ‹Fit _ _ _› ?_ ?_ <;> (simp only [lnE] <;> omega)) | (refine Fit.draw1 ‹Fit _ _ _› ?_ ?_ ?_ <;> (simp only [lnE] <;> omega)) | (refine Fit.range0 ?_ ?_ <;> (simp only [lnE] <;> omega)) | fail)) only [syA, syB, argFr, D, E, T, C, undefv, eqF, aeq, sheqs, sheq, rdCells, cellsOf, fill, putAt, if_true, if_false, reduceIte, ↓reduceIte, reduceCtorEq, eq_self, Nat.reduceEqDiff, Nat.reduceAdd, Nat.reduceSub, Nat.reduceMul, Nat.reduceLT, Nat.reduceLeDiff, Nat.reducePow, Nat.reduceDiv, Nat.reduceMod, Int.reduceLT, Int.reduceLE, Int.reduceGT, Int.reduceGE, Int.reduceToNat, Int.reducePow, Int.reduceNeg, Int.reduceBEq, Int.reduceBNe, Int.reduceEq, Int.reduceAdd, Int.reduceSub, Int.reduceMul, cellv, sc, flatv, refs, refsF, refsC, hF.not0, hF.not1, hF.up0, hF.up1, ac12, hlen, g1', g2, wakes20_walk]
    exact ⟨_, rfl⟩
  by_cases g3 : kk < 1
  · simp (disch := (first | omega | (simp only [lnE] <;> omega) | (refine Fit.mono ‹Fit _ _ _› ?_ <;> (simp only [lnE] <;> omega)) | (refine Fit.draw ‹Fit _ _ _› ?_ ?_ <;> (simp only [lnE] <;> omega)) | (refine Fit.hid1 ‹Fit _ _ _› ?_ ?_ <;> (simp only [lnE] <;> omega)) | (refine Fit.draw1 ‹Fit _ _ _› ?_ ?_ ?_ <;> (simp only [lnE] <;> omega)) | (refine Fit.range0 ?_ ?_ <;> (simp only [lnE] <;> omega)) | fail)) only [syA, syB, argFr, D, E, T, C, undefv, eqF, aeq, sheqs, sheq, rdCells, cellsOf, fill, putAt, if_true, if_false, reduceIte, ↓reduceIte, reduceCtorEq, eq_self, Nat.reduceEqDiff, Nat.reduceAdd, Nat.reduceSub, Nat.reduceMul, Nat.reduceLT, Nat.reduceLeDiff, Nat.reducePow, Nat.reduceDiv, Nat.reduceMod, Int.reduceLT, Int.reduceLE, Int.reduceGT, Int.reduceGE, Int.reduceToNat, Int.reducePow, Int.reduceNeg, Int.reduceBEq, Int.reduceBNe, Int.reduceEq, Int.reduceAdd, Int.reduceSub, Int.reduceMul, cellv, sc, flatv, refs, refsF, refsC, hF.not0, hF.not1, hF.up0, hF.up1, ac12, hlen, g1', g2, g3, wakes20_walk]
    exact ⟨_, rfl⟩
  by_cases g4 : kk > 65536
  · simp (disch := (first | omega | (simp only [lnE] <;> omega) | (refine Fit.mono ‹Fit _ _ _› ?_ <;> (simp only [lnE] <;> omega)) | (refine Fit.draw ‹Fit _ _ _› ?_ ?_ <;> (simp only [lnE] <;> omega)) | (refine Fit.hid1 ‹Fit _ _ _› ?_ ?_ <;> (simp only [lnE] <;> omega)) | (refine Fit.draw1 ‹Fit _ _ _› ?_ ?_ ?_ <;> (simp only [lnE] <;> omega)) | (refine Fit.range0 ?_ ?_ <;> (simp only [lnE] <;> omega)) | fail)) only [syA, syB, argFr, D, E, T, C, undefv, eqF, aeq, sheqs, sheq, rdCells, cellsOf, fill, putAt, if_true, if_false, reduceIte, ↓reduceIte, reduceCtorEq, eq_self, Nat.reduceEqDiff, Nat.reduceAdd, Nat.reduceSub, Nat.reduceMul, Nat.reduceLT, Nat.reduceLeDiff, Nat.reducePow, Nat.reduceDiv, Nat.reduceMod, Int.reduceLT, Int.reduceLE, Int.reduceGT, Int.reduceGE, Int.reduceToNat, Int.reducePow, Int.reduceNeg, Int.reduceBEq, Int.reduceBNe, Int.reduceEq, Int.reduceAdd, Int.reduceSub, Int.reduceMul, cellv, sc, flatv, refs, refsF, refsC, hF.not0, hF.not1, hF.up0, hF.up1, ac12, hlen, g1', g2, g3, g4, wakes20_walk]
    exact ⟨_, rfl⟩
  obtain ⟨kk, rfl⟩ := Int.eq_ofNat_of_zero_le (by omega : 0 ≤ kk)
  have hsz := rSize_nat (m := x.length) (k := kk) (by omega) (by omega)
  have hdv : x.length / kk ≤ x.length := Nat.div_le_self _ _
  obtain ⟨sz, hszn⟩ : ∃ sz, 4 * (256 * (x.length / kk)) = sz := ⟨_, rfl⟩
  rw [hszn] at hsz
  have hszl : sz ≤ 65536 := by omega
  have ld := laid20_walk (d := []) (kk := kk) (sz := sz) hF hr (by omega) hsz (by omega)
  have k0 : ArOk (hp.length + 2) hp.length (hp.length + 1) [] (rl x sz) := rl_ok (by omega) (by omega) (by omega) rfl rfl hr.by_ (by omega)
  have hv0 : rValid (rl x sz) (0 : Nat) x.length x.length sz kk = true := rl_valid (by omega) (by omega) (by omega) hsz
  obtain ⟨B, mk, hM⟩ := make_walk (hp := hp ++ [default, default, .cells 0 true [.int .i64 0, .int .i64 x.length], .cells 0 true [.int .i64 x.length, .int .i64 sz]]) (L := hp.length) (H := []) (r := hp.length) (q := hp.length + 1) (hF.mono (by simp)) (k0.mono (by simp)) (by omega) (rl_holds x sz) hv0
  have kB : ArOk (hp.length + 2) hp.length (hp.length + 1) [] B := hM.ok k0
  have hHB := hM.holds (rl_holds x sz) fun i hi => by left; omega
  have hvB : rValid B (0 : Nat) x.length x.length sz kk = true := by rw [rValid_live hM.live]; exact hv0
  obtain ⟨a, e, rfl⟩ := hr.len
  obtain ⟨fr, e1, e2, e3, e5⟩ := counts_loop20 (t := x.length) (z := sz) (B := B) hr (by omega) hc kB hHB hvB (by omega) (fun p hp => rank_is hM (by rw [rl_live]; omega) (by omega) (by omega) (by omega) (by omega) hc hp) (x.length + 1) 0 (by omega)
  simp only [List.take_zero, List.count_nil, Int.natCast_zero] at e1 mk
  have lo := hHB.load
  have rv := fun nw L' => (Rd.put (nw := nw) (L' := L') (d' := []) (r := hp.length) (q := hp.length + 1) (A := B) hr (by omega) (by omega)).str
  have rvh := fun nw L' lo n (hlo : hp.length ≤ lo) => (Rd_put_hide (nw := nw) (L' := L') (d' := []) (r := hp.length) (q := hp.length + 1) (lo := lo) (n := n) (A := B) hr (by omega) (by omega) hlo).str
  simp only [Int.natCast_zero] at lo
  have lw1 : ∀ (nw : List Blk) (L' : Nat), Fit (hp ++ (default :: default :: nw)).length L' [] → Lrun env (.func 21) [arP hp.length, .agg #[.int .i64 0, .int .i64 x.length]] ⟨put (hp ++ (default :: default :: nw)) hp.length (hp.length + 1) B, L', [], []⟩ = some (sl (hp ++ (default :: default :: nw)).length x.length (some x), ⟨put (hp ++ (default :: default :: nw) ++ slB x.length (some x)) hp.length (hp.length + 1) B, L', [], []⟩) := fun nw L' hF' => by
    have h := load_walk (d := []) (L := L') (H := []) (hp := hp ++ (default :: default :: nw)) (r := hp.length) (q := hp.length + 1) hF' (kB.mono (by simp)) 0 x.length
    rw [lo] at h
    exact h
  simp (disch := (first | omega | (simp only [lnE, put_length] <;> omega) | (refine Fit.mono ‹Fit _ _ _› ?_ <;> (simp only [lnE, put_length] <;> omega)) | (refine Fit.draw ‹Fit _ _ _› ?_ ?_ <;> (simp only [lnE, put_length] <;> omega)) | (refine Fit.hid1 ‹Fit _ _ _› ?_ ?_ <;> (simp only [lnE, put_length] <;> omega)) | (refine Fit.draw1 ‹Fit _ _ _› ?_ ?_ ?_ <;> (simp only [lnE, put_length] <;> omega)) | (refine Fit.range0 ?_ ?_ <;> (simp only [lnE, put_length] <;> omega)) | (refine ArOk.mono ‹ArOk _ _ _ _ _› ?_ <;> (simp only [lnE, put_length] <;> omega)) | (refine ArOk.hid ‹ArOk _ _ _ _ _› ?_ ?_ <;> (simp only [lnE, put_length] <;> omega)) | (refine ArOk.hid0 ‹ArOk _ _ _ _ _› ?_ ?_ <;> (simp only [lnE, put_length] <;> omega)) | ((intro xr hxr; simp [AM.refs, refsF, refsC] at hxr) <;> (simp only [lnE, put_length] <;> omega)) | fail)) only [syA, syB, argFr, D, E, T, C, undefv, eqF, aeq, sheqs, sheq, rdCells, cellsOf, fill, putAt, if_true, if_false, reduceIte, ↓reduceIte, reduceCtorEq, eq_self, Nat.reduceEqDiff, Nat.reduceAdd, Nat.reduceSub, Nat.reduceMul, Nat.reduceLT, Nat.reduceLeDiff, Nat.reducePow, Nat.reduceDiv, Nat.reduceMod, Int.reduceLT, Int.reduceLE, Int.reduceGT, Int.reduceGE, Int.reduceToNat, Int.reducePow, Int.reduceNeg, Int.reduceBEq, Int.reduceBNe, Int.reduceEq, Int.reduceAdd, Int.reduceSub, Int.reduceMul, cellv, sc, flatv, refs, refsF, refsC, syR, Int.le_refl, hF.not0, hF.not1, hF.up0, hF.up1, ac12, hlen, g1', g2, g3, g4, ld, mk, e1, e2, e3, e5, lw1, rv, rvh, sl_some, slB_some, wakes20_walk, gc_bool_new]
  exact ⟨_, rfl⟩
theorem csm_cons (a : Nat) (x : List Nat) : ∀ n, csm (a :: x) n = csm x n + if a < n then 1 else 0
  | 0 => by simp [csm]
  | n + 1 => by
    have ih := csm_cons a x n
    simp only [csm]
    rw [ih, List.count_cons]
    by_cases h1 : a < n
    · have h2 : ¬ a = n := by omega
      simp [h1, h2, show a < n + 1 by omega]; omega
    · by_cases h2 : a = n
      · subst h2; simp; omega
      · simp [h1, h2, show ¬ a < n + 1 by omega]
theorem csm_all : ∀ {x : List Nat}, By x → csm x 256 = x.length
  | [], _ => by
    have : ∀ n, csm [] n = 0 := fun n => by
      induction n with
      | zero => rfl
      | succ n ih => simp only [csm, ih, List.count_nil]
    rw [this]; rfl
  | a :: x, h => by
    rw [csm_cons, csm_all h.tail, if_pos h.head]; rfl
theorem sums_loop {hp : List Blk} {a : Option Addr} {e : Nat} {x : List Nat} {t z kk p : Nat} {B : Arn} (hr : Rd ⟨hp, hp.length, [], []⟩ (.slice a x.length e) x) (hx60 : x.length ≤ 60) (hpx : p ≤ x.length) (k : ArOk (hp.length + 2) hp.length (hp.length + 1) [] B) (hH : Holds B 0 x) (hv : rValid B (0 : Nat) x.length t z kk = true) (hk : 1 ≤ kk)
    (hrk : ∀ c, c < 256 → ∀ p, p ≤ x.length → base B t z kk c p + tail x kk c p = (x.take p).count c) :
    ∀ (j b : Nat), b + j = 256 → ∃ fr,
    Liter env lb13_0 [10, 0, 1, 9, 8, 7, 2, 13, 12, 11] (hp.length + 5) [(10, .pointer (some ⟨hp.length + 4, 0, some 0⟩)), (0, .slice a x.length e), (1, .int .i64 kk), (9, .pointer (some ⟨hp.length + 3, 0, some 0⟩)), (8, .pointer (some ⟨hp.length + 2, 0, some 0⟩)), (7, arP hp.length), (2, .int .i64 p), (13, .int .i64 b), (12, .int .i64 (csm x b : Nat)), (11, .int .i64 (csm (x.take p) b : Nat))]
      ⟨put (hp ++ [default, default, .cells 0 true [.int .i64 0, .int .i64 x.length], .cells 0 true [.int .i64 t, .int .i64 z], .cells 0 true (lP x 256)]) hp.length (hp.length + 1) B, hp.length, [], []⟩ =
      some (.exit 0, fr, ⟨put (hp ++ [default, default, .cells 0 true [.int .i64 0, .int .i64 x.length], .cells 0 true [.int .i64 t, .int .i64 z], .cells 0 true (lP x 256)]) hp.length (hp.length + 1) B, hp.length, [], []⟩) ∧ fr.get 11 = some (.int .i64 (csm (x.take p) 256 : Nat)) ∧ fr.get 12 = some (.int .i64 (csm x 256 : Nat)) ∧ fr.get 2 = some (.int .i64 p) ∧ fr.get 0 = some (.slice a x.length e)
  | 0, b, e1 => by
    obtain rfl : b = 256 := by omega
    rw [iter_by lb13_0.eq_1]
    simp (disch := (first | omega | (simp only [lnE, put_length] <;> omega) | (refine Fit.mono ‹Fit _ _ _› ?_ <;> (simp only [lnE, put_length] <;> omega)) | (refine Fit.draw ‹Fit _ _ _› ?_ ?_ <;> (simp only [lnE, put_length] <;> omega)) | (refine Fit.hid1 ‹Fit _ _ _› ?_ ?_ <;> (simp only [lnE, put_length] <;> omega)) | (refine Fit.draw1 ‹Fit _ _ _› ?_ ?_ ?_ <;> (simp only [lnE, put_length] <;> omega)) | (refine Fit.range0 ?_ ?_ <;> (simp only [lnE, put_length] <;> omega)) | (refine ArOk.mono ‹ArOk _ _ _ _ _› ?_ <;> (simp only [lnE, put_length] <;> omega)) | (refine ArOk.hid ‹ArOk _ _ _ _ _› ?_ ?_ <;> (simp only [lnE, put_length] <;> omega)) | (refine ArOk.hid0 ‹ArOk _ _ _ _ _› ?_ ?_ <;> (simp only [lnE, put_length] <;> omega)) | ((intro xr hxr; simp [AM.refs, refsF, refsC] at hxr) <;> (simp only [lnE, put_length] <;> omega)) | fail)) only [syA, syB, argFr, D, E, T, C, undefv, eqF, aeq, sheqs, sheq, rdCells, cellsOf, fill, putAt, if_true, if_false, reduceIte, ↓reduceIte, reduceCtorEq, eq_self, Nat.reduceEqDiff, Nat.reduceAdd, Nat.reduceSub, Nat.reduceMul, Nat.reduceLT, Nat.reduceLeDiff, Nat.reducePow, Nat.reduceDiv, Nat.reduceMod, Int.reduceLT, Int.reduceLE, Int.reduceGT, Int.reduceGE, Int.reduceToNat, Int.reducePow, Int.reduceNeg, Int.reduceBEq, Int.reduceBNe, Int.reduceEq, Int.reduceAdd, Int.reduceSub, Int.reduceMul, cellv, sc, flatv, refs, refsF, refsC, syR, Int.le_refl]
    exact ⟨_, rfl, rfl, rfl, rfl, rfl⟩
  | j + 1, b, e1 => by
    have hF : Fit hp.length hp.length [] := ⟨Nat.le_refl _, Low.nil _⟩
    obtain ⟨fr, f1, f2⟩ := sums_loop hr hx60 hpx k hH hv hk hrk j (b + 1) (by omega)
    have hb : b < 256 := by omega
    have h1 : (b : Int) < 256 := by omega
    have h2 : 0 ≤ (b : Int) ∧ (b : Int) < 256 := by omega
    have rwA := fun nw => rank_walk (d := []) (L := hp.length) (H := []) (hp := hp ++ (default :: default :: nw)) (r := hp.length) (q := hp.length + 1) (c := b) (p := p) (hF.mono (by simp)) (k.mono (by simp)) hH (by omega) hv hk hpx hb
    have rwB := fun nw => rank_walk (d := []) (L := hp.length) (H := []) (hp := hp ++ (default :: default :: nw)) (r := hp.length) (q := hp.length + 1) (c := b) (p := x.length) (hF.mono (by simp)) (k.mono (by simp)) hH (by omega) hv hk (Nat.le_refl _) hb
    simp only [hrk b hb p hpx, Int.natCast_zero] at rwA
    simp only [hrk b hb x.length (Nat.le_refl _), List.take_length, Int.natCast_zero] at rwB
    have hl : (lP x 256)[b]? = some (.int .i64 (csm x b : Nat)) := by rw [lP_get _ _ hb, if_pos hb]
    have c1 := csm_le x (b + 1)
    have c2 : (b + 1) * x.length ≤ 256 * 60 := Nat.mul_le_mul (by omega) hx60
    have c3 := csm_le (x.take p) (b + 1)
    have c4 : (b + 1) * (x.take p).length ≤ 256 * 60 := Nat.mul_le_mul (by omega) (by simp; omega)
    have a1 : ((csm x b : Nat) : Int) + (x.count b : Nat) = (csm x (b + 1) : Nat) := by simp only [csm]; omega
    have a2 : ((csm (x.take p) b : Nat) : Int) + ((x.take p).count b : Nat) = (csm (x.take p) (b + 1) : Nat) := by simp only [csm]; omega
    simp only [Int.natCast_add, Int.natCast_one] at f1
    rw [iter_by lb13_0.eq_1]
    simp (disch := (first | omega | (simp only [lnE, put_length] <;> omega) | (refine Fit.mono ‹Fit _ _ _› ?_ <;> (simp only [lnE, put_length] <;> omega)) | (refine Fit.draw ‹Fit _ _ _› ?_ ?_ <;> (simp only [lnE, put_length] <;> omega)) | (refine Fit.hid1 ‹Fit _ _ _› ?_ ?_ <;> (simp only [lnE, put_length] <;> omega)) | (refine Fit.draw1 ‹Fit _ _ _› ?_ ?_ ?_ <;> (simp only [lnE, put_length] <;> omega)) | (refine Fit.range0 ?_ ?_ <;> (simp only [lnE, put_length] <;> omega)) | (refine ArOk.mono ‹ArOk _ _ _ _ _› ?_ <;> (simp only [lnE, put_length] <;> omega)) | (refine ArOk.hid ‹ArOk _ _ _ _ _› ?_ ?_ <;> (simp only [lnE, put_length] <;> omega)) | (refine ArOk.hid0 ‹ArOk _ _ _ _ _› ?_ ?_ <;> (simp only [lnE, put_length] <;> omega)) | ((intro xr hxr; simp [AM.refs, refsF, refsC] at hxr) <;> (simp only [lnE, put_length] <;> omega)) | fail)) only [syA, syB, argFr, D, E, T, C, undefv, eqF, aeq, sheqs, sheq, rdCells, cellsOf, fill, putAt, if_true, if_false, reduceIte, ↓reduceIte, reduceCtorEq, eq_self, Nat.reduceEqDiff, Nat.reduceAdd, Nat.reduceSub, Nat.reduceMul, Nat.reduceLT, Nat.reduceLeDiff, Nat.reducePow, Nat.reduceDiv, Nat.reduceMod, Int.reduceLT, Int.reduceLE, Int.reduceGT, Int.reduceGE, Int.reduceToNat, Int.reducePow, Int.reduceNeg, Int.reduceBEq, Int.reduceBNe, Int.reduceEq, Int.reduceAdd, Int.reduceSub, Int.reduceMul, cellv, sc, flatv, refs, refsF, refsC, syR, Int.le_refl, hF.not0, hF.not1, hF.up0, hF.up1, h1, h2, rwA, rwB, hl, a1, a2, f1]
    exact ⟨fr, rfl, f2⟩
theorem rsums_run {hp : List Blk} {v : Value} {x : List Nat} (hr : Rd ⟨hp, hp.length, [], []⟩ v x) (kk : Int) (hk0 : -9223372036854775808 ≤ kk) (hk1 : kk ≤ 9223372036854775807) (pl : Int) (hp0 : -9223372036854775808 ≤ pl) (hp1 : pl ≤ 9223372036854775807) :
    ∃ σ', Lrun env (.func 13) [v, .int .i64 kk, .int .i64 pl] ⟨hp, hp.length, [], []⟩ = some (.bool true, σ') := by
  have hF : Fit hp.length hp.length [] := ⟨Nat.le_refl _, Low.nil _⟩
  have hlen := hr.lenF
  rw [Lrun_sym 13 _ _ fn13]
  by_cases g1 : (x.length : Int) = 0
  · simp (disch := (first | omega | (simp only [lnE] <;> omega) | (refine Fit.mono ‹Fit _ _ _› ?_ <;> (simp only [lnE] <;> omega)) | (refine Fit.draw ‹Fit _ _ _› ?_ ?_ <;> (simp only [lnE] <;> omega)) | (refine Fit.hid1 ‹Fit _ _ _› ?_ ?_ <;> (simp only [lnE] <;> omega)) | (refine Fit.draw1 ‹Fit _ _ _› ?_ ?_ ?_ <;> (simp only [lnE] <;> omega)) | (refine Fit.range0 ?_ ?_ <;> (simp only [lnE] <;> omega)) | fail)) only [syA, syB, argFr, D, E, T, C, undefv, eqF, aeq, sheqs, sheq, rdCells, cellsOf, fill, putAt, if_true, if_false, reduceIte, ↓reduceIte, reduceCtorEq, eq_self, Nat.reduceEqDiff, Nat.reduceAdd, Nat.reduceSub, Nat.reduceMul, Nat.reduceLT, Nat.reduceLeDiff, Nat.reducePow, Nat.reduceDiv, Nat.reduceMod, Int.reduceLT, Int.reduceLE, Int.reduceGT, Int.reduceGE, Int.reduceToNat, Int.reducePow, Int.reduceNeg, Int.reduceBEq, Int.reduceBNe, Int.reduceEq, Int.reduceAdd, Int.reduceSub, Int.reduceMul, cellv, sc, flatv, refs, refsF, refsC, hF.not0, hF.not1, hF.up0, hF.up1, ac13, hlen, g1, wakes20_walk]
    exact ⟨_, rfl⟩
  have g1' : ((x.length : Int) == 0) = false := by rw [beq_eq_false_iff_ne]; exact g1
  by_cases g2 : (x.length : Int) > 60
  · simp (disch := (first | omega | (simp only [lnE] <;> omega) | (refine Fit.mono ‹Fit _ _ _› ?_ <;> (simp only [lnE] <;> omega)) | (refine Fit.draw ‹Fit _ _ _› ?_ ?_ <;> (simp only [lnE] <;> omega)) | (refine Fit.hid1 ‹Fit _ _ _› ?_ ?_ <;> (simp only [lnE] <;> omega)) | (refine Fit.draw1 ‹Fit _ _ _› ?_ ?_ ?_ <;> (simp only [lnE] <;> omega)) | (refine Fit.range0 ?_ ?_ <;> (simp only [lnE] <;> omega)) | fail)) only [syA, syB, argFr, D, E, T, C, undefv, eqF, aeq, sheqs, sheq, rdCells, cellsOf, fill, putAt, if_true, if_false, reduceIte, ↓reduceIte, reduceCtorEq, eq_self, Nat.reduceEqDiff, Nat.reduceAdd, Nat.reduceSub, Nat.reduceMul, Nat.reduceLT, Nat.reduceLeDiff, Nat.reducePow, Nat.reduceDiv, Nat.reduceMod, Int.reduceLT, Int.reduceLE, Int.reduceGT, Int.reduceGE, Int.reduceToNat, Int.reducePow, Int.reduceNeg, Int.reduceBEq, Int.reduceBNe, Int.reduceEq, Int.reduceAdd, Int.reduceSub, Int.reduceMul, cellv, sc, flatv, refs, refsF, refsC, hF.not0, hF.not1, hF.up0, hF.up1, ac13, hlen, g1', g2, wakes20_walk]
    exact ⟨_, rfl⟩
  by_cases g3 : kk < 1
  · simp (disch := (first | omega | (simp only [lnE] <;> omega) | (refine Fit.mono ‹Fit _ _ _› ?_ <;> (simp only [lnE] <;> omega)) | (refine Fit.draw ‹Fit _ _ _› ?_ ?_ <;> (simp only [lnE] <;> omega)) | (refine Fit.hid1 ‹Fit _ _ _› ?_ ?_ <;> (simp only [lnE] <;> omega)) | (refine Fit.draw1 ‹Fit _ _ _› ?_ ?_ ?_ <;> (simp only [lnE] <;> omega)) | (refine Fit.range0 ?_ ?_ <;> (simp only [lnE] <;> omega)) | fail)) only [syA, syB, argFr, D, E, T, C, undefv, eqF, aeq, sheqs, sheq, rdCells, cellsOf, fill, putAt, if_true, if_false, reduceIte, ↓reduceIte, reduceCtorEq, eq_self, Nat.reduceEqDiff, Nat.reduceAdd, Nat.reduceSub, Nat.reduceMul, Nat.reduceLT, Nat.reduceLeDiff, Nat.reducePow, Nat.reduceDiv, Nat.reduceMod, Int.reduceLT, Int.reduceLE, Int.reduceGT, Int.reduceGE, Int.reduceToNat, Int.reducePow, Int.reduceNeg, Int.reduceBEq, Int.reduceBNe, Int.reduceEq, Int.reduceAdd, Int.reduceSub, Int.reduceMul, cellv, sc, flatv, refs, refsF, refsC, hF.not0, hF.not1, hF.up0, hF.up1, ac13, hlen, g1', g2, g3, wakes20_walk]
    exact ⟨_, rfl⟩
  by_cases g4 : kk > 65536
  · simp (disch := (first | omega | (simp only [lnE] <;> omega) | (refine Fit.mono ‹Fit _ _ _› ?_ <;> (simp only [lnE] <;> omega)) | (refine Fit.draw ‹Fit _ _ _› ?_ ?_ <;> (simp only [lnE] <;> omega)) | (refine Fit.hid1 ‹Fit _ _ _› ?_ ?_ <;> (simp only [lnE] <;> omega)) | (refine Fit.draw1 ‹Fit _ _ _› ?_ ?_ ?_ <;> (simp only [lnE] <;> omega)) | (refine Fit.range0 ?_ ?_ <;> (simp only [lnE] <;> omega)) | fail)) only [syA, syB, argFr, D, E, T, C, undefv, eqF, aeq, sheqs, sheq, rdCells, cellsOf, fill, putAt, if_true, if_false, reduceIte, ↓reduceIte, reduceCtorEq, eq_self, Nat.reduceEqDiff, Nat.reduceAdd, Nat.reduceSub, Nat.reduceMul, Nat.reduceLT, Nat.reduceLeDiff, Nat.reducePow, Nat.reduceDiv, Nat.reduceMod, Int.reduceLT, Int.reduceLE, Int.reduceGT, Int.reduceGE, Int.reduceToNat, Int.reducePow, Int.reduceNeg, Int.reduceBEq, Int.reduceBNe, Int.reduceEq, Int.reduceAdd, Int.reduceSub, Int.reduceMul, cellv, sc, flatv, refs, refsF, refsC, hF.not0, hF.not1, hF.up0, hF.up1, ac13, hlen, g1', g2, g3, g4, wakes20_walk]
    exact ⟨_, rfl⟩
  obtain ⟨kk, rfl⟩ := Int.eq_ofNat_of_zero_le (by omega : 0 ≤ kk)
  have hsz := rSize_nat (m := x.length) (k := kk) (by omega) (by omega)
  have hdv : x.length / kk ≤ x.length := Nat.div_le_self _ _
  obtain ⟨sz, hszn⟩ : ∃ sz, 4 * (256 * (x.length / kk)) = sz := ⟨_, rfl⟩
  rw [hszn] at hsz
  have hszl : sz ≤ 65536 := by omega
  have ld := laid20_walk (d := []) (kk := kk) (sz := sz) hF hr (by omega) hsz (by omega)
  have k0 : ArOk (hp.length + 2) hp.length (hp.length + 1) [] (rl x sz) := rl_ok (by omega) (by omega) (by omega) rfl rfl hr.by_ (by omega)
  have hv0 : rValid (rl x sz) (0 : Nat) x.length x.length sz kk = true := rl_valid (by omega) (by omega) (by omega) hsz
  obtain ⟨B, mk, hM⟩ := make_walk (hp := hp ++ [default, default, .cells 0 true [.int .i64 0, .int .i64 x.length], .cells 0 true [.int .i64 x.length, .int .i64 sz]]) (L := hp.length) (H := []) (r := hp.length) (q := hp.length + 1) (hF.mono (by simp)) (k0.mono (by simp)) (by omega) (rl_holds x sz) hv0
  have kB : ArOk (hp.length + 2) hp.length (hp.length + 1) [] B := hM.ok k0
  have hHB := hM.holds (rl_holds x sz) fun i hi => by left; omega
  have hvB : rValid B (0 : Nat) x.length x.length sz kk = true := by rw [rValid_live hM.live]; exact hv0
  obtain ⟨p, hpd⟩ : ∃ p : Nat, min (max pl 0) (x.length : Int) = p := ⟨(min (max pl 0) (x.length : Int)).toNat, by omega⟩
  have hpx : p ≤ x.length := by omega
  obtain ⟨a, e, rfl⟩ := hr.len
  obtain ⟨fr, e1, e2, e3, e4, e5⟩ := sums_loop (t := x.length) (z := sz) (B := B) hr (by omega) hpx kB hHB hvB (by omega) (fun c hc p hp => rank_is hM (by rw [rl_live]; omega) (by omega) (by omega) (by omega) (by omega) hc hp) 256 0 rfl
  rw [csm_all (hr.by_.take p)] at e2
  rw [csm_all hr.by_] at e3
  rw [show (x.take p).length = p by simp; omega] at e2
  simp only [csm, Int.natCast_zero] at e1 mk
  have lo := hHB.load
  simp only [Int.natCast_zero] at lo
  have lw := fun nw => less_walk (d := []) (L := hp.length) (H := []) (hp := hp ++ (default :: default :: nw)) (r := hp.length) (q := hp.length + 1) (hF.mono (by simp)) (kB.mono (by simp)) hr.by_ (by omega) lo
  have hput : putAt (c256 []) 0 (lP x 256) = lP x 256 := putAt_own (by rw [lP_len, c256_len])
  simp (disch := (first | omega | (simp only [lnE, put_length] <;> omega) | (refine Fit.mono ‹Fit _ _ _› ?_ <;> (simp only [lnE, put_length] <;> omega)) | (refine Fit.draw ‹Fit _ _ _› ?_ ?_ <;> (simp only [lnE, put_length] <;> omega)) | (refine Fit.hid1 ‹Fit _ _ _› ?_ ?_ <;> (simp only [lnE, put_length] <;> omega)) | (refine Fit.draw1 ‹Fit _ _ _› ?_ ?_ ?_ <;> (simp only [lnE, put_length] <;> omega)) | (refine Fit.range0 ?_ ?_ <;> (simp only [lnE, put_length] <;> omega)) | (refine ArOk.mono ‹ArOk _ _ _ _ _› ?_ <;> (simp only [lnE, put_length] <;> omega)) | (refine ArOk.hid ‹ArOk _ _ _ _ _› ?_ ?_ <;> (simp only [lnE, put_length] <;> omega)) | (refine ArOk.hid0 ‹ArOk _ _ _ _ _› ?_ ?_ <;> (simp only [lnE, put_length] <;> omega)) | ((intro xr hxr; simp [AM.refs, refsF, refsC] at hxr) <;> (simp only [lnE, put_length] <;> omega)) | fail)) only [syA, syB, argFr, D, E, T, C, undefv, eqF, aeq, sheqs, sheq, rdCells, cellsOf, fill, putAt, if_true, if_false, reduceIte, ↓reduceIte, reduceCtorEq, eq_self, Nat.reduceEqDiff, Nat.reduceAdd, Nat.reduceSub, Nat.reduceMul, Nat.reduceLT, Nat.reduceLeDiff, Nat.reducePow, Nat.reduceDiv, Nat.reduceMod, Int.reduceLT, Int.reduceLE, Int.reduceGT, Int.reduceGE, Int.reduceToNat, Int.reducePow, Int.reduceNeg, Int.reduceBEq, Int.reduceBNe, Int.reduceEq, Int.reduceAdd, Int.reduceSub, Int.reduceMul, cellv, sc, flatv, refs, refsF, refsC, syR, Int.le_refl, hF.not0, hF.not1, hF.up0, hF.up1, ac13, hlen, g1', g2, g3, g4, ld, mk, hpd, lw, c256_nil, c256_len, lP_len, lP_cellv, lP_scs, hput, e1, e2, e3, e4, e5, wakes20_walk, gc_bool_new]
  exact ⟨_, rfl⟩
end ArA
end Go.Proofs.Ytfefeikkjebfoaa
