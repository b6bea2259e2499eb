/-
  RANKS: walks of the functions on the abstract machine, second part: Rank and Less. Conditions: none.
-/
import Derived.Test.YtfefeikkjebfoaaRkA
set_option linter.all false
namespace Go.Proofs.Ytfefeikkjebfoaa
namespace ArA
open Go Go.RowKit AM ArEnv

/-- The arena holds the bytes x from s on, and they live. -/
structure Holds (A : Arn) (s : Nat) (x : List Nat) : Prop where
  live : (s : Int) + x.length ≤ A.live
  get : ∀ (i : Nat) (h : i < x.length), A.bs[s + i]? = some x[i]
theorem Holds.has {A : Arn} {s : Nat} {x : List Nat} (h : Holds A s x) : A.has s x.length = true := by
  have := h.live
  rw [Arn.has_iff]; omega
theorem Holds.part {A : Arn} {s : Nat} {x : List Nat} (h : Holds A s x) {i : Nat} (hi : i < x.length) : A.part s x.length i 1 = true := by
  have := h.live
  rw [Arn.part_iff]; omega
theorem Holds.byte {A : Arn} {s : Nat} {x : List Nat} (h : Holds A s x) {i : Nat} (hi : i < x.length) : A.byteV s x.length i = x[i] := by
  unfold Arn.byteV Arn.slot
  rw [if_pos (h.part hi), show ((s : Int) + (i : Int)).toNat = s + i by omega, List.getD_eq_getElem?_getD, h.get i hi]
  rfl
def base (A : Arn) (t z : Int) (k c p : Nat) : Nat := if 0 < p / k then A.wordV t z (((p / k : Nat) : Int) * 256 - 256 + c) else 0
def tail (x : List Nat) (k c p : Nat) : Nat := ((x.drop (p / k * k)).take (p - p / k * k)).count c
section
variable {hp : List Blk} {L : Nat} {H d : List Nat} {r q : Nat} {A : Arn}
theorem rank_loop (hF : Fit hp.length L H) (k : ArOk hp.length r q H A) {s b c : Nat} {x : List Nat} (hx : Holds A s x) (hb : hp[b]? = some (.cells 0 true [.int .i64 s, .int .i64 x.length])) (hrb : r ≠ b) (hqb : q ≠ b) (hid : H.contains b = false) (hm : x.length ≤ 65536) :
    ∀ (j i : Nat), i + j ≤ x.length → ∀ n sn : Nat, n ≤ 4294967296 + i → sn ≤ i → ∃ fr,
    Liter env lb48_0 [12, 13, 18, 5, 0, 7, 4] hp.length [(12, .int .i64 n), (13, .int .i64 sn), (18, .int .i64 i), (5, .int .i64 (i + j : Nat)), (0, arP r), (7, .pointer (some ⟨b, 0, some 0⟩)), (4, .int .u8 c)] ⟨put hp r q A, L, H, []⟩ =
      some (.exit 0, fr, ⟨put hp r q A, L, H, []⟩) ∧ fr.get 12 = some (.int .i64 (n + ((x.drop i).take j).count c : Nat)) ∧ fr.get 13 = some (.int .i64 (sn + j : Nat))
  | 0, i, e, n, sn, h1, h2 => by
    rw [iter_by lb48_0.eq_1]
    simp (disch := (first | omega | (simp only [lnE, put_length] <;> omega) | (refine Fit.mono ‹Fit _ _ _› ?_ <;> (simp only [lnE, put_length] <;> omega)) | (refine Fit.draw ‹Fit _ _ _› ?_ ?_ <;> (simp only [lnE, put_length] <;> omega)) | (refine Fit.hid1 ‹Fit _ _ _› ?_ ?_ <;> (simp only [lnE, put_length] <;> omega)) | (refine Fit.hidc1 ‹Fit _ _ _› ?_ ?_ <;> (simp only [lnE, put_length] <;> omega)) | (refine Fit.hidc2 ‹Fit _ _ _› ?_ ?_ ?_ <;> (simp only [lnE, put_length] <;> omega)) | (refine Fit.draw1 ‹Fit _ _ _› ?_ ?_ ?_ <;> (simp only [lnE, put_length] <;> omega)) | (refine Fit.range0 ?_ ?_ <;> (simp only [lnE, put_length] <;> omega)) | (refine ArOk.mono ‹ArOk _ _ _ _ _› ?_ <;> (simp only [lnE, put_length] <;> omega)) | (refine ArOk.hid ‹ArOk _ _ _ _ _› ?_ ?_ <;> (simp only [lnE, put_length] <;> omega)) | (refine ArOk.hid0 ‹ArOk _ _ _ _ _› ?_ ?_ <;> (simp only [lnE, put_length] <;> omega)) | ((intro xr hxr; simp [AM.refs, refsF, refsC] at hxr) <;> (simp only [lnE, put_length] <;> omega)) | fail)) only [syA, syB, argFr, D, E, T, C, undefv, eqF, aeq, sheqs, sheq, rdCells, cellsOf, fill, putAt, if_true, if_false, reduceIte, ↓reduceIte, reduceCtorEq, eq_self, Nat.reduceEqDiff, Nat.reduceAdd, Nat.reduceSub, Nat.reduceMul, Nat.reduceLT, Nat.reduceLeDiff, Nat.reducePow, Nat.reduceDiv, Nat.reduceMod, Int.reduceLT, Int.reduceLE, Int.reduceGT, Int.reduceGE, Int.reduceToNat, Int.reducePow, Int.reduceNeg, Int.reduceBEq, Int.reduceBNe, Int.reduceEq, Int.reduceAdd, Int.reduceSub, Int.reduceMul, cellv, sc, flatv, refs, refsF, refsC, syR, Int.le_refl, hF.not0, hF.not1, hF.up0, hF.up1, k.hr, k.hq, Nat.add_zero]
    exact ⟨_, rfl, by simp [Fr.get], rfl⟩
  | j + 1, i, e, n, sn, h1, h2 => by
    have hi : i < x.length := by omega
    have hd : x.drop i = x[i] :: x.drop (i + 1) := List.drop_eq_getElem_cons hi
    have c1 : (i : Int) < (i + (j + 1) : Nat) := by omega
    have hbv := hx.byte hi
    have hpt := hx.part hi
    rw [hd, List.take_succ_cons]
    rw [iter_by lb48_0.eq_1]
    by_cases hc : x[i] = c
    · obtain ⟨fr, e1, e2, e3⟩ := rank_loop hF k hx hb hrb hqb hid hm (c := c) j (i + 1) (by omega) (n + 1) (sn + 1) (by omega) (by omega)
      rw [show i + 1 + j = i + (j + 1) by omega] at e1
      simp only [Int.natCast_add, Int.natCast_one] at e1 e2 e3 c1 ⊢
      have hc' : ((x[i] : Int) == c) = true := by rw [hc]; simp
      have hct : (x[i] :: (x.drop (i + 1)).take j).count c = ((x.drop (i + 1)).take j).count c + 1 := by rw [hc, List.count_cons_self]
      rw [hct]
      simp (disch := (first | omega | (simp only [lnE, put_length] <;> omega) | (refine Fit.mono ‹Fit _ _ _› ?_ <;> (simp only [lnE, put_length] <;> omega)) | (refine Fit.draw ‹Fit _ _ _› ?_ ?_ <;> (simp only [lnE, put_length] <;> omega)) | (refine Fit.hid1 ‹Fit _ _ _› ?_ ?_ <;> (simp only [lnE, put_length] <;> omega)) | (refine Fit.hidc1 ‹Fit _ _ _› ?_ ?_ <;> (simp only [lnE, put_length] <;> omega)) | (refine Fit.hidc2 ‹Fit _ _ _› ?_ ?_ ?_ <;> (simp only [lnE, put_length] <;> omega)) | (refine Fit.draw1 ‹Fit _ _ _› ?_ ?_ ?_ <;> (simp only [lnE, put_length] <;> omega)) | (refine Fit.range0 ?_ ?_ <;> (simp only [lnE, put_length] <;> omega)) | (refine ArOk.mono ‹ArOk _ _ _ _ _› ?_ <;> (simp only [lnE, put_length] <;> omega)) | (refine ArOk.hid ‹ArOk _ _ _ _ _› ?_ ?_ <;> (simp only [lnE, put_length] <;> omega)) | (refine ArOk.hid0 ‹ArOk _ _ _ _ _› ?_ ?_ <;> (simp only [lnE, put_length] <;> omega)) | ((intro xr hxr; simp [AM.refs, refsF, refsC] at hxr) <;> (simp only [lnE, put_length] <;> omega)) | fail)) only [syA, syB, argFr, D, E, T, C, undefv, eqF, aeq, sheqs, sheq, rdCells, cellsOf, fill, putAt, if_true, if_false, reduceIte, ↓reduceIte, reduceCtorEq, eq_self, Nat.reduceEqDiff, Nat.reduceAdd, Nat.reduceSub, Nat.reduceMul, Nat.reduceLT, Nat.reduceLeDiff, Nat.reducePow, Nat.reduceDiv, Nat.reduceMod, Int.reduceLT, Int.reduceLE, Int.reduceGT, Int.reduceGE, Int.reduceToNat, Int.reducePow, Int.reduceNeg, Int.reduceBEq, Int.reduceBNe, Int.reduceEq, Int.reduceAdd, Int.reduceSub, Int.reduceMul, cellv, sc, flatv, refs, refsF, refsC, syR, Int.le_refl, hF.not0, hF.not1, hF.up0, hF.up1, k.hr, k.hq, c1, hb, hid, byte_walk, hbv, hpt, hc', e1]
      refine ⟨fr, rfl, ?_, ?_⟩
      · rw [e2]; congr 2; omega
      · rw [e3]; congr 2; omega
    · obtain ⟨fr, e1, e2, e3⟩ := rank_loop hF k hx hb hrb hqb hid hm (c := c) j (i + 1) (by omega) n (sn + 1) (by omega) (by omega)
      rw [show i + 1 + j = i + (j + 1) by omega] at e1
      simp only [Int.natCast_add, Int.natCast_one] at e1 e2 e3 c1 ⊢
      have hc' : ((x[i] : Int) == c) = false := by rw [beq_eq_false_iff_ne]; omega
      have hct : (x[i] :: (x.drop (i + 1)).take j).count c = ((x.drop (i + 1)).take j).count c := List.count_cons_of_ne hc
      rw [hct]
      simp (disch := (first | omega | (simp only [lnE, put_length] <;> omega) | (refine Fit.mono ‹Fit _ _ _› ?_ <;> (simp only [lnE, put_length] <;> omega)) | (refine Fit.draw ‹Fit _ _ _› ?_ ?_ <;> (simp only [lnE, put_length] <;> omega)) | (refine Fit.hid1 ‹Fit _ _ _› ?_ ?_ <;> (simp only [lnE, put_length] <;> omega)) | (refine Fit.hidc1 ‹Fit _ _ _› ?_ ?_ <;> (simp only [lnE, put_length] <;> omega)) | (refine Fit.hidc2 ‹Fit _ _ _› ?_ ?_ ?_ <;> (simp only [lnE, put_length] <;> omega)) | (refine Fit.draw1 ‹Fit _ _ _› ?_ ?_ ?_ <;> (simp only [lnE, put_length] <;> omega)) | (refine Fit.range0 ?_ ?_ <;> (simp only [lnE, put_length] <;> omega)) | (refine ArOk.mono ‹ArOk _ _ _ _ _› ?_ <;> (simp only [lnE, put_length] <;> omega)) | (refine ArOk.hid ‹ArOk _ _ _ _ _› ?_ ?_ <;> (simp only [lnE, put_length] <;> omega)) | (refine ArOk.hid0 ‹ArOk _ _ _ _ _› ?_ ?_ <;> (simp only [lnE, put_length] <;> omega)) | ((intro xr hxr; simp [AM.refs, refsF, refsC] at hxr) <;> (simp only [lnE, put_length] <;> omega)) | fail)) only [syA, syB, argFr, D, E, T, C, undefv, eqF, aeq, sheqs, sheq, rdCells, cellsOf, fill, putAt, if_true, if_false, reduceIte, ↓reduceIte, reduceCtorEq, eq_self, Nat.reduceEqDiff, Nat.reduceAdd, Nat.reduceSub, Nat.reduceMul, Nat.reduceLT, Nat.reduceLeDiff, Nat.reducePow, Nat.reduceDiv, Nat.reduceMod, Int.reduceLT, Int.reduceLE, Int.reduceGT, Int.reduceGE, Int.reduceToNat, Int.reducePow, Int.reduceNeg, Int.reduceBEq, Int.reduceBNe, Int.reduceEq, Int.reduceAdd, Int.reduceSub, Int.reduceMul, cellv, sc, flatv, refs, refsF, refsC, syR, Int.le_refl, hF.not0, hF.not1, hF.up0, hF.up1, k.hr, k.hq, c1, hb, hid, byte_walk, hbv, hpt, hc', e1]
      refine ⟨fr, rfl, ?_, ?_⟩
      · rw [e2]
      · rw [e3]; congr 2; omega
theorem rank_walk (hF : Fit hp.length L H) (k : ArOk hp.length r q H A) {s c p kk : Nat} {t z : Int} {x : List Nat} (hx : Holds A s x) (hm : x.length ≤ 65536) (hv : rValid A s x.length t z kk = true) (hk : 1 ≤ kk) (hp2 : p ≤ x.length) (hc : c < 256) :
    Lrun env (.func 48) [arP r, .agg #[.int .i64 s, .int .i64 x.length], .agg #[.int .i64 t, .int .i64 z], .int .i64 kk, .int .u8 c, .int .i64 p] ⟨put hp r q A, L, H, d⟩ =
      some (.tuple #[.int .i64 (base A t z kk c p + tail x kk c p : Nat), .int .i64 (p % kk : Nat), .bool true], ⟨put hp r q A, L, H, d⟩) := by
  have h1 := k.r_lt
  have h2 := k.q_lt
  have d1 : decide (0 ≤ (p : Int) ∧ (p : Int) ≤ x.length) = true := by simp; omega
  have hk0 : ¬ (kk : Int) = 0 := by omega
  have hq : Int.tdiv (p : Int) (kk : Int) = ((p / kk : Nat) : Int) := by rw [Int.tdiv_eq_ediv_of_nonneg (by omega)]; rfl
  have hdm := Nat.div_add_mod p kk
  have hdl : p / kk * kk ≤ p := Nat.div_mul_le_self p kk
  have hdp : p / kk ≤ p := Nat.div_le_self p kk
  have hmm : ((p / kk : Nat) : Int) * (kk : Int) = ((p / kk * kk : Nat) : Int) := by simp
  have hmod : p % kk = p - p / kk * kk := by rw [Nat.mul_comm] at hdm; omega
  have kx := fun nw => (k.mono (m := (hp ++ nw).length) (by simp) : ArOk (hp ++ nw).length r q H A)
  have hbase : base A t z kk c p ≤ 4294967295 := by
    unfold base Arn.wordV
    split
    · split
      · have sl : ∀ a, A.slot t a < 256 := fun a => by
          unfold Arn.slot
          rw [List.getD_eq_getElem?_getD]
          cases hg : A.bs[(t + a).toNat]? with
          | none => simp
          | some y => exact k.by_ y (List.mem_of_getElem? hg)
        unfold le4
        have := sl (4 * (((p / kk : Nat) : Int) * 256 - 256 + c)); have := sl (4 * (((p / kk : Nat) : Int) * 256 - 256 + c) + 1); have := sl (4 * (((p / kk : Nat) : Int) * 256 - 256 + c) + 2); have := sl (4 * (((p / kk : Nat) : Int) * 256 - 256 + c) + 3)
        omega
      · omega
    · omega
  obtain ⟨fr, e1, e2, e3⟩ := rank_loop (hp := hp ++ [.cells 0 true [.int .i64 s, .int .i64 x.length], .cells 0 true [.int .i64 t, .int .i64 z]]) (b := hp.length) (c := c) (hF.mono (by simp)) (kx _) hx (by rw [get_new0]) (by omega) (by omega) hF.not0 hm (p - p / kk * kk) (p / kk * kk) (by omega) (base A t z kk c p) 0 (by omega) (by omega)
  rw [show p / kk * kk + (p - p / kk * kk) = p by omega] at e1
  simp only [List.length_append, List.length_cons, List.length_nil, Nat.zero_add, Nat.reduceAdd, Int.natCast_zero] at e1 e3
  rw [← hmod] at e3
  have e2' : fr.get 12 = some (.int .i64 (base A t z kk c p + tail x kk c p : Nat)) := e2
  have hpos : 0 < p / kk → base A t z kk c p = A.wordV t z (((p / kk : Nat) : Int) * 256 - 256 + c) := fun h => if_pos h
  have hneg : ¬ 0 < p / kk → base A t z kk c p = 0 := fun h => if_neg h
  clear e2 hdm hmod
  generalize base A t z kk c p = bs at *
  generalize tail x kk c p = tl at *
  generalize p / kk * kk = st at *
  generalize p / kk = mk at *
  rw [Lrun_sym 48 _ _ fn48]
  by_cases h0 : 0 < mk
  · have h0' : (mk : Int) > 0 := by omega
    have hb0 := hpos h0
    have hidx : ((mk : Int) - 1) * 256 + c = (mk : Int) * 256 - 256 + c := by omega
    rw [hb0] at e1 e2' hbase ⊢
    simp (disch := (first | omega | (simp only [lnE, put_length] <;> omega) | (refine Fit.mono ‹Fit _ _ _› ?_ <;> (simp only [lnE, put_length] <;> omega)) | (refine Fit.draw ‹Fit _ _ _› ?_ ?_ <;> (simp only [lnE, put_length] <;> omega)) | (refine Fit.hid1 ‹Fit _ _ _› ?_ ?_ <;> (simp only [lnE, put_length] <;> omega)) | (refine Fit.hidc1 ‹Fit _ _ _› ?_ ?_ <;> (simp only [lnE, put_length] <;> omega)) | (refine Fit.hidc2 ‹Fit _ _ _› ?_ ?_ ?_ <;> (simp only [lnE, put_length] <;> omega)) | (refine Fit.draw1 ‹Fit _ _ _› ?_ ?_ ?_ <;> (simp only [lnE, put_length] <;> omega)) | (refine Fit.range0 ?_ ?_ <;> (simp only [lnE, put_length] <;> omega)) | (refine ArOk.mono ‹ArOk _ _ _ _ _› ?_ <;> (simp only [lnE, put_length] <;> omega)) | (refine ArOk.hid ‹ArOk _ _ _ _ _› ?_ ?_ <;> (simp only [lnE, put_length] <;> omega)) | (refine ArOk.hid0 ‹ArOk _ _ _ _ _› ?_ ?_ <;> (simp only [lnE, put_length] <;> omega)) | ((intro xr hxr; simp [AM.refs, refsF, refsC] at hxr) <;> (simp only [lnE, put_length] <;> omega)) | fail)) only [syA, syB, argFr, D, E, T, C, undefv, eqF, aeq, sheqs, sheq, rdCells, cellsOf, fill, putAt, if_true, if_false, reduceIte, ↓reduceIte, reduceCtorEq, eq_self, Nat.reduceEqDiff, Nat.reduceAdd, Nat.reduceSub, Nat.reduceMul, Nat.reduceLT, Nat.reduceLeDiff, Nat.reducePow, Nat.reduceDiv, Nat.reduceMod, Int.reduceLT, Int.reduceLE, Int.reduceGT, Int.reduceGE, Int.reduceToNat, Int.reducePow, Int.reduceNeg, Int.reduceBEq, Int.reduceBNe, Int.reduceEq, Int.reduceAdd, Int.reduceSub, Int.reduceMul, cellv, sc, flatv, refs, refsF, refsC, syR, Int.le_refl, hF.not0, hF.not1, hF.up0, hF.up1, k.hr, k.hq, ac48, rvalid_walk, hv, within_walk, d1, hk0, hq, hmm, h0', hidx, word_walk, e1, e2', e3]
  · have h0' : ¬ (mk : Int) > 0 := by omega
    have hb0 := hneg h0
    rw [hb0] at e1 e2' ⊢
    simp only [Int.natCast_zero] at e1
    simp (disch := (first | omega | (simp only [lnE, put_length] <;> omega) | (refine Fit.mono ‹Fit _ _ _› ?_ <;> (simp only [lnE, put_length] <;> omega)) | (refine Fit.draw ‹Fit _ _ _› ?_ ?_ <;> (simp only [lnE, put_length] <;> omega)) | (refine Fit.hid1 ‹Fit _ _ _› ?_ ?_ <;> (simp only [lnE, put_length] <;> omega)) | (refine Fit.hidc1 ‹Fit _ _ _› ?_ ?_ <;> (simp only [lnE, put_length] <;> omega)) | (refine Fit.hidc2 ‹Fit _ _ _› ?_ ?_ ?_ <;> (simp only [lnE, put_length] <;> omega)) | (refine Fit.draw1 ‹Fit _ _ _› ?_ ?_ ?_ <;> (simp only [lnE, put_length] <;> omega)) | (refine Fit.range0 ?_ ?_ <;> (simp only [lnE, put_length] <;> omega)) | (refine ArOk.mono ‹ArOk _ _ _ _ _› ?_ <;> (simp only [lnE, put_length] <;> omega)) | (refine ArOk.hid ‹ArOk _ _ _ _ _› ?_ ?_ <;> (simp only [lnE, put_length] <;> omega)) | (refine ArOk.hid0 ‹ArOk _ _ _ _ _› ?_ ?_ <;> (simp only [lnE, put_length] <;> omega)) | ((intro xr hxr; simp [AM.refs, refsF, refsC] at hxr) <;> (simp only [lnE, put_length] <;> omega)) | fail)) only [syA, syB, argFr, D, E, T, C, undefv, eqF, aeq, sheqs, sheq, rdCells, cellsOf, fill, putAt, if_true, if_false, reduceIte, ↓reduceIte, reduceCtorEq, eq_self, Nat.reduceEqDiff, Nat.reduceAdd, Nat.reduceSub, Nat.reduceMul, Nat.reduceLT, Nat.reduceLeDiff, Nat.reducePow, Nat.reduceDiv, Nat.reduceMod, Int.reduceLT, Int.reduceLE, Int.reduceGT, Int.reduceGE, Int.reduceToNat, Int.reducePow, Int.reduceNeg, Int.reduceBEq, Int.reduceBNe, Int.reduceEq, Int.reduceAdd, Int.reduceSub, Int.reduceMul, cellv, sc, flatv, refs, refsF, refsC, syR, Int.le_refl, hF.not0, hF.not1, hF.up0, hF.up1, k.hr, k.hq, ac48, rvalid_walk, hv, within_walk, d1, hk0, hq, hmm, h0', e1, e2', e3]
end
end ArA
end Go.Proofs.Ytfefeikkjebfoaa
