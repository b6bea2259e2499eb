/-
  RANKS: Make on the abstract machine. Conditions: none.
-/
import Derived.Test.YtfefeikkjebfoaaRkD
set_option linter.all false
namespace Go.Proofs.Ytfefeikkjebfoaa
namespace ArA
open Go Go.RowKit AM ArEnv

/-- What the word w of the marks says. -/
def wval (x : List Nat) (k w : Nat) : Nat := (x.take ((w / 256 + 1) * k)).count (w % 256)
/-- B is A, but for the first n words from t on, which are the marks'. -/
structure Marked (A B : Arn) (t : Nat) (x : List Nat) (k n : Nat) : Prop where
  live : B.live = A.live
  peak : B.peak = A.peak
  len : B.bs.length = A.bs.length
  by_ : By B.bs
  out : ∀ p, p < t ∨ t + 4 * n ≤ p → B.bs[p]? = A.bs[p]?
  word : ∀ w, w < n → ∀ j, j < 4 → B.bs[t + 4 * w + j]? = (split4 (wval x k w))[j]?
theorem Marked.zero {A : Arn} (h : By A.bs) (t : Nat) (x : List Nat) (k : Nat) : Marked A A t x k 0 := ⟨rfl, rfl, rfl, h, fun _ _ => rfl, fun w hw => by omega⟩
theorem Marked.ok {A B : Arn} {t : Nat} {x : List Nat} {k n m r q : Nat} {H : List Nat} (h : Marked A B t x k n) (o : ArOk m r q H A) : ArOk m r q H B where
  r_lt := o.r_lt
  q_lt := o.q_lt
  ne := o.ne
  by_ := h.by_
  live0 := by rw [h.live]; exact o.live0
  live1 := by rw [h.live, h.len]; exact o.live1
  peak0 := by rw [h.peak]; exact o.peak0
  peak1 := by rw [h.peak, h.len]; exact o.peak1
  size := by rw [h.len]; exact o.size
  hr := o.hr
  hq := o.hq
theorem split4_by (v : Nat) : By (split4 v) := fun b hb => by
  simp only [split4, List.mem_cons, List.not_mem_nil, or_false] at hb
  rcases hb with rfl | rfl | rfl | rfl <;> omega
theorem wval_le (x : List Nat) (k w : Nat) : wval x k w ≤ x.length := Nat.le_trans List.count_le_length (by simp; omega)
theorem Marked.next {A B : Arn} {t z : Nat} {x : List Nat} {k n : Nat} (h : Marked A B t x k n) (hz : (t : Int) + z ≤ A.live) (h1 : A.live ≤ A.bs.length) (hn : 4 * n + 4 ≤ z) (hs : z ≤ 1048576) :
    B.wpart t z n = true ∧ Marked A (B.setWord t z n (wval x k n)) t x k (n + 1) := by
  have hw : B.wpart t z n = true := by
    unfold Arn.wpart
    rw [Bool.and_eq_true, decide_eq_true_eq, Arn.part_iff, h.live]
    omega
  refine ⟨hw, ?_⟩
  have e : B.setWord t z n (wval x k n) = ⟨putN B.bs (t + 4 * n) (split4 (wval x k n)), B.live, B.peak⟩ := by
    unfold Arn.setWord
    rw [if_pos hw]
    unfold Arn.setAt
    rw [show ((t : Int) + 4 * (n : Int)).toNat = t + 4 * n by omega]
  have hl4 : (split4 (wval x k n)).length = 4 := rfl
  have hfit : t + 4 * n + (split4 (wval x k n)).length ≤ B.bs.length := by rw [hl4, h.len]; omega
  rw [e]
  refine ⟨h.live, h.peak, by show (putN _ _ _).length = _; rw [putN_length hfit, h.len], putN_by h.by_ (split4_by _), fun p hp => ?_, fun w hw2 j hj => ?_⟩
  · show (putN _ _ _)[p]? = _
    rw [putN_get hfit, if_neg (by rw [hl4]; omega)]
    exact h.out p (by omega)
  · show (putN _ _ _)[t + 4 * w + j]? = _
    rw [putN_get hfit, hl4]
    by_cases hwn : w = n
    · subst hwn
      rw [if_pos (by omega), show t + 4 * w + j - (t + 4 * w) = j by omega]
    · rw [if_neg (by omega)]
      exact h.word w (by omega) j hj
theorem Marked.wordV {A B : Arn} {t z : Nat} {x : List Nat} {k n w : Nat} (h : Marked A B t x k n) (hz : (t : Int) + z ≤ A.live) (hn : 4 * n ≤ z) (hs : z ≤ 1048576) (hw : w < n) (hx : x.length ≤ 65536) : B.wordV t z w = wval x k w := by
  have hp : B.wpart t z w = true := by
    unfold Arn.wpart
    rw [Bool.and_eq_true, decide_eq_true_eq, Arn.part_iff, h.live]
    omega
  have sl : ∀ j, j < 4 → B.slot t (4 * (w : Int) + (j : Nat)) = ((split4 (wval x k w))[j]?).getD 0 := fun j hj => by
    unfold Arn.slot
    rw [show ((t : Int) + (4 * (w : Int) + (j : Nat))).toNat = t + 4 * w + j by omega, List.getD_eq_getElem?_getD, h.word w hw j hj]
  have s0 := sl 0 (by omega); have s1 := sl 1 (by omega); have s2 := sl 2 (by omega); have s3 := sl 3 (by omega)
  have hv := wval_le x k w
  unfold Arn.wordV
  rw [if_pos hp]
  simp only [Int.natCast_zero, Int.add_zero, Int.natCast_one, Int.cast_ofNat_Int] at s0 s1 s2 s3
  rw [s0, s1, s2, s3]
  exact le4_split (by omega)
theorem Marked.holds {A B : Arn} {s t : Nat} {x : List Nat} {k n : Nat} (h : Marked A B t x k n) (hx : Holds A s x) (hap : ∀ i, i < x.length → s + i < t ∨ t + 4 * n ≤ s + i) : Holds B s x :=
  ⟨by rw [h.live]; exact hx.live, fun i hi => by rw [h.out _ (hap i hi)]; exact hx.get i hi⟩
section
variable {hp : List Blk} {L : Nat} {H d : List Nat} {r q : Nat} {A : Arn}
theorem mark_loop (hF : Fit hp.length L H) (k : ArOk hp.length r q H A) (hw : L ≤ r ∧ L ≤ q) {t z g kk i : Nat} {tot : Int} {x : List Nat} {B5 CB : Blk} (hz : (t : Int) + z ≤ A.live) (hfit : 4 * (256 * g + 256) ≤ z) (hx : x.length ≤ 65536) (hg : (g + 1) * kk = i + 1) (hi : i < x.length) :
    ∀ (j b : Nat), b + j = 256 → ∀ B, Marked A B t x kk (256 * g + b) → ∃ fr B',
    Liter env lb56_0 [55, 3, 9, 5, 27, 28, 54, 0, 6, 13] (hp.length + 3) [(55, .int .i64 b), (3, .int .i64 kk), (9, .pointer (some ⟨hp.length + 2, 0, some 0⟩)), (5, .pointer (some ⟨hp.length, 0, some 0⟩)), (27, .int .i64 tot), (28, .int .i64 i), (54, .agg (c256 (x.take (i + 1))).toArray), (0, arP r), (6, .pointer (some ⟨hp.length + 1, 0, some 0⟩)), (13, .int .i64 (256 * g : Nat))]
      ⟨put (hp ++ [B5, .cells 0 true [.int .i64 t, .int .i64 z], CB]) r q B, L, H, []⟩ =
      some (.exit 2, fr, ⟨put (hp ++ [B5, .cells 0 true [.int .i64 t, .int .i64 z], CB]) r q B', L, H, []⟩) ∧ Marked A B' t x kk (256 * (g + 1)) ∧
      fr.get 3 = some (.int .i64 kk) ∧ fr.get 9 = some (.pointer (some ⟨hp.length + 2, 0, some 0⟩)) ∧ fr.get 5 = some (.pointer (some ⟨hp.length, 0, some 0⟩)) ∧ fr.get 27 = some (.int .i64 tot) ∧ fr.get 28 = some (.int .i64 i) ∧ fr.get 0 = some (arP r) ∧ fr.get 6 = some (.pointer (some ⟨hp.length + 1, 0, some 0⟩))
  | 0, b, e, B, hM => by
    obtain rfl : b = 256 := by omega
    rw [iter_by lb56_0.eq_1]
    simp (disch := (first | omega | (simp only [lnE, put_length] <;> omega) | (refine Fit.mono ‹Fit _ _ _› ?_ <;> (simp only [lnE, put_length] <;> omega)) | (refine Fit.draw ‹Fit _ _ _› ?_ ?_ <;> (simp only [lnE, put_length] <;> omega)) | (refine Fit.hid1 ‹Fit _ _ _› ?_ ?_ <;> (simp only [lnE, put_length] <;> omega)) | (refine Fit.hidc1 ‹Fit _ _ _› ?_ ?_ <;> (simp only [lnE, put_length] <;> omega)) | (refine Fit.hidc2 ‹Fit _ _ _› ?_ ?_ ?_ <;> (simp only [lnE, put_length] <;> omega)) | (refine Fit.draw1 ‹Fit _ _ _› ?_ ?_ ?_ <;> (simp only [lnE, put_length] <;> omega)) | (refine Fit.range0 ?_ ?_ <;> (simp only [lnE, put_length] <;> omega)) | (refine ArOk.mono ‹ArOk _ _ _ _ _› ?_ <;> (simp only [lnE, put_length] <;> omega)) | (refine ArOk.hid ‹ArOk _ _ _ _ _› ?_ ?_ <;> (simp only [lnE, put_length] <;> omega)) | (refine ArOk.hid0 ‹ArOk _ _ _ _ _› ?_ ?_ <;> (simp only [lnE, put_length] <;> omega)) | ((intro xr hxr; simp [AM.refs, refsF, refsC] at hxr) <;> (simp only [lnE, put_length] <;> omega)) | fail)) only [syA, syB, argFr, D, E, T, C, undefv, eqF, aeq, sheqs, sheq, rdCells, cellsOf, fill, putAt, if_true, if_false, reduceIte, ↓reduceIte, reduceCtorEq, eq_self, Nat.reduceEqDiff, Nat.reduceAdd, Nat.reduceSub, Nat.reduceMul, Nat.reduceLT, Nat.reduceLeDiff, Nat.reducePow, Nat.reduceDiv, Nat.reduceMod, Int.reduceLT, Int.reduceLE, Int.reduceGT, Int.reduceGE, Int.reduceToNat, Int.reducePow, Int.reduceNeg, Int.reduceBEq, Int.reduceBNe, Int.reduceEq, Int.reduceAdd, Int.reduceSub, Int.reduceMul, cellv, sc, flatv, refs, refsF, refsC, syR, Int.le_refl, hF.not0, hF.not1, hF.up0, hF.up1, k.hr, k.hq]
    exact ⟨_, B, rfl, by rw [show 256 * (g + 1) = 256 * g + 256 by omega]; exact hM, rfl, rfl, rfl, rfl, rfl, rfl, rfl⟩
  | j + 1, b, e, B, hM => by
    have hb : b < 256 := by omega
    have hrl := k.r_lt
    have hql := k.q_lt
    have hsz := k.size
    have hlv := k.live1
    obtain ⟨hwp, hM2⟩ := hM.next (z := z) hz hlv (by omega) (by omega)
    have hval : wval x kk (256 * g + b) = (x.take (i + 1)).count b := by
      unfold wval
      rw [show (256 * g + b) / 256 = g by omega, show (256 * g + b) % 256 = b by omega, hg]
    rw [hval] at hM2
    have hct : (x.take (i + 1)).count b ≤ 65536 := Nat.le_trans List.count_le_length (by simp; omega)
    obtain ⟨fr, B', e1, e2⟩ := mark_loop hF k hw hz hfit hx hg hi (B5 := B5) (CB := CB) (tot := tot) j (b + 1) (by omega) _ hM2
    have h1 : (b : Int) < 256 := by omega
    have h2 : 0 ≤ (b : Int) ∧ (b : Int) < 256 := by omega
    have hidx : ((256 * g : Nat) : Int) + (b : Int) = ((256 * g + b : Nat) : Int) := by omega
    have sw := fun nw => setWord_walk (d := []) (L := L) (H := H) (hp := hp ++ nw) (r := r) (q := q) (hF.mono (by simp)) ((hM.ok k).mono (by simp)) hw t z (256 * g + b : Nat) ((x.take (i + 1)).count b) (by omega)
    have hcell : (c256 (x.take (i + 1)))[b]? = some (.int .i64 ((x.take (i + 1)).count b : Nat)) := c256_at _ hb
    generalize B.setWord t z (256 * g + b : Nat) ((x.take (i + 1)).count b) = B2 at *
    generalize (x.take (i + 1)).count b = v at *
    simp only [Int.natCast_add, Int.natCast_one] at e1
    rw [iter_by lb56_0.eq_1]
    simp (disch := (first | omega | (simp only [lnE, put_length] <;> omega) | (refine Fit.mono ‹Fit _ _ _› ?_ <;> (simp only [lnE, put_length] <;> omega)) | (refine Fit.draw ‹Fit _ _ _› ?_ ?_ <;> (simp only [lnE, put_length] <;> omega)) | (refine Fit.hid1 ‹Fit _ _ _› ?_ ?_ <;> (simp only [lnE, put_length] <;> omega)) | (refine Fit.hidc1 ‹Fit _ _ _› ?_ ?_ <;> (simp only [lnE, put_length] <;> omega)) | (refine Fit.hidc2 ‹Fit _ _ _› ?_ ?_ ?_ <;> (simp only [lnE, put_length] <;> omega)) | (refine Fit.draw1 ‹Fit _ _ _› ?_ ?_ ?_ <;> (simp only [lnE, put_length] <;> omega)) | (refine Fit.range0 ?_ ?_ <;> (simp only [lnE, put_length] <;> omega)) | (refine ArOk.mono ‹ArOk _ _ _ _ _› ?_ <;> (simp only [lnE, put_length] <;> omega)) | (refine ArOk.hid ‹ArOk _ _ _ _ _› ?_ ?_ <;> (simp only [lnE, put_length] <;> omega)) | (refine ArOk.hid0 ‹ArOk _ _ _ _ _› ?_ ?_ <;> (simp only [lnE, put_length] <;> omega)) | ((intro xr hxr; simp [AM.refs, refsF, refsC] at hxr) <;> (simp only [lnE, put_length] <;> omega)) | fail)) only [syA, syB, argFr, D, E, T, C, undefv, eqF, aeq, sheqs, sheq, rdCells, cellsOf, fill, putAt, if_true, if_false, reduceIte, ↓reduceIte, reduceCtorEq, eq_self, Nat.reduceEqDiff, Nat.reduceAdd, Nat.reduceSub, Nat.reduceMul, Nat.reduceLT, Nat.reduceLeDiff, Nat.reducePow, Nat.reduceDiv, Nat.reduceMod, Int.reduceLT, Int.reduceLE, Int.reduceGT, Int.reduceGE, Int.reduceToNat, Int.reducePow, Int.reduceNeg, Int.reduceBEq, Int.reduceBNe, Int.reduceEq, Int.reduceAdd, Int.reduceSub, Int.reduceMul, cellv, sc, flatv, refs, refsF, refsC, syR, Int.le_refl, hF.not0, hF.not1, hF.up0, hF.up1, k.hr, k.hq, h1, h2, hcell, hidx, sw, hwp, e1]
    exact ⟨fr, B', rfl, e2⟩
theorem make_loop (hF : Fit hp.length L H) (k : ArOk hp.length r q H A) (hw : L ≤ r ∧ L ≤ q) {s t z kk : Nat} {x : List Nat} (hx : Holds A s x) (hz : (t : Int) + z ≤ A.live) (hk : 1 ≤ kk) (hm : x.length ≤ 65536) (hfit : 4 * (256 * (x.length / kk)) ≤ z) (hap : ∀ i, i < x.length → ∀ n, 4 * n ≤ z → s + i < t ∨ t + 4 * n ≤ s + i) :
    ∀ (j i : Nat), i + j = x.length / kk * kk → ∀ B, Marked A B t x kk (256 * (i / kk)) → ∃ fr B',
    Liter env lb56_1 [28, 27, 5, 6, 0, 9, 3] (hp.length + 3) [(28, .int .i64 i), (27, .int .i64 (x.length / kk * kk : Nat)), (5, .pointer (some ⟨hp.length, 0, some 0⟩)), (6, .pointer (some ⟨hp.length + 1, 0, some 0⟩)), (0, arP r), (9, .pointer (some ⟨hp.length + 2, 0, some 0⟩)), (3, .int .i64 kk)]
      ⟨put (hp ++ [.cells 0 true [.int .i64 s, .int .i64 x.length], .cells 0 true [.int .i64 t, .int .i64 z], .cells 0 true (c256 (x.take i))]) r q B, L, H, []⟩ =
      some (.exit 0, fr, ⟨put (hp ++ [.cells 0 true [.int .i64 s, .int .i64 x.length], .cells 0 true [.int .i64 t, .int .i64 z], .cells 0 true (c256 (x.take (x.length / kk * kk)))]) r q B', L, H, []⟩) ∧ Marked A B' t x kk (256 * (x.length / kk))
  | 0, i, e, B, hM => by
    obtain rfl : i = x.length / kk * kk := by omega
    rw [Nat.mul_div_cancel _ (by omega)] at hM
    rw [iter_by lb56_1.eq_1]
    simp (disch := (first | omega | (simp only [lnE, put_length] <;> omega) | (refine Fit.mono ‹Fit _ _ _› ?_ <;> (simp only [lnE, put_length] <;> omega)) | (refine Fit.draw ‹Fit _ _ _› ?_ ?_ <;> (simp only [lnE, put_length] <;> omega)) | (refine Fit.hid1 ‹Fit _ _ _› ?_ ?_ <;> (simp only [lnE, put_length] <;> omega)) | (refine Fit.hidc1 ‹Fit _ _ _› ?_ ?_ <;> (simp only [lnE, put_length] <;> omega)) | (refine Fit.hidc2 ‹Fit _ _ _› ?_ ?_ ?_ <;> (simp only [lnE, put_length] <;> omega)) | (refine Fit.draw1 ‹Fit _ _ _› ?_ ?_ ?_ <;> (simp only [lnE, put_length] <;> omega)) | (refine Fit.range0 ?_ ?_ <;> (simp only [lnE, put_length] <;> omega)) | (refine ArOk.mono ‹ArOk _ _ _ _ _› ?_ <;> (simp only [lnE, put_length] <;> omega)) | (refine ArOk.hid ‹ArOk _ _ _ _ _› ?_ ?_ <;> (simp only [lnE, put_length] <;> omega)) | (refine ArOk.hid0 ‹ArOk _ _ _ _ _› ?_ ?_ <;> (simp only [lnE, put_length] <;> omega)) | ((intro xr hxr; simp [AM.refs, refsF, refsC] at hxr) <;> (simp only [lnE, put_length] <;> omega)) | fail)) only [syA, syB, argFr, D, E, T, C, undefv, eqF, aeq, sheqs, sheq, rdCells, cellsOf, fill, putAt, if_true, if_false, reduceIte, ↓reduceIte, reduceCtorEq, eq_self, Nat.reduceEqDiff, Nat.reduceAdd, Nat.reduceSub, Nat.reduceMul, Nat.reduceLT, Nat.reduceLeDiff, Nat.reducePow, Nat.reduceDiv, Nat.reduceMod, Int.reduceLT, Int.reduceLE, Int.reduceGT, Int.reduceGE, Int.reduceToNat, Int.reducePow, Int.reduceNeg, Int.reduceBEq, Int.reduceBNe, Int.reduceEq, Int.reduceAdd, Int.reduceSub, Int.reduceMul, cellv, sc, flatv, refs, refsF, refsC, syR, Int.le_refl, hF.not0, hF.not1, hF.up0, hF.up1, k.hr, k.hq]
    exact ⟨_, B, rfl, hM⟩
  | j + 1, i, e, B, hM => by
    have hdl : x.length / kk * kk ≤ x.length := Nat.div_mul_le_self _ _
    have hi : i < x.length := by omega
    have hrl := k.r_lt
    have hql := k.q_lt
    have hik : i / kk ≤ x.length / kk := Nat.div_le_div_right (by omega)
    have hB := hM.holds hx fun y hy => hap y hy _ (by omega)
    have hbv := hB.byte hi
    have hpt := hB.part hi
    have hb : x[i] < 256 := by
      have := hx.get i hi
      exact k.by_ _ (List.mem_of_getElem? this)
    have bw := fun nw => byte_walk (d := []) (L := L) (H := H) (hp := hp ++ nw) (r := r) (q := q) (hF.mono (by simp)) ((hM.ok k).mono (by simp)) s x.length i
    simp only [hbv, hpt] at bw
    have h1 : (i : Int) < (x.length / kk * kk : Nat) := by omega
    have h4 : 0 ≤ (x[i] : Int) ∧ (x[i] : Int) < 256 := by omega
    have h5 : x[i] + 1 ≤ 256 := by omega
    have hct : (x.take i).count x[i] ≤ 65536 := Nat.le_trans List.count_le_length (by simp; omega)
    have hk0 : ¬ (kk : Int) = 0 := by omega
    have htm : Int.tmod ((i : Int) + 1) (kk : Int) = (((i + 1) % kk : Nat) : Int) := by rw [Int.tmod_eq_emod_of_nonneg (by omega)]; rfl
    have htd : Int.tdiv ((i : Int) + 1) (kk : Int) = (((i + 1) / kk : Nat) : Int) := by rw [Int.tdiv_eq_ediv_of_nonneg (by omega)]; rfl
    have hset := c256_set hi hb
    have hat := c256_at (x.take i) hb
    by_cases hmod : (i + 1) % kk = 0
    · have hdiv : (i + 1) / kk = i / kk + 1 := by
        rw [Nat.succ_div]
        rw [if_pos (Nat.dvd_of_mod_eq_zero hmod)]
      have hgk : (i / kk + 1) * kk = i + 1 := by rw [← hdiv]; exact Nat.div_mul_cancel (Nat.dvd_of_mod_eq_zero hmod)
      have hle2 : i / kk + 1 ≤ x.length / kk := by rw [← hdiv]; exact Nat.div_le_div_right (by omega)
      obtain ⟨fr2, B2, f1, hM2, f2, f3, f4, f5, f6, f7, f8⟩ := mark_loop (hp := hp) hF k hw (z := z) (g := i / kk) (kk := kk) (i := i) (tot := (x.length / kk * kk : Nat)) (B5 := .cells 0 true [.int .i64 s, .int .i64 x.length]) (CB := .cells 0 true (c256 (x.take (i + 1)))) hz (by omega) hm hgk hi 256 0 rfl B hM
      rw [← hdiv] at hM2
      obtain ⟨fr, B', e1, e2⟩ := make_loop hF k hw hx hz hk hm hfit hap j (i + 1) (by omega) B2 hM2
      have hm0 : (((i + 1) % kk : Nat) : Int) = 0 := by omega
      have hfst : (((((i + 1) / kk : Nat) : Int)) - 1) * 256 = ((256 * (i / kk) : Nat) : Int) := by rw [hdiv]; omega
      have hdb : (i + 1) / kk ≤ i + 1 := Nat.div_le_self _ _
      have hc256 : (c256 (x.take (i + 1))).take 256 = c256 (x.take (i + 1)) := List.take_of_length_le (by rw [c256_len]; omega)
      clear hik hle2 hgk hM hM2 hfit
      generalize (i + 1) / kk = dv at *
      generalize 256 * (i / kk) = fs at *
      generalize x.length / kk * kk = tt at *
      simp only [Int.natCast_zero] at f1
      simp only [Int.natCast_add, Int.natCast_one] at e1
      rw [iter_by lb56_1.eq_1]
      simp (disch := (first | omega | (simp only [lnE, put_length] <;> omega) | (refine Fit.mono ‹Fit _ _ _› ?_ <;> (simp only [lnE, put_length] <;> omega)) | (refine Fit.draw ‹Fit _ _ _› ?_ ?_ <;> (simp only [lnE, put_length] <;> omega)) | (refine Fit.hid1 ‹Fit _ _ _› ?_ ?_ <;> (simp only [lnE, put_length] <;> omega)) | (refine Fit.hidc1 ‹Fit _ _ _› ?_ ?_ <;> (simp only [lnE, put_length] <;> omega)) | (refine Fit.hidc2 ‹Fit _ _ _› ?_ ?_ ?_ <;> (simp only [lnE, put_length] <;> omega)) | (refine Fit.draw1 ‹Fit _ _ _› ?_ ?_ ?_ <;> (simp only [lnE, put_length] <;> omega)) | (refine Fit.range0 ?_ ?_ <;> (simp only [lnE, put_length] <;> omega)) | (refine ArOk.mono ‹ArOk _ _ _ _ _› ?_ <;> (simp only [lnE, put_length] <;> omega)) | (refine ArOk.hid ‹ArOk _ _ _ _ _› ?_ ?_ <;> (simp only [lnE, put_length] <;> omega)) | (refine ArOk.hid0 ‹ArOk _ _ _ _ _› ?_ ?_ <;> (simp only [lnE, put_length] <;> omega)) | ((intro xr hxr; simp [AM.refs, refsF, refsC] at hxr) <;> (simp only [lnE, put_length] <;> omega)) | fail)) only [syA, syB, argFr, D, E, T, C, undefv, eqF, aeq, sheqs, sheq, rdCells, cellsOf, fill, putAt, if_true, if_false, reduceIte, ↓reduceIte, reduceCtorEq, eq_self, Nat.reduceEqDiff, Nat.reduceAdd, Nat.reduceSub, Nat.reduceMul, Nat.reduceLT, Nat.reduceLeDiff, Nat.reducePow, Nat.reduceDiv, Nat.reduceMod, Int.reduceLT, Int.reduceLE, Int.reduceGT, Int.reduceGE, Int.reduceToNat, Int.reducePow, Int.reduceNeg, Int.reduceBEq, Int.reduceBNe, Int.reduceEq, Int.reduceAdd, Int.reduceSub, Int.reduceMul, cellv, sc, flatv, refs, refsF, refsC, syR, Int.le_refl, hF.not0, hF.not1, hF.up0, hF.up1, k.hr, k.hq, h1, h4, h5, bw, hat, hset, c256_len, hk0, htm, htd, hm0, hfst, hc256, f1, f2, f3, f4, f5, f6, f7, f8, e1]
      exact ⟨fr, B', rfl, e2⟩
    · have hdiv : (i + 1) / kk = i / kk := by
        rw [Nat.succ_div, if_neg (fun h => hmod (Nat.mod_eq_zero_of_dvd h)), Nat.add_zero]
      rw [← hdiv] at hM
      obtain ⟨fr, B', e1, e2⟩ := make_loop hF k hw hx hz hk hm hfit hap j (i + 1) (by omega) B hM
      have hm0 : ¬ (((i + 1) % kk : Nat) : Int) = 0 := by omega
      generalize x.length / kk * kk = tt at *
      simp only [Int.natCast_add, Int.natCast_one] at e1
      rw [iter_by lb56_1.eq_1]
      simp (disch := (first | omega | (simp only [lnE, put_length] <;> omega) | (refine Fit.mono ‹Fit _ _ _› ?_ <;> (simp only [lnE, put_length] <;> omega)) | (refine Fit.draw ‹Fit _ _ _› ?_ ?_ <;> (simp only [lnE, put_length] <;> omega)) | (refine Fit.hid1 ‹Fit _ _ _› ?_ ?_ <;> (simp only [lnE, put_length] <;> omega)) | (refine Fit.hidc1 ‹Fit _ _ _› ?_ ?_ <;> (simp only [lnE, put_length] <;> omega)) | (refine Fit.hidc2 ‹Fit _ _ _› ?_ ?_ ?_ <;> (simp only [lnE, put_length] <;> omega)) | (refine Fit.draw1 ‹Fit _ _ _› ?_ ?_ ?_ <;> (simp only [lnE, put_length] <;> omega)) | (refine Fit.range0 ?_ ?_ <;> (simp only [lnE, put_length] <;> omega)) | (refine ArOk.mono ‹ArOk _ _ _ _ _› ?_ <;> (simp only [lnE, put_length] <;> omega)) | (refine ArOk.hid ‹ArOk _ _ _ _ _› ?_ ?_ <;> (simp only [lnE, put_length] <;> omega)) | (refine ArOk.hid0 ‹ArOk _ _ _ _ _› ?_ ?_ <;> (simp only [lnE, put_length] <;> omega)) | ((intro xr hxr; simp [AM.refs, refsF, refsC] at hxr) <;> (simp only [lnE, put_length] <;> omega)) | fail)) only [syA, syB, argFr, D, E, T, C, undefv, eqF, aeq, sheqs, sheq, rdCells, cellsOf, fill, putAt, if_true, if_false, reduceIte, ↓reduceIte, reduceCtorEq, eq_self, Nat.reduceEqDiff, Nat.reduceAdd, Nat.reduceSub, Nat.reduceMul, Nat.reduceLT, Nat.reduceLeDiff, Nat.reducePow, Nat.reduceDiv, Nat.reduceMod, Int.reduceLT, Int.reduceLE, Int.reduceGT, Int.reduceGE, Int.reduceToNat, Int.reducePow, Int.reduceNeg, Int.reduceBEq, Int.reduceBNe, Int.reduceEq, Int.reduceAdd, Int.reduceSub, Int.reduceMul, cellv, sc, flatv, refs, refsF, refsC, syR, Int.le_refl, hF.not0, hF.not1, hF.up0, hF.up1, k.hr, k.hq, h1, h4, h5, bw, hat, hset, c256_len, hk0, htm, hm0, e1]
      exact ⟨fr, B', rfl, e2⟩
end
end ArA
end Go.Proofs.Ytfefeikkjebfoaa
