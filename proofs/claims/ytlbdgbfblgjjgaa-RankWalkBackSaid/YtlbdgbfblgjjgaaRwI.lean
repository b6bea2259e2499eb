/-
  RankWalkBack: the walk over the column and the index of a text returns the text, last byte first, whatever the distance: the run. Conditions: none.
-/
import Derived.Test.YtlbdgbfblgjjgaaRwH
set_option linter.all false
namespace Go.Proofs.Ytlbdgbfblgjjgaa
namespace ArA
open Go Go.RowKit AM ArEnv
theorem vw_st {kk : Nat} {x : List Nat} {ix : Nat} : ∀ (n k st : Nat), (∀ j, k ≤ j → j < k + n → rowK x ix j ≠ ix) → (vw (fun a => a % kk) x ix n (rowK x ix k) (st + stK kk x ix k)).2 = st + stK kk x ix (k + n)
  | 0, k, st, _ => rfl
  | n + 1, k, st, h => by
    unfold vw
    rw [if_neg (h k (Nat.le_refl _) (by omega))]
    have ih := vw_st (kk := kk) n (k + 1) st (fun j h1 h2 => h j (by omega) (by omega))
    have e1 : st + stK kk x ix k + 1 + atR ix (rowK x ix k) % kk = st + stK kk x ix (k + 1) := by simp only [stK]; omega
    rw [e1, show k + (n + 1) = k + 1 + n by omega]
    exact ih
section
variable {L : Nat} {H : List Nat} {r q w : Nat} {A : Arn} {z kk : Nat} {t o : List Nat}
theorem back_loop {hq : List Blk} (hF : Fit hq.length L H) (ho : Ord t o) {n0 : Nat} (k : WkOk hq.length r q w L H A 0 n0 z kk (o.idxOf 0) (colO t o)) {v : Value} (hr : ∀ B, Rd ⟨put (hq.set w B) r q A, L, H, []⟩ v t) (hcl : (colO t o).length = t.length) (hm : t.length ≤ 80) (S : Nat) (hS : S ≤ 100000) (hb : ∀ j, j ≤ t.length → stK kk (colO t o) (o.idxOf 0) j ≤ 100000) :
    ∀ n i : Nat, i + n = t.length → ∃ fr,
    Liter env lb6_0 [0, 10, 1, 12, 13] hq.length [(0, v), (10, wkP w), (1, .int .i64 kk), (12, .int .i64 S), (13, .int .i64 ((n : Int) - 1))] ⟨put (hq.set w (wB r 0 n0 z (o.idxOf 0) kk (colO t o) (rowK (colO t o) (o.idxOf 0) i) i (S + stK kk (colO t o) (o.idxOf 0) i))) r q A, L, H, []⟩ =
      some (.exit 0, fr, ⟨put (hq.set w (wB r 0 n0 z (o.idxOf 0) kk (colO t o) (rowK (colO t o) (o.idxOf 0) t.length) t.length (S + stK kk (colO t o) (o.idxOf 0) t.length))) r q A, L, H, []⟩) ∧ fr.get 0 = some v ∧ fr.get 10 = some (wkP w) ∧ fr.get 1 = some (.int .i64 kk) ∧ fr.get 12 = some (.int .i64 S)
  | 0, i, hi => by
    obtain rfl : i = t.length := by omega
    rw [iter_by lb6_0.eq_1]
    simp (disch := (first | omega | (simp only [lnE, put_length] <;> omega) | (refine Fit.mono ‹Fit _ _ _› ?_ <;> (simp only [lnE, put_length] <;> omega)) | (refine Fit.draw ‹Fit _ _ _› ?_ ?_ <;> (simp only [lnE, put_length] <;> omega)) | (refine Fit.hid1 ‹Fit _ _ _› ?_ ?_ <;> (simp only [lnE, put_length] <;> omega)) | (refine Fit.draw1 ‹Fit _ _ _› ?_ ?_ ?_ <;> (simp only [lnE, put_length] <;> omega)) | (refine Fit.range0 ?_ ?_ <;> (simp only [lnE, put_length] <;> omega)) | (refine ArOk.mono ‹ArOk _ _ _ _ _› ?_ <;> (simp only [lnE, put_length] <;> omega)) | (refine ArOk.hid ‹ArOk _ _ _ _ _› ?_ ?_ <;> (simp only [lnE, put_length] <;> omega)) | (refine ArOk.hid0 ‹ArOk _ _ _ _ _› ?_ ?_ <;> (simp only [lnE, put_length] <;> omega)) | ((intro xr hxr; simp [AM.refs, refsF, refsC] at hxr) <;> (simp only [lnE, put_length] <;> omega)) | fail)) only [syA, syB, argFr, D, E, T, C, undefv, eqF, aeq, sheqs, sheq, rdCells, cellsOf, fill, putAt, if_true, if_false, reduceIte, ↓reduceIte, reduceCtorEq, eq_self, Nat.reduceEqDiff, Nat.reduceAdd, Nat.reduceSub, Nat.reduceMul, Nat.reduceLT, Nat.reduceLeDiff, Nat.reducePow, Nat.reduceDiv, Nat.reduceMod, Int.reduceLT, Int.reduceLE, Int.reduceGT, Int.reduceGE, Int.reduceToNat, Int.reducePow, Int.reduceNeg, Int.reduceBEq, Int.reduceBNe, Int.reduceEq, Int.reduceAdd, Int.reduceSub, Int.reduceMul, cellv, sc, flatv, refs, refsF, refsC, syR, Int.le_refl]
    exact ⟨_, rfl, rfl, rfl, rfl, rfl⟩
  | n + 1, i, hi => by
    have hlen := (hr default).lenF
    obtain ⟨fr, f1, f2⟩ := back_loop hF ho k hr hcl hm S hS hb n (i + 1) (by omega)
    obtain ⟨a1, a2⟩ := way_byte ho (k := i) (by omega)
    have a3 := way_le ho (k := i) (by omega)
    obtain ⟨a4, a5⟩ := List.getElem?_eq_some_iff.1 a2
    have hbi := hb i (by omega)
    have nx := fun d => wB_next (d := d) hF k (told := i) (steps := S + stK kk (colO t o) (o.idxOf 0) i) (by omega) (by omega) (by omega) a1 a4
    rw [a5] at nx
    have e1 : nxR (colO t o) (o.idxOf 0) (rowK (colO t o) (o.idxOf 0) i) = rowK (colO t o) (o.idxOf 0) (i + 1) := rfl
    have e2 : S + stK kk (colO t o) (o.idxOf 0) i + 1 + atR (o.idxOf 0) (rowK (colO t o) (o.idxOf 0) i) % kk = S + stK kk (colO t o) (o.idxOf 0) (i + 1) := by simp only [stK]; omega
    simp only [e1, e2] at nx
    have hn : n < t.length := by omega
    have hgd : t.getD (t.length - i - 1) 0 = t[n] := by rw [show t.length - i - 1 = n by omega, List.getD_eq_getElem?_getD, List.getElem?_eq_getElem hn, Option.getD_some]
    rw [hgd] at nx
    obtain ⟨a, e, rfl⟩ : ∃ a e, v = .slice a t.length e := (hr default).len
    obtain ⟨b, of, g, pl, cs, rfl, _, hh, hb2, hcell⟩ := (hr (wB r 0 n0 z (o.idxOf 0) kk (colO t o) (rowK (colO t o) (o.idxOf 0) (i + 1)) (i + 1) (S + stK kk (colO t o) (o.idxOf 0) (i + 1)))).at_ hn
    simp only [] at hb2 hh
    have c1 : ((n + 1 : Nat) : Int) - 1 = n := by omega
    have c2 : (n : Int) ≥ 0 := by omega
    have c3 : 0 ≤ (n : Int) ∧ (n : Int) < t.length := by omega
    have hl1 : ∀ B, (put (hq.set w B) r q A).length = hq.length := fun B => by rw [put_length, List.length_set]
    generalize t[n] = y at *
    have hbe : ((y : Int) == y) = true := by simp
    rw [iter_by lb6_0.eq_1]
    simp (disch := (first | omega | (simp only [lnE, put_length] <;> omega) | (refine Fit.mono ‹Fit _ _ _› ?_ <;> (simp only [lnE, put_length] <;> omega)) | (refine Fit.draw ‹Fit _ _ _› ?_ ?_ <;> (simp only [lnE, put_length] <;> omega)) | (refine Fit.hid1 ‹Fit _ _ _› ?_ ?_ <;> (simp only [lnE, put_length] <;> omega)) | (refine Fit.draw1 ‹Fit _ _ _› ?_ ?_ ?_ <;> (simp only [lnE, put_length] <;> omega)) | (refine Fit.range0 ?_ ?_ <;> (simp only [lnE, put_length] <;> omega)) | (refine ArOk.mono ‹ArOk _ _ _ _ _› ?_ <;> (simp only [lnE, put_length] <;> omega)) | (refine ArOk.hid ‹ArOk _ _ _ _ _› ?_ ?_ <;> (simp only [lnE, put_length] <;> omega)) | (refine ArOk.hid0 ‹ArOk _ _ _ _ _› ?_ ?_ <;> (simp only [lnE, put_length] <;> omega)) | ((intro xr hxr; simp [AM.refs, refsF, refsC] at hxr) <;> (simp only [lnE, put_length] <;> omega)) | fail)) only [syA, syB, argFr, D, E, T, C, undefv, eqF, aeq, sheqs, sheq, rdCells, cellsOf, fill, putAt, if_true, if_false, reduceIte, ↓reduceIte, reduceCtorEq, eq_self, Nat.reduceEqDiff, Nat.reduceAdd, Nat.reduceSub, Nat.reduceMul, Nat.reduceLT, Nat.reduceLeDiff, Nat.reducePow, Nat.reduceDiv, Nat.reduceMod, Int.reduceLT, Int.reduceLE, Int.reduceGT, Int.reduceGE, Int.reduceToNat, Int.reducePow, Int.reduceNeg, Int.reduceBEq, Int.reduceBNe, Int.reduceEq, Int.reduceAdd, Int.reduceSub, Int.reduceMul, cellv, sc, flatv, refs, refsF, refsC, syR, Int.le_refl, hlen, c1, c2, c3, nx, hb2, hh, hcell, hbe, hl1, f1]
    exact ⟨fr, rfl, f2⟩
end
theorem rwback_run {hp : List Blk} {v : Value} {x : List Nat} (hr : Rd ⟨hp, hp.length, [], []⟩ v x) (kk : Int) (hk0 : -9223372036854775808 ≤ kk) (hk1 : kk ≤ 9223372036854775807) :
    ∃ σ', Lrun env (.func 6) [v, .int .i64 kk] ⟨hp, hp.length, [], []⟩ = some (.bool true, σ') := by
  have hF : Fit hp.length hp.length [] := ⟨Nat.le_refl _, Low.nil _⟩
  have hlen := hr.lenF
  rw [Lrun_sym 6 _ _ fn6]
  by_cases g1 : (x.length : Int) = 0
  · simp (disch := (first | omega | (simp only [lnE] <;> omega) | (refine Fit.mono ‹Fit _ _ _› ?_ <;> (simp only [lnE] <;> omega)) | (refine Fit.draw ‹Fit _ _ _› ?_ ?_ <;> (simp only [lnE] <;> omega)) | (refine Fit.hid1 ‹Fit _ _ _› ?_ ?_ <;> (simp only [lnE] <;> omega)) | (refine Fit.draw1 ‹Fit _ _ _› ?_ ?_ ?_ <;> (simp only [lnE] <;> omega)) | (refine Fit.range0 ?_ ?_ <;> (simp only [lnE] <;> omega)) | fail)) only [syA, syB, argFr, D, E, T, C, undefv, eqF, aeq, sheqs, sheq, rdCells, cellsOf, fill, putAt, if_true, if_false, reduceIte, ↓reduceIte, reduceCtorEq, eq_self, Nat.reduceEqDiff, Nat.reduceAdd, Nat.reduceSub, Nat.reduceMul, Nat.reduceLT, Nat.reduceLeDiff, Nat.reducePow, Nat.reduceDiv, Nat.reduceMod, Int.reduceLT, Int.reduceLE, Int.reduceGT, Int.reduceGE, Int.reduceToNat, Int.reducePow, Int.reduceNeg, Int.reduceBEq, Int.reduceBNe, Int.reduceEq, Int.reduceAdd, Int.reduceSub, Int.reduceMul, cellv, sc, flatv, refs, refsF, refsC, hF.not0, hF.not1, hF.up0, hF.up1, ac6, hlen, g1, wakes21_walk]
    exact ⟨_, rfl⟩
  have g1' : ((x.length : Int) == 0) = false := by rw [beq_eq_false_iff_ne]; exact g1
  by_cases g2 : (x.length : Int) > 80
  · simp (disch := (first | omega | (simp only [lnE] <;> omega) | (refine Fit.mono ‹Fit _ _ _› ?_ <;> (simp only [lnE] <;> omega)) | (refine Fit.draw ‹Fit _ _ _› ?_ ?_ <;> (simp only [lnE] <;> omega)) | (refine Fit.hid1 ‹Fit _ _ _› ?_ ?_ <;> (simp only [lnE] <;> omega)) | (refine Fit.draw1 ‹Fit _ _ _› ?_ ?_ ?_ <;> (simp only [lnE] <;> omega)) | (refine Fit.range0 ?_ ?_ <;> (simp only [lnE] <;> omega)) | fail)) only [syA, syB, argFr, D, E, T, C, undefv, eqF, aeq, sheqs, sheq, rdCells, cellsOf, fill, putAt, if_true, if_false, reduceIte, ↓reduceIte, reduceCtorEq, eq_self, Nat.reduceEqDiff, Nat.reduceAdd, Nat.reduceSub, Nat.reduceMul, Nat.reduceLT, Nat.reduceLeDiff, Nat.reducePow, Nat.reduceDiv, Nat.reduceMod, Int.reduceLT, Int.reduceLE, Int.reduceGT, Int.reduceGE, Int.reduceToNat, Int.reducePow, Int.reduceNeg, Int.reduceBEq, Int.reduceBNe, Int.reduceEq, Int.reduceAdd, Int.reduceSub, Int.reduceMul, cellv, sc, flatv, refs, refsF, refsC, hF.not0, hF.not1, hF.up0, hF.up1, ac6, hlen, g1', g2, wakes21_walk]
    exact ⟨_, rfl⟩
  by_cases g3 : kk < 1
  · simp (disch := (first | omega | (simp only [lnE] <;> omega) | (refine Fit.mono ‹Fit _ _ _› ?_ <;> (simp only [lnE] <;> omega)) | (refine Fit.draw ‹Fit _ _ _› ?_ ?_ <;> (simp only [lnE] <;> omega)) | (refine Fit.hid1 ‹Fit _ _ _› ?_ ?_ <;> (simp only [lnE] <;> omega)) | (refine Fit.draw1 ‹Fit _ _ _› ?_ ?_ ?_ <;> (simp only [lnE] <;> omega)) | (refine Fit.range0 ?_ ?_ <;> (simp only [lnE] <;> omega)) | fail)) only [syA, syB, argFr, D, E, T, C, undefv, eqF, aeq, sheqs, sheq, rdCells, cellsOf, fill, putAt, if_true, if_false, reduceIte, ↓reduceIte, reduceCtorEq, eq_self, Nat.reduceEqDiff, Nat.reduceAdd, Nat.reduceSub, Nat.reduceMul, Nat.reduceLT, Nat.reduceLeDiff, Nat.reducePow, Nat.reduceDiv, Nat.reduceMod, Int.reduceLT, Int.reduceLE, Int.reduceGT, Int.reduceGE, Int.reduceToNat, Int.reducePow, Int.reduceNeg, Int.reduceBEq, Int.reduceBNe, Int.reduceEq, Int.reduceAdd, Int.reduceSub, Int.reduceMul, cellv, sc, flatv, refs, refsF, refsC, hF.not0, hF.not1, hF.up0, hF.up1, ac6, hlen, g1', g2, g3, wakes21_walk]
    exact ⟨_, rfl⟩
  by_cases g4 : kk > 100
  · simp (disch := (first | omega | (simp only [lnE] <;> omega) | (refine Fit.mono ‹Fit _ _ _› ?_ <;> (simp only [lnE] <;> omega)) | (refine Fit.draw ‹Fit _ _ _› ?_ ?_ <;> (simp only [lnE] <;> omega)) | (refine Fit.hid1 ‹Fit _ _ _› ?_ ?_ <;> (simp only [lnE] <;> omega)) | (refine Fit.draw1 ‹Fit _ _ _› ?_ ?_ ?_ <;> (simp only [lnE] <;> omega)) | (refine Fit.range0 ?_ ?_ <;> (simp only [lnE] <;> omega)) | fail)) only [syA, syB, argFr, D, E, T, C, undefv, eqF, aeq, sheqs, sheq, rdCells, cellsOf, fill, putAt, if_true, if_false, reduceIte, ↓reduceIte, reduceCtorEq, eq_self, Nat.reduceEqDiff, Nat.reduceAdd, Nat.reduceSub, Nat.reduceMul, Nat.reduceLT, Nat.reduceLeDiff, Nat.reducePow, Nat.reduceDiv, Nat.reduceMod, Int.reduceLT, Int.reduceLE, Int.reduceGT, Int.reduceGE, Int.reduceToNat, Int.reducePow, Int.reduceNeg, Int.reduceBEq, Int.reduceBNe, Int.reduceEq, Int.reduceAdd, Int.reduceSub, Int.reduceMul, cellv, sc, flatv, refs, refsF, refsC, hF.not0, hF.not1, hF.up0, hF.up1, ac6, hlen, g1', g2, g3, g4, wakes21_walk]
    exact ⟨_, rfl⟩
  obtain ⟨kk, rfl⟩ := Int.eq_ofNat_of_zero_le (by omega : 0 ≤ kk)
  have ho := ordR_ord x
  have t17 := turn17_walk (d := []) (hq := hp) (L := hp.length) (H := []) hF hr (by omega)
  have hcl := colO_len ho
  have hcix2 : (turnR x).2.1 ≤ x.length := (turnR_len x).2
  rw [(turnR_is x).1, (turnR_is x).2] at t17
  rw [(turnR_is x).2] at hcix2
  have hby : By (colO x (ordR x (x.length + 1))) := colO_by hr.by_
  generalize ordR x (x.length + 1) = o at *
  have hcix1 : 1 ≤ o.idxOf 0 := by
    rcases Nat.eq_zero_or_pos (o.idxOf 0) with h | h
    · have h1 := List.getElem_idxOf (x := 0) (xs := o) (List.idxOf_lt_length_iff.2 (ho.mem.2 (Nat.zero_le _)))
      have h2 := ho.first
      simp only [h] at h1
      rw [List.getElem?_eq_getElem (by have := ho.len; omega), h1] at h2
      simp only [Option.some.injEq] at h2
      omega
    · exact h
  have hne : colO x o ≠ [] := by intro h; rw [h] at hcl; simp at hcl; omega
  rw [bv_ne hne, bb_ne hne] at t17
  have hdv : (colO x o).length / kk ≤ (colO x o).length := Nat.div_le_self _ _
  obtain ⟨sz, hszn⟩ : ∃ sz, 4 * (256 * ((colO x o).length / kk)) = sz := ⟨_, rfl⟩
  have hs : (if (kk : Int) > 0 then 1024 * ((colO x o).length : Int).tdiv kk else 0) = (sz : Int) := by
    rw [if_pos (by omega), show ((colO x o).length : Int).tdiv (kk : Int) = (((colO x o).length / kk : Nat) : Int) from rfl]; omega
  have hrc : Rd ⟨hp ++ [.cells (colO x o).length true (u8s (colO x o))], hp.length, [], []⟩ (.slice (some ⟨hp.length, 0, some (colO x o).length⟩) (colO x o).length 1) (colO x o) := Rd.whole (by rw [get_new0]) rfl hby (.inr rfl)
  have ld := laid21_walk (d := []) (hp := hp ++ [.cells (colO x o).length true (u8s (colO x o))]) (L := hp.length) (H := []) (kk := kk) (sz := sz) (e := 0) (hF.mono (by simp)) hrc (by omega) hs (by omega) (by omega)
  obtain ⟨B, n1, k1⟩ := made21 (hp := hp ++ [.cells (colO x o).length true (u8s (colO x o))]) hby (by omega) (by omega) (kk := kk) (ix := o.idxOf 0) (by omega) hszn (by omega) hp.length (by simp) [.cells 0 true [.int .i64 0, .int .i64 (colO x o).length], .cells 0 true [.int .i64 (colO x o).length, .int .i64 sz]] rfl
  obtain ⟨CB, hCB⟩ : ∃ CB, CB = Blk.cells (colO x o).length true (u8s (colO x o)) := ⟨_, rfl⟩
  rw [← hCB] at hrc ld n1 k1 t17
  have hset : ∀ W W', (hp ++ [CB, default, default, Blk.cells 0 true [.int .i64 0, .int .i64 (colO x o).length], .cells 0 true [.int .i64 (colO x o).length, .int .i64 sz], W]).set (hp.length + 5) W' = hp ++ [CB, default, default, Blk.cells 0 true [.int .i64 0, .int .i64 (colO x o).length], .cells 0 true [.int .i64 (colO x o).length, .int .i64 sz], W'] := fun W W' => by simp only [set_new, List.set_cons_succ, List.set_cons_zero]
  obtain ⟨hq, hqe⟩ : ∃ hq, hq = hp ++ [CB, default, default, Blk.cells 0 true [.int .i64 0, .int .i64 (colO x o).length], .cells 0 true [.int .i64 (colO x o).length, .int .i64 sz], default] := ⟨_, rfl⟩
  have hql : hq.length = hp.length + 6 := by rw [hqe]; simp
  simp only [List.length_append, List.length_cons, List.length_nil, Nat.zero_add] at k1
  have kq : WkOk hq.length (hp.length + 1) (hp.length + 1 + 1) (hp.length + 5) hp.length [] B 0 (colO x o).length sz kk (o.idxOf 0) (colO x o) := by rw [hql]; exact k1
  have hFq : Fit hq.length hp.length [] := ⟨by omega, Low.nil _⟩
  have hrq : ∀ B', Rd ⟨put (hq.set (hp.length + 5) B') (hp.length + 1) (hp.length + 1 + 1) B, hp.length, [], []⟩ v x := fun B' => by rw [hqe, hset]; exact hr.put (by omega) (by omega)
  have va := fun d => wB_valid (d := d) hFq kq (by omega) (row := 0) (told := 0) (steps := 0) (by omega)
  have hvc := (vw_cost (f := fun a => a % kk) (k := kk) (fun a => by have := Nat.mod_lt a (show 0 < kk by omega); omega) (x := colO x o) (ix := o.idxOf 0) x.length 0 0).2
  have hvr := vw_right (f := fun a => a % kk) ho
  have hvr0 := vw_right (f := fun _ => 0) ho
  have hway : ∀ j, 0 ≤ j → j < 0 + x.length → rowK (colO x o) (o.idxOf 0) j ≠ o.idxOf 0 := fun j _ hj => (way_byte ho (by omega)).1
  have hst := vw_st (kk := kk) x.length 0 0 hway
  simp only [rowK, stK, Nat.add_zero, Nat.zero_add] at hst
  have hmono : ∀ j i, stK kk (colO x o) (o.idxOf 0) i ≤ stK kk (colO x o) (o.idxOf 0) (i + j) := fun j => by
    induction j with
    | zero => intro i; exact Nat.le_refl _
    | succ j ih => intro i; have := ih i; rw [← Nat.add_assoc]; simp only [stK]; omega
  have hkm : x.length * kk ≤ 8000 := Nat.le_trans (Nat.mul_le_mul (show x.length ≤ 80 by omega) (show kk ≤ 100 by omega)) (by decide)
  rw [hst] at hvc hvr
  have hb : ∀ j, j ≤ x.length → stK kk (colO x o) (o.idxOf 0) j ≤ 100000 := fun j hj => by
    have := hmono (x.length - j) j
    rw [show j + (x.length - j) = x.length by omega] at this
    omega
  obtain ⟨fr, e1, e2, e3, e4, e5⟩ := back_loop (A := B) hFq ho kq hrq hcl (by omega) (stK kk (colO x o) (o.idxOf 0) x.length) (by omega) hb x.length 0 (by omega)
  rw [hcl] at va
  rw [hvr0.1, hst] at va
  have sp := fun d => wB_steps (d := d) hFq kq (row := 0) (told := 0) (steps := stK kk (colO x o) (o.idxOf 0) x.length)
  have dn := fun d => wB_done (d := d) hFq kq (told := x.length) (row := rowK (colO x o) (o.idxOf 0) x.length) (steps := stK kk (colO x o) (o.idxOf 0) x.length + stK kk (colO x o) (o.idxOf 0) x.length) (.inl hcl.symm)
  have sp2 := fun d => wB_steps (d := d) hFq kq (row := rowK (colO x o) (o.idxOf 0) x.length) (told := x.length) (steps := stK kk (colO x o) (o.idxOf 0) x.length + stK kk (colO x o) (o.idxOf 0) x.length)
  simp only [rowK, stK, Nat.add_zero] at e1
  simp only [hqe, hset] at va e1 sp dn sp2
  have m1 : (x.length : Int) * (kk : Int) = ((x.length * kk : Nat) : Int) := by rw [Int.natCast_mul]
  have hvc1 : x.length ≤ stK kk (colO x o) (o.idxOf 0) x.length := hvr.2
  have hvc2 : stK kk (colO x o) (o.idxOf 0) x.length ≤ x.length * kk := by omega
  generalize stK kk (colO x o) (o.idxOf 0) x.length = S at *
  generalize x.length * kk = P at *
  have m2 : (S : Int) ≥ x.length := by omega
  have m3 : (S : Int) ≤ (P : Nat) := by omega
  have m4 : 2 * (S : Int) = ((S + S : Nat) : Int) := by omega
  simp only [List.length_append, List.length_cons, List.length_nil, Nat.zero_add, Nat.reduceAdd, List.append_assoc, List.cons_append, List.nil_append, Int.natCast_zero, Nat.add_zero, Int.natCast_one, decide_true, hcl] at n1 va e1 dn ld sp sp2 t17
  simp (disch := (first | omega | (simp only [lnE, put_length] <;> omega) | (refine Fit.mono ‹Fit _ _ _› ?_ <;> (simp only [lnE, put_length] <;> omega)) | (refine Fit.draw ‹Fit _ _ _› ?_ ?_ <;> (simp only [lnE, put_length] <;> omega)) | (refine Fit.hid1 ‹Fit _ _ _› ?_ ?_ <;> (simp only [lnE, put_length] <;> omega)) | (refine Fit.draw1 ‹Fit _ _ _› ?_ ?_ ?_ <;> (simp only [lnE, put_length] <;> omega)) | (refine Fit.range0 ?_ ?_ <;> (simp only [lnE, put_length] <;> omega)) | (refine ArOk.mono ‹ArOk _ _ _ _ _› ?_ <;> (simp only [lnE, put_length] <;> omega)) | (refine ArOk.hid ‹ArOk _ _ _ _ _› ?_ ?_ <;> (simp only [lnE, put_length] <;> omega)) | (refine ArOk.hid0 ‹ArOk _ _ _ _ _› ?_ ?_ <;> (simp only [lnE, put_length] <;> omega)) | ((intro xr hxr; simp [AM.refs, refsF, refsC] at hxr) <;> (simp only [lnE, put_length] <;> omega)) | fail)) only [syA, syB, argFr, D, E, T, C, undefv, eqF, aeq, sheqs, sheq, rdCells, cellsOf, fill, putAt, if_true, if_false, reduceIte, ↓reduceIte, reduceCtorEq, eq_self, Nat.reduceEqDiff, Nat.reduceAdd, Nat.reduceSub, Nat.reduceMul, Nat.reduceLT, Nat.reduceLeDiff, Nat.reducePow, Nat.reduceDiv, Nat.reduceMod, Int.reduceLT, Int.reduceLE, Int.reduceGT, Int.reduceGE, Int.reduceToNat, Int.reducePow, Int.reduceNeg, Int.reduceBEq, Int.reduceBNe, Int.reduceEq, Int.reduceAdd, Int.reduceSub, Int.reduceMul, cellv, sc, flatv, refs, refsF, refsC, syR, Int.le_refl, hF.not0, hF.not1, hF.up0, hF.up1, ac6, hlen, g1', g2, g3, g4, t17, ld, n1, va, sp, e1, e2, e3, e4, e5, dn, sp2, m1, m2, m3, m4, wakes21_walk, gc_bool_new]
  exact ⟨_, rfl⟩
end ArA
end Go.Proofs.Ytlbdgbfblgjjgaa
