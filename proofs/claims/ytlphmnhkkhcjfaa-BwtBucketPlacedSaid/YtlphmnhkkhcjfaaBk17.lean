/-
  THE WAY BACK: walks of the reference's After, Back and Valid. Conditions: none.
-/
import Derived.Test.YtlphmnhkkhcjfaaNx17
set_option linter.all false
namespace Go.Proofs.Ytlphmnhkkhcjfaa
namespace ArA
open Go Go.RowKit AM ArEnv
/-- How many are less than each byte; byte y is counted below k. -/
def aL (l : List Nat) (y k : Nat) : List Value := (List.range 256).map fun j => .int .i64 ((less j l + (if y < j ∧ j < k then 1 else 0) : Nat) : Int)
theorem aL_len (l : List Nat) (y k : Nat) : (aL l y k).length = 256 := by simp [aL]
theorem aL_at (l : List Nat) (y k : Nat) {j : Nat} (h : j < 256) : (aL l y k)[j]? = some (.int .i64 ((less j l + (if y < j ∧ j < k then 1 else 0) : Nat) : Int)) := by simp [aL, h]
theorem aL_zero : c256 [] = aL [] 0 0 := ext256 (c256_len _) (aL_len _ _ _) fun j hj => by rw [c256_at _ hj, aL_at _ _ _ hj, if_neg (by omega)]; rfl
theorem aL_start (l : List Nat) (y : Nat) : aL l 0 0 = aL l y (y + 1) := ext256 (aL_len _ _ _) (aL_len _ _ _) fun j hj => by rw [aL_at _ _ _ hj, aL_at _ _ _ hj, if_neg (by omega), if_neg (by omega)]
theorem aL_set (l : List Nat) {y k : Nat} (h1 : y < k) (h : k < 256) : (aL l y k).set k (.int .i64 ((less k l : Nat) + 1)) = aL l y (k + 1) := ext256 (by rw [List.length_set, aL_len]) (aL_len _ _ _) fun j hj => by
  rw [List.getElem?_set, aL_at l y (k + 1) hj]
  by_cases e : k = j
  · subst e; rw [if_pos rfl, if_pos (by rw [aL_len]; exact h), if_pos (by omega)]; congr 2
  · rw [if_neg e, aL_at l y k hj]
    by_cases h2 : y < j ∧ j < k
    · rw [if_pos h2, if_pos (by omega)]
    · rw [if_neg h2, if_neg (by omega)]
theorem aL_end {l : List Nat} {i : Nat} (h : i < l.length) : aL (l.take i) l[i] 256 = aL (l.take (i + 1)) 0 0 := ext256 (aL_len _ _ _) (aL_len _ _ _) fun j hj => by
  rw [aL_at _ _ _ hj, aL_at _ _ _ hj, List.take_add_one, List.getElem?_eq_getElem h]
  simp only [Option.toList_some, less_app, less]
  rw [if_neg (show ¬ (0 < j ∧ j < 0) by omega)]
  by_cases e : l[i] < j
  · rw [if_pos ⟨e, hj⟩, if_pos e]
  · rw [if_neg (by omega), if_neg e]
/-- The rows after the rows of the column's places. -/
def aftR (x : List Nat) (n : Nat) : List Nat := (List.range n).map fun i => 1 + (less (x.getD i 0) x + same (x.getD i 0) (x.take i))
theorem aftR_len (x : List Nat) (n : Nat) : (aftR x n).length = n := by simp [aftR]
theorem aftR_succ (x : List Nat) (n : Nat) : aftR x (n + 1) = aftR x n ++ [1 + (less (x.getD n 0) x + same (x.getD n 0) (x.take n))] := by simp [aftR, List.range_succ]
theorem aftR_at (x : List Nat) {n i : Nat} (h : i < n) : (i64n (aftR x n))[i]? = some (.int .i64 ((1 + (less (x.getD i 0) x + same (x.getD i 0) (x.take i)) : Nat) : Int)) := by simp [i64n, aftR, h]
section
variable {L : Nat} {H d : List Nat}
theorem af_in {hq : List Blk} (hF : Fit hq.length L H) {v : Value} {l : List Nat} {y i : Nat} {Cb : Blk} (hl : l.length ≤ 1048576) : ∀ n k, k + n = 256 → y < k → ∃ fr,
    Liter env lb68_1 [6, 4, 0, 5, 3] (hq.length + 2) [(6, .int .i64 k), (4, .pointer (some ⟨hq.length + 1, 0, some 0⟩)), (0, v), (5, .int .i64 i), (3, .pointer (some ⟨hq.length, 0, some 0⟩))] ⟨hq ++ [.cells 0 true (aL l y k), Cb], L, H, []⟩ =
      some (.exit 2, fr, ⟨hq ++ [.cells 0 true (aL l y 256), Cb], L, H, []⟩) ∧ fr.get 4 = some (.pointer (some ⟨hq.length + 1, 0, some 0⟩)) ∧ fr.get 0 = some v ∧ fr.get 5 = some (.int .i64 i) ∧ fr.get 3 = some (.pointer (some ⟨hq.length, 0, some 0⟩))
  | 0, k, hk, hy => by
    obtain rfl : k = 256 := by omega
    rw [iter_by lb68_1.eq_1]
    simp (disch := (first | omega | (simp only [lnE] <;> omega) | (refine Fit.mono ‹Fit _ _ _› ?_ <;> (simp only [lnE] <;> omega)) | (refine Fit.draw ‹Fit _ _ _› ?_ ?_ <;> (simp only [lnE] <;> omega)) | (refine Fit.hid1 ‹Fit _ _ _› ?_ ?_ <;> (simp only [lnE] <;> omega)) | (refine Fit.draw1 ‹Fit _ _ _› ?_ ?_ ?_ <;> (simp only [lnE] <;> omega)) | (refine Fit.range0 ?_ ?_ <;> (simp only [lnE] <;> omega)) | fail)) only [syA, syB, argFr, D, E, T, C, undefv, eqF, aeq, sheqs, sheq, rdCells, cellsOf, fill, putAt, if_true, if_false, reduceIte, ↓reduceIte, reduceCtorEq, eq_self, Nat.reduceEqDiff, Nat.reduceAdd, Nat.reduceSub, Nat.reduceMul, Nat.reduceLT, Nat.reduceLeDiff, Nat.reducePow, Nat.reduceDiv, Nat.reduceMod, Int.reduceLT, Int.reduceLE, Int.reduceGT, Int.reduceGE, Int.reduceToNat, Int.reducePow, Int.reduceNeg, Int.reduceBEq, Int.reduceBNe, Int.reduceEq, Int.reduceAdd, Int.reduceSub, Int.reduceMul, cellv, sc, flatv, refs, refsF, refsC, hF.not0, hF.not1, hF.up0, hF.up1]
    exact ⟨_, rfl, rfl, rfl, rfl, rfl⟩
  | n + 1, k, hk, hy => by
    obtain ⟨fr, f1, f2⟩ := af_in hF (v := v) (l := l) (y := y) (i := i) (Cb := Cb) hl n (k + 1) (by omega) (by omega)
    have hk2 : k < 256 := by omega
    have h1 : (k : Int) < 256 := by omega
    have h2 : 0 ≤ (k : Int) ∧ (k : Int) < 256 := by omega
    have h3 := aL_at l y k hk2
    rw [if_neg (by omega), Nat.add_zero] at h3
    have h4 := less_same k l
    have h5 : k + 1 ≤ 256 := by omega
    simp only [Int.natCast_add, Int.natCast_one] at f1
    rw [iter_by lb68_1.eq_1]
    simp (disch := (first | omega | (simp only [lnE] <;> omega) | (refine Fit.mono ‹Fit _ _ _› ?_ <;> (simp only [lnE] <;> omega)) | (refine Fit.draw ‹Fit _ _ _› ?_ ?_ <;> (simp only [lnE] <;> omega)) | (refine Fit.hid1 ‹Fit _ _ _› ?_ ?_ <;> (simp only [lnE] <;> omega)) | (refine Fit.draw1 ‹Fit _ _ _› ?_ ?_ ?_ <;> (simp only [lnE] <;> omega)) | (refine Fit.range0 ?_ ?_ <;> (simp only [lnE] <;> omega)) | fail)) only [syA, syB, argFr, D, E, T, C, undefv, eqF, aeq, sheqs, sheq, rdCells, cellsOf, fill, putAt, if_true, if_false, reduceIte, ↓reduceIte, reduceCtorEq, eq_self, Nat.reduceEqDiff, Nat.reduceAdd, Nat.reduceSub, Nat.reduceMul, Nat.reduceLT, Nat.reduceLeDiff, Nat.reducePow, Nat.reduceDiv, Nat.reduceMod, Int.reduceLT, Int.reduceLE, Int.reduceGT, Int.reduceGE, Int.reduceToNat, Int.reducePow, Int.reduceNeg, Int.reduceBEq, Int.reduceBNe, Int.reduceEq, Int.reduceAdd, Int.reduceSub, Int.reduceMul, cellv, sc, flatv, refs, refsF, refsC, hF.not0, hF.not1, hF.up0, hF.up1, h1, h2, h3, h5, aL_len, aL_set l hy hk2, f1]
    exact ⟨fr, rfl, f2⟩
theorem af_less {hq : List Blk} (hF : Fit hq.length L H) {v : Value} {x : List Nat} (hr : Rd ⟨hq, L, H, []⟩ v x) {Cb : Blk} (hl : x.length ≤ 1048576) : ∀ n i, i + n = x.length → ∃ fr,
    Liter env lb68_2 [0, 4, 5, 3] (hq.length + 2) [(0, v), (4, .pointer (some ⟨hq.length + 1, 0, some 0⟩)), (5, .int .i64 i), (3, .pointer (some ⟨hq.length, 0, some 0⟩))] ⟨hq ++ [.cells 0 true (aL (x.take i) 0 0), Cb], L, H, []⟩ =
      some (.exit 0, fr, ⟨hq ++ [.cells 0 true (aL x 0 0), Cb], L, H, []⟩) ∧ fr.get 4 = some (.pointer (some ⟨hq.length + 1, 0, some 0⟩)) ∧ fr.get 0 = some v ∧ fr.get 3 = some (.pointer (some ⟨hq.length, 0, some 0⟩))
  | 0, i, hi => by
    obtain rfl : i = x.length := by omega
    have hlen := hr.lenF
    rw [iter_by lb68_2.eq_1, List.take_length]
    simp (disch := (first | omega | (simp only [lnE] <;> omega) | (refine Fit.mono ‹Fit _ _ _› ?_ <;> (simp only [lnE] <;> omega)) | (refine Fit.draw ‹Fit _ _ _› ?_ ?_ <;> (simp only [lnE] <;> omega)) | (refine Fit.hid1 ‹Fit _ _ _› ?_ ?_ <;> (simp only [lnE] <;> omega)) | (refine Fit.draw1 ‹Fit _ _ _› ?_ ?_ ?_ <;> (simp only [lnE] <;> omega)) | (refine Fit.range0 ?_ ?_ <;> (simp only [lnE] <;> omega)) | fail)) only [syA, syB, argFr, D, E, T, C, undefv, eqF, aeq, sheqs, sheq, rdCells, cellsOf, fill, putAt, if_true, if_false, reduceIte, ↓reduceIte, reduceCtorEq, eq_self, Nat.reduceEqDiff, Nat.reduceAdd, Nat.reduceSub, Nat.reduceMul, Nat.reduceLT, Nat.reduceLeDiff, Nat.reducePow, Nat.reduceDiv, Nat.reduceMod, Int.reduceLT, Int.reduceLE, Int.reduceGT, Int.reduceGE, Int.reduceToNat, Int.reducePow, Int.reduceNeg, Int.reduceBEq, Int.reduceBNe, Int.reduceEq, Int.reduceAdd, Int.reduceSub, Int.reduceMul, cellv, sc, flatv, refs, refsF, refsC, hF.not0, hF.not1, hF.up0, hF.up1, hlen]
    exact ⟨_, rfl, rfl, rfl, rfl⟩
  | n + 1, i, hi => by
    obtain ⟨a, e, rfl⟩ := hr.len
    obtain ⟨fr, f1, f2⟩ := af_less hF hr (Cb := Cb) hl n (i + 1) (by omega)
    have hix : i < x.length := by omega
    have hlen := hr.lenF
    have hb256 := hr.by_.get hix
    obtain ⟨fr2, a1, a2, a3, a4, a5⟩ := af_in hF (v := .slice a x.length e) (l := x.take i) (y := x[i]) (i := i) (Cb := Cb) (by have := List.length_take_le i x; omega) (255 - x[i]) (x[i] + 1) (by omega) (by omega)
    rw [← aL_start, aL_end hix] at a1
    obtain ⟨b, o, g, pl, cs, rfl, _, hh, hb, hc1⟩ := hr.at_ hix
    simp only [] at hb hh
    have hbl : b < hq.length := (List.getElem?_eq_some_iff.1 hb).1
    have hb2 : ∀ nw, (hq ++ nw)[b]? = some (.cells g pl cs) := fun nw => by rw [List.getElem?_append_left hbl]; exact hb
    have c1 : (i : Int) < x.length := by omega
    have c2 : 0 ≤ (i : Int) ∧ (i : Int) < x.length := by omega
    have hc3 : 0 ≤ (x[i] : Int) ∧ (x[i] : Int) ≤ 255 := by omega
    simp only [Int.natCast_add, Int.natCast_one] at f1 a1
    rw [iter_by lb68_2.eq_1]
    simp (disch := (first | omega | (simp only [lnE] <;> omega) | (refine Fit.mono ‹Fit _ _ _› ?_ <;> (simp only [lnE] <;> omega)) | (refine Fit.draw ‹Fit _ _ _› ?_ ?_ <;> (simp only [lnE] <;> omega)) | (refine Fit.hid1 ‹Fit _ _ _› ?_ ?_ <;> (simp only [lnE] <;> omega)) | (refine Fit.draw1 ‹Fit _ _ _› ?_ ?_ ?_ <;> (simp only [lnE] <;> omega)) | (refine Fit.range0 ?_ ?_ <;> (simp only [lnE] <;> omega)) | fail)) only [syA, syB, argFr, D, E, T, C, undefv, eqF, aeq, sheqs, sheq, rdCells, cellsOf, fill, putAt, if_true, if_false, reduceIte, ↓reduceIte, reduceCtorEq, eq_self, Nat.reduceEqDiff, Nat.reduceAdd, Nat.reduceSub, Nat.reduceMul, Nat.reduceLT, Nat.reduceLeDiff, Nat.reducePow, Nat.reduceDiv, Nat.reduceMod, Int.reduceLT, Int.reduceLE, Int.reduceGT, Int.reduceGE, Int.reduceToNat, Int.reducePow, Int.reduceNeg, Int.reduceBEq, Int.reduceBNe, Int.reduceEq, Int.reduceAdd, Int.reduceSub, Int.reduceMul, cellv, sc, flatv, refs, refsF, refsC, hF.not0, hF.not1, hF.up0, hF.up1, c1, c2, hc3, hb2, hh, hc1, a1, a2, a3, a4, a5, f1]
    exact ⟨fr, rfl, f2⟩
theorem c256_same (l : List Nat) {j : Nat} (h : j < 256) : (c256 l)[j]? = some (.int .i64 (same j l : Nat)) := by rw [c256_at _ h, same_count]
theorem c256_setS {l : List Nat} {i : Nat} (h : i < l.length) (h16 : l[i] < 256) : (c256 (l.take i)).set l[i] (.int .i64 ((same l[i] (l.take i) : Nat) + 1)) = c256 (l.take (i + 1)) := by rw [same_count]; exact c256_set h h16
theorem af_out {hq : List Blk} (hF : Fit hq.length L H) {v : Value} {x : List Nat} (hr : Rd ⟨hq, L, H, []⟩ v x) (hl : x.length ≤ 65536) : ∀ n i, i + n = x.length → ∃ fr,
    Liter env lb68_0 [7, 8, 0, 3, 4] (hq.length + 2) [(7, iv (hq.length + 2) (aftR x i)), (8, .int .i64 i), (0, v), (3, .pointer (some ⟨hq.length, 0, some 0⟩)), (4, .pointer (some ⟨hq.length + 1, 0, some 0⟩))] ⟨hq ++ .cells 0 true (aL x 0 0) :: .cells 0 true (c256 (x.take i)) :: ib (aftR x i), L, H, []⟩ =
      some (.exit 4, fr, ⟨hq ++ .cells 0 true (aL x 0 0) :: .cells 0 true (c256 x) :: ib (aftR x x.length), L, H, []⟩) ∧ fr.get 7 = some (iv (hq.length + 2) (aftR x x.length))
  | 0, i, hi => by
    obtain rfl : i = x.length := by omega
    have hlen := hr.lenF
    rw [iter_by lb68_0.eq_1, List.take_length]
    simp (disch := (first | omega | (simp only [lnE] <;> omega) | (refine Fit.mono ‹Fit _ _ _› ?_ <;> (simp only [lnE] <;> omega)) | (refine Fit.draw ‹Fit _ _ _› ?_ ?_ <;> (simp only [lnE] <;> omega)) | (refine Fit.hid1 ‹Fit _ _ _› ?_ ?_ <;> (simp only [lnE] <;> omega)) | (refine Fit.draw1 ‹Fit _ _ _› ?_ ?_ ?_ <;> (simp only [lnE] <;> omega)) | (refine Fit.range0 ?_ ?_ <;> (simp only [lnE] <;> omega)) | fail)) only [syA, syB, argFr, D, E, T, C, undefv, eqF, aeq, sheqs, sheq, rdCells, cellsOf, fill, putAt, if_true, if_false, reduceIte, ↓reduceIte, reduceCtorEq, eq_self, Nat.reduceEqDiff, Nat.reduceAdd, Nat.reduceSub, Nat.reduceMul, Nat.reduceLT, Nat.reduceLeDiff, Nat.reducePow, Nat.reduceDiv, Nat.reduceMod, Int.reduceLT, Int.reduceLE, Int.reduceGT, Int.reduceGE, Int.reduceToNat, Int.reducePow, Int.reduceNeg, Int.reduceBEq, Int.reduceBNe, Int.reduceEq, Int.reduceAdd, Int.reduceSub, Int.reduceMul, cellv, sc, flatv, refs, refsF, refsC, hF.not0, hF.not1, hF.up0, hF.up1, hlen]
    exact ⟨_, rfl, rfl⟩
  | n + 1, i, hi => by
    obtain ⟨a, e, rfl⟩ := hr.len
    obtain ⟨fr, f1, f2⟩ := af_out hF hr hl n (i + 1) (by omega)
    have hix : i < x.length := by omega
    have hlen := hr.lenF
    have hb256 := hr.by_.get hix
    have hal := aftR_len x i
    have hgd : x.getD i 0 = x[i] := by rw [List.getD_eq_getElem?_getD, List.getElem?_eq_getElem hix, Option.getD_some]
    obtain ⟨b, o, g, pl, cs, rfl, _, hh, hb, hc1⟩ := hr.at_ hix
    simp only [] at hb hh
    have hbl : b < hq.length := (List.getElem?_eq_some_iff.1 hb).1
    have hb2 : ∀ nw, (hq ++ nw)[b]? = some (.cells g pl cs) := fun nw => by rw [List.getElem?_append_left hbl]; exact hb
    have c1 : (i : Int) < x.length := by omega
    have c2 : 0 ≤ (i : Int) ∧ (i : Int) < x.length := by omega
    have hc3 : 0 ≤ (x[i] : Int) ∧ (x[i] : Int) < 256 := by omega
    have hcL := aL_at x 0 0 hb256
    rw [if_neg (by omega), Nat.add_zero] at hcL
    have hcS := c256_same (x.take i) hb256
    have hset := c256_setS hix hb256
    have q1 := less_same x[i] x
    have q2 := same_le x[i] (x.take i)
    have q3 := List.length_take_le i x
    have q5 : x[i] + 1 ≤ 256 := by omega
    rw [aftR_succ, hgd] at f1
    have hval : (1 : Int) + (less x[i] x : Nat) + (same x[i] (x.take i) : Nat) = ((1 + (less x[i] x + same x[i] (x.take i)) : Nat) : Int) := by omega
    have hval2 : 1 + (less x[i] x + same x[i] (x.take i)) ≤ 200000 := by omega
    have hobn : ∀ m, AM.one (hq.length + 2) m b = b := fun m => one_old (by omega)
    have ho0 : ∀ m, AM.one (hq.length + 2) m hq.length = hq.length := fun m => one_old (by omega)
    have ho1 : ∀ m, AM.one (hq.length + 2) m (hq.length + 1) = hq.length + 1 := fun m => one_old (by omega)
    generalize hY : 1 + (less x[i] x + same x[i] (x.take i)) = Y at *
    generalize aftR x i = c at *
    rw [iter_by lb68_0.eq_1]
    by_cases hc : c = []
    · subst hc
      simp only [iv_nil, ib_nil, List.nil_append] at f1 ⊢
      rw [iv_ne (by simp), ib_ne (by simp)] at f1
      have a1 := capp_nil (hp := hq ++ [.cells 0 true (aL x 0 0), .cells 0 true (c256 (x.take i)), .cells 0 true [.int .i64 (Y : Int)]]) (L := L) (H := H) (d := []) (vs := i64n [Y]) (by simp [i64n]) (by simp [i64n]) (i64n_cellv _) (i64n_sc _)
      simp only [i64n_cons, i64n_nil, List.length_cons, List.length_nil, Nat.zero_add, List.append_assoc, List.cons_append, List.nil_append, List.length_append, Nat.reduceAdd] at a1 f1
      simp (disch := (first | omega | (simp only [lnE] <;> omega) | (refine Fit.mono ‹Fit _ _ _› ?_ <;> (simp only [lnE] <;> omega)) | (refine Fit.draw ‹Fit _ _ _› ?_ ?_ <;> (simp only [lnE] <;> omega)) | (refine Fit.hid1 ‹Fit _ _ _› ?_ ?_ <;> (simp only [lnE] <;> omega)) | (refine Fit.draw1 ‹Fit _ _ _› ?_ ?_ ?_ <;> (simp only [lnE] <;> omega)) | (refine Fit.range0 ?_ ?_ <;> (simp only [lnE] <;> omega)) | fail)) only [syA, syB, argFr, D, E, T, C, undefv, eqF, aeq, sheqs, sheq, rdCells, cellsOf, fill, putAt, if_true, if_false, reduceIte, ↓reduceIte, reduceCtorEq, eq_self, Nat.reduceEqDiff, Nat.reduceAdd, Nat.reduceSub, Nat.reduceMul, Nat.reduceLT, Nat.reduceLeDiff, Nat.reducePow, Nat.reduceDiv, Nat.reduceMod, Int.reduceLT, Int.reduceLE, Int.reduceGT, Int.reduceGE, Int.reduceToNat, Int.reducePow, Int.reduceNeg, Int.reduceBEq, Int.reduceBNe, Int.reduceEq, Int.reduceAdd, Int.reduceSub, Int.reduceMul, cellv, sc, flatv, refs, refsF, refsC, hF.not0, hF.not1, hF.up0, hF.up1, c1, c2, hc3, q5, hb2, hh, hc1, hcL, hcS, hval, aL_len, c256_len, a1, hset, small]
      have hg := gcFr_one (hp := hq ++ [.cells 0 true (aL x 0 0), .cells 0 true (c256 (x.take (i + 1)))]) (L := L) (H := H) (nw := [.cells 0 true [.int .i64 (Y : Int)], .cells 1 true [.int .i64 (Y : Int)]]) (fr := [(7, .slice (some ⟨hq.length + 3, 0, some 1⟩) 1 1), (8, .int .i64 (i + 1 : Nat)), (0, .slice (some ⟨b, o, some g⟩) x.length e), (3, .pointer (some ⟨hq.length, 0, some 0⟩)), (4, .pointer (some ⟨hq.length + 1, 0, some 0⟩))]) 1 rfl
          (by simp [refs, refsF, refsC]; omega) (by simp [refs, refsF, refsC])
      simp only [List.length_append, List.length_cons, List.length_nil, Nat.zero_add, Nat.reduceAdd, List.map_cons, List.map_nil, ren, renF, renC, hobn, ho0, ho1, List.append_assoc, List.cons_append, List.nil_append] at hg
      rw [one_new (base := hq.length + 2) (k := 1)] at hg
      have ir1 : ((i : Nat) : Int) + 1 = ((i + 1 : Nat) : Int) := by omega
      rw [ir1, hg]
      simp (disch := (first | omega | (simp only [lnE] <;> omega) | (refine Fit.mono ‹Fit _ _ _› ?_ <;> (simp only [lnE] <;> omega)) | (refine Fit.draw ‹Fit _ _ _› ?_ ?_ <;> (simp only [lnE] <;> omega)) | (refine Fit.hid1 ‹Fit _ _ _› ?_ ?_ <;> (simp only [lnE] <;> omega)) | (refine Fit.draw1 ‹Fit _ _ _› ?_ ?_ ?_ <;> (simp only [lnE] <;> omega)) | (refine Fit.range0 ?_ ?_ <;> (simp only [lnE] <;> omega)) | fail)) only [syA, syB, argFr, D, E, T, C, undefv, eqF, aeq, sheqs, sheq, rdCells, cellsOf, fill, putAt, if_true, if_false, reduceIte, ↓reduceIte, reduceCtorEq, eq_self, Nat.reduceEqDiff, Nat.reduceAdd, Nat.reduceSub, Nat.reduceMul, Nat.reduceLT, Nat.reduceLeDiff, Nat.reducePow, Nat.reduceDiv, Nat.reduceMod, Int.reduceLT, Int.reduceLE, Int.reduceGT, Int.reduceGE, Int.reduceToNat, Int.reducePow, Int.reduceNeg, Int.reduceBEq, Int.reduceBNe, Int.reduceEq, Int.reduceAdd, Int.reduceSub, Int.reduceMul, cellv, sc, flatv, refs, refsF, refsC, hF.not0, hF.not1, hF.up0, hF.up1]
      exact ⟨fr, f1, f2⟩
    · simp only [iv_ne hc, ib_ne hc] at f1 ⊢
      rw [iv_ne (by simp), ib_ne (by simp)] at f1
      have a1 := capp_full (hp := hq ++ [.cells 0 true (aL x 0 0), .cells 0 true (c256 (x.take i)), .cells c.length true (i64n c), .cells 0 true [.int .i64 (Y : Int)]]) (L := L) (b := hq.length + 2) (H := H) (d := []) (cs := i64n c) (vs := i64n [Y]) (by rw [get_new, i64n_len]; rfl) (by have := hF.1; omega) (hF.not1 2) (by simp [i64n_len]; omega) (i64n_cellv _) (i64n_sc _)
      simp only [i64n_len, i64n_cons, i64n_nil, List.length_cons, List.length_nil, Nat.zero_add, List.append_assoc, List.cons_append, List.nil_append, List.length_append, Nat.reduceAdd, set_new, List.set_cons_succ, List.set_cons_zero, i64n_app] at a1 f1
      simp (disch := (first | omega | (simp only [lnE] <;> omega) | (refine Fit.mono ‹Fit _ _ _› ?_ <;> (simp only [lnE] <;> omega)) | (refine Fit.draw ‹Fit _ _ _› ?_ ?_ <;> (simp only [lnE] <;> omega)) | (refine Fit.hid1 ‹Fit _ _ _› ?_ ?_ <;> (simp only [lnE] <;> omega)) | (refine Fit.draw1 ‹Fit _ _ _› ?_ ?_ ?_ <;> (simp only [lnE] <;> omega)) | (refine Fit.range0 ?_ ?_ <;> (simp only [lnE] <;> omega)) | fail)) only [syA, syB, argFr, D, E, T, C, undefv, eqF, aeq, sheqs, sheq, rdCells, cellsOf, fill, putAt, if_true, if_false, reduceIte, ↓reduceIte, reduceCtorEq, eq_self, Nat.reduceEqDiff, Nat.reduceAdd, Nat.reduceSub, Nat.reduceMul, Nat.reduceLT, Nat.reduceLeDiff, Nat.reducePow, Nat.reduceDiv, Nat.reduceMod, Int.reduceLT, Int.reduceLE, Int.reduceGT, Int.reduceGE, Int.reduceToNat, Int.reducePow, Int.reduceNeg, Int.reduceBEq, Int.reduceBNe, Int.reduceEq, Int.reduceAdd, Int.reduceSub, Int.reduceMul, cellv, sc, flatv, refs, refsF, refsC, hF.not0, hF.not1, hF.up0, hF.up1, c1, c2, hc3, q5, hb2, hh, hc1, hcL, hcS, hval, aL_len, c256_len, a1, hset, small]
      have hg := gcFr_one (hp := hq ++ [.cells 0 true (aL x 0 0), .cells 0 true (c256 (x.take (i + 1)))]) (L := L) (H := H) (nw := [.cells (c.length + 1) true (i64n c ++ [.int .i64 (Y : Int)]), .cells 0 true [.int .i64 (Y : Int)]]) (fr := [(7, .slice (some ⟨hq.length + 2, 0, some (c.length + 1)⟩) (c.length + 1) 1), (8, .int .i64 (i + 1 : Nat)), (0, .slice (some ⟨b, o, some g⟩) x.length e), (3, .pointer (some ⟨hq.length, 0, some 0⟩)), (4, .pointer (some ⟨hq.length + 1, 0, some 0⟩))]) 0 rfl
          (by simp [refs, refsF, refsC]; omega) (by simp [refs, refsF, refsC])
      simp only [List.length_append, List.length_cons, List.length_nil, Nat.zero_add, Nat.reduceAdd, List.map_cons, List.map_nil, ren, renF, renC, hobn, ho0, ho1, List.append_assoc, List.cons_append, List.nil_append, Nat.add_zero, one_new0] at hg
      have ir1 : ((i : Nat) : Int) + 1 = ((i + 1 : Nat) : Int) := by omega
      rw [ir1, hg]
      simp (disch := (first | omega | (simp only [lnE] <;> omega) | (refine Fit.mono ‹Fit _ _ _› ?_ <;> (simp only [lnE] <;> omega)) | (refine Fit.draw ‹Fit _ _ _› ?_ ?_ <;> (simp only [lnE] <;> omega)) | (refine Fit.hid1 ‹Fit _ _ _› ?_ ?_ <;> (simp only [lnE] <;> omega)) | (refine Fit.draw1 ‹Fit _ _ _› ?_ ?_ ?_ <;> (simp only [lnE] <;> omega)) | (refine Fit.range0 ?_ ?_ <;> (simp only [lnE] <;> omega)) | fail)) only [syA, syB, argFr, D, E, T, C, undefv, eqF, aeq, sheqs, sheq, rdCells, cellsOf, fill, putAt, if_true, if_false, reduceIte, ↓reduceIte, reduceCtorEq, eq_self, Nat.reduceEqDiff, Nat.reduceAdd, Nat.reduceSub, Nat.reduceMul, Nat.reduceLT, Nat.reduceLeDiff, Nat.reducePow, Nat.reduceDiv, Nat.reduceMod, Int.reduceLT, Int.reduceLE, Int.reduceGT, Int.reduceGE, Int.reduceToNat, Int.reducePow, Int.reduceNeg, Int.reduceBEq, Int.reduceBNe, Int.reduceEq, Int.reduceAdd, Int.reduceSub, Int.reduceMul, cellv, sc, flatv, refs, refsF, refsC, hF.not0, hF.not1, hF.up0, hF.up1]
      exact ⟨fr, f1, f2⟩
end
end ArA
end Go.Proofs.Ytlphmnhkkhcjfaa
