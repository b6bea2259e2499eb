/-
  LENGTH TABLES: Of, on the abstract machine: the changes from one length to another. Conditions: none.
-/
import Derived.Test.YtlphmnhkkhcjfaaLtR
import Derived.Test.YtlphmnhkkhcjfaaBmC
set_option linter.all false
section
namespace Go.Proofs.Ytlphmnhkkhcjfaa
namespace LtA
open Go Go.RowKit AM ArEnv Bt
variable {hp hq : List Blk} {L : Nat} {H d : List Nat} {a k : Nat} {l : List Nat}

theorem changes_walk (was now : Int) (hF : Fit hp.length L H) :
    Lrun env (.func 48) [.int .i64 was, .int .i64 now] ⟨hp, L, H, d⟩ = some (.func (.func 76) #[] #[.pointer (some ⟨hp.length, 0, some 0⟩), .pointer (some ⟨hp.length + 1, 0, some 0⟩)], ⟨hp ++ [.cells 0 true [.int .i64 now], .cells 0 true [.int .i64 was]], L, H, d⟩) := by
  rw [Lrun_sym 48 _ _ fn48]
  simp (disch := (first | omega | (simp only [lnE] <;> omega) | (refine Fit.mono ‹Fit _ _ _› ?_ <;> (simp only [lnE] <;> omega)) | (refine Fit.draw ‹Fit _ _ _› ?_ ?_ <;> (simp only [lnE] <;> omega)) | (refine Fit.hid1 ‹Fit _ _ _› ?_ ?_ <;> (simp only [lnE] <;> omega)) | (refine Fit.hidc1 ‹Fit _ _ _› ?_ ?_ <;> (simp only [lnE] <;> omega)) | (refine Fit.hidc2 ‹Fit _ _ _› ?_ ?_ ?_ <;> (simp only [lnE] <;> omega)) | (refine Fit.draw1 ‹Fit _ _ _› ?_ ?_ ?_ <;> (simp only [lnE] <;> omega)) | (refine Fit.range0 ?_ ?_ <;> (simp only [lnE] <;> omega)) | fail)) only [syA, syB, argFr, D, E, T, C, undefv, eqF, aeq, sheqs, sheq, rdCells, cellsOf, fill, putAt, if_true, if_false, reduceIte, ↓reduceIte, reduceCtorEq, eq_self, Nat.reduceEqDiff, Nat.reduceAdd, Nat.reduceSub, Nat.reduceMul, Nat.reduceLT, Nat.reduceLeDiff, Nat.reducePow, Nat.reduceDiv, Nat.reduceMod, Int.reduceLT, Int.reduceLE, Int.reduceGT, Int.reduceGE, Int.reduceToNat, Int.reducePow, Int.reduceNeg, Int.reduceBEq, Int.reduceBNe, Int.reduceEq, Int.reduceAdd, Int.reduceSub, Int.reduceMul, cellv, sc, flatv, refs, refsF, refsC, hF.not0, hF.not1, hF.up0, hF.up1, ac48]
  have e : gcY hp [Blk.cells 0 true [Value.int IntKind.i64 was], Blk.cells 0 true [Value.int IntKind.i64 now]] (.func (.func 76) #[] #[.pointer (some ⟨hp.length + 1, 0, some 0⟩), .pointer (some ⟨hp.length, 0, some 0⟩)]) L H false
      = gc hp.length [.func (.func 76) #[] #[.pointer (some ⟨hp.length + 1, 0, some 0⟩), .pointer (some ⟨hp.length, 0, some 0⟩)]] ⟨hp ++ [Blk.cells 0 true [Value.int IntKind.i64 was], Blk.cells 0 true [Value.int IntKind.i64 now]], L, H, []⟩ := rfl
  rw [e]
  have g0 : (hp ++ [Blk.cells 0 true [Value.int IntKind.i64 was], Blk.cells 0 true [Value.int IntKind.i64 now]])[hp.length]? = some (Blk.cells 0 true [Value.int IntKind.i64 was]) := get_new0 ..
  have g1 : (hp ++ [Blk.cells 0 true [Value.int IntKind.i64 was], Blk.cells 0 true [Value.int IntKind.i64 now]])[hp.length + 1]? = some (Blk.cells 0 true [Value.int IntKind.i64 now]) := by rw [get_new]; rfl
  rw [gc_many (R := [hp.length + 1, hp.length]) rfl (by simp) (by simp [AM.refs, refsF, refsC]) (by simp) (by simp) (fun r hr => by
    simp only [List.mem_cons, List.not_mem_nil, or_false] at hr
    rcases hr with rfl | rfl
    · exact ⟨_, _, g1⟩
    · exact ⟨_, _, g0⟩)]
  have hf : firsts [hp.length + 1, hp.length] [] = [hp.length + 1, hp.length] := by simp [firsts]
  rw [hf]
  have p1 : plc hp.length [hp.length + 1, hp.length] (hp.length + 1) = hp.length := by simp [plc]
  have p0 : plc hp.length [hp.length + 1, hp.length] hp.length = hp.length + 1 := by
    have : (hp.length + 1 == hp.length) = false := by simp
    simp [plc, List.idxOf_cons, this]
  simp only [List.map_cons, List.map_nil, ren, renF, renC, p0, p1, renAll, List.getD_eq_getElem?_getD, g0, g1, Option.getD_some]
  rfl
def ofBA : ACode := .region [D 8 (.mv (T 35))]
def ofB : ACode := .block 5 (.region [D 36 (.load none (T 2)), D 37 (.mv (T 8)), D 38 (.bslice true 1 1 [(.int .i64 0)] [(0, 1, (T 37))]), D 39 (.append true 1 (T 36) (T 38)), E (.store 1 (T 2) (T 39))])
/-- A bit more at the end of what has been written. -/
theorem of_round (w : Rs hq L H a k l) (h0 : l.length ≠ 0) {b : Nat} {fr : Fr} (hb : b < 2) (hs : l.length ≤ 100000) (hF : Fit hq.length L H) (h2 : fr.get 2 = some (.pointer (some ⟨a, 0, some 0⟩))) :
    Lrun (.yl env [35] ofBA ofB fr) (.yield 0) [.int .i64 b] ⟨hq, L, H, d⟩ = some (.bool true, ⟨rset hq a k (l ++ [b]), L, H, joinDirty d [a]⟩) := by
  rw [round_sym _ _ _ _ _ _ _ ⟨rfl, rfl⟩]
  have hw := w.w
  have hH := w.aH
  have hlt := w.lt
  have hkl := w.klt h0
  have hak := w.ne
  have hal : (a < L) = False := eq_false (by have := w.aL; omega)
  rw [Rr_some h0] at hw
  have happ := append_isg (hp := hq ++ [.cells 0 true [.int .i64 b]]) (L := L) (H := H) (d := []) (b := k) (g := l.length) (l := l) (m := [b]) (by rw [List.getElem?_append_left hkl, w.b h0]; rfl) w.kL w.kH (by simp) (by simp; omega)
  rw [List.set_append_left _ _ hkl] at happ
  simp only [List.length_cons, List.length_nil, Nat.zero_add, is, List.map_cons, List.map_nil] at happ
  have hka : ∀ x, (hq.set k x)[a]? = hq[a]? := fun x => List.getElem?_set_ne (Ne.symm hak)
  have hlb : (l ++ [b]).length ≠ 0 := by simp
  simp (disch := (first | omega | (simp only [lnE] <;> omega) | (refine Fit.mono ‹Fit _ _ _› ?_ <;> (simp only [lnE] <;> omega)) | (refine Fit.draw ‹Fit _ _ _› ?_ ?_ <;> (simp only [lnE] <;> omega)) | (refine Fit.hid1 ‹Fit _ _ _› ?_ ?_ <;> (simp only [lnE] <;> omega)) | (refine Fit.hidc1 ‹Fit _ _ _› ?_ ?_ <;> (simp only [lnE] <;> omega)) | (refine Fit.hidc2 ‹Fit _ _ _› ?_ ?_ ?_ <;> (simp only [lnE] <;> omega)) | (refine Fit.draw1 ‹Fit _ _ _› ?_ ?_ ?_ <;> (simp only [lnE] <;> omega)) | (refine Fit.range0 ?_ ?_ <;> (simp only [lnE] <;> omega)) | fail)) only [syA, syB, argFr, D, E, T, C, undefv, eqF, aeq, sheqs, sheq, rdCells, cellsOf, fill, putAt, if_true, if_false, reduceIte, ↓reduceIte, reduceCtorEq, eq_self, Nat.reduceEqDiff, Nat.reduceAdd, Nat.reduceSub, Nat.reduceMul, Nat.reduceLT, Nat.reduceLeDiff, Nat.reducePow, Nat.reduceDiv, Nat.reduceMod, Int.reduceLT, Int.reduceLE, Int.reduceGT, Int.reduceGE, Int.reduceToNat, Int.reducePow, Int.reduceNeg, Int.reduceBEq, Int.reduceBNe, Int.reduceEq, Int.reduceAdd, Int.reduceSub, Int.reduceMul, cellv, sc, flatv, refs, refsF, refsC, hF.not0, hF.not1, hF.up0, hF.up1, ofBA, ofB, List.zip_cons_cons, List.zip_nil_left, h2, hw, hH, hal, sm1, happ, hka]
  rw [gc_none' (by simp) (by simp) (by simpa using hlt) (by
    intro t ht r hr
    simp only [List.mem_cons, List.not_mem_nil, or_false] at ht
    subst ht
    unfold refsAt at hr
    rw [List.getElem?_set_self (by simpa using hlt)] at hr
    simp [refsB, refsC] at hr
    omega), roundZ_some, rset_old hlb hkl, Rr_some hlb, List.set_comm _ _ hak]
  unfold Ib is
  rw [List.length_append]
  rfl
def rep (way : Nat) : Nat → List Nat
  | 0 => []
  | n + 1 => 1 :: way :: rep way n
theorem rset_set {x : Blk} {bw : Nat} (w : Rs hq L H a k l) (h0 : l.length ≠ 0) (ha : bw ≠ a) (hk : bw ≠ k) {m : List Nat} (hm : m.length ≠ 0) : (rset hq a k m).set bw x = rset (hq.set bw x) a k m := by
  have hkl := w.klt h0
  rw [rset_old hm hkl, rset_old hm (by simpa using hkl), List.set_comm _ _ (Ne.symm hk), List.set_comm _ _ (Ne.symm ha)]
theorem rs_set {x : Blk} {bw : Nat} (w : Rs hq L H a k l) (h0 : l.length ≠ 0) (ha : bw ≠ a) (hk : bw ≠ k) : Rs (hq.set bw x) L H a k l :=
  ⟨by rw [List.getElem?_set_ne ha, w.w], fun h => by rw [List.getElem?_set_ne hk, w.b h], fun h => absurd h h0, w.aL, w.kL, w.aH, w.kH, w.ne, w.bits⟩
def chEnd (bw bn : Nat) (way now : Int) : Fr := [(10, .bool false), (9, .int .i64 now), (8, .int .i64 now), (4, .int .i64 way), (2, .pointer (some ⟨bw, 0, some 0⟩)), (0, .func (.yield 0) #[] #[]), (1, .pointer (some ⟨bn, 0, some 0⟩))]
theorem changes_loop {bw bn : Nat} {now : Int} {way : Nat} {fr : Fr} {y : Blk} (w : Rs hq L H a k l) (h0 : l.length ≠ 0) (hF : Fit hq.length L H) (hway : way < 2) (h2 : fr.get 2 = some (.pointer (some ⟨a, 0, some 0⟩))) (hwl : hq[bw]? = some y) (hbn : hq[bn]? = some (.cells 0 true [.int .i64 now])) (hwa : bw ≠ a) (hwk : bw ≠ k) (hna : bn ≠ a) (hnk : bn ≠ k) (hnw : bn ≠ bw) (hHw : H.contains bw = false) (hHn : H.contains bn = false) (hwL : L ≤ bw) (hn0 : -1000 ≤ now ∧ now ≤ 1000) :
    ∀ (n : Nat) (was : Int) (l' D0 : List Nat), (if way = 0 then was + n = now else was = now + n) → (-1000 ≤ was ∧ was ≤ 1000) → l'.length ≠ 0 → l'.length + 2 * n ≤ 90000 → Bits l' → (D0 = [] ∨ D0 = [a]) →
    Liter (.yl env [35] ofBA ofB fr) lb11_0 [4, 2, 0, 1] hq.length [(4, .int .i64 way), (2, .pointer (some ⟨bw, 0, some 0⟩)), (0, .func (.yield 0) #[] #[]), (1, .pointer (some ⟨bn, 0, some 0⟩))] ⟨rset (hq.set bw (.cells 0 true [.int .i64 was])) a k l', L, H, D0⟩
      = some (.exit 0, chEnd bw bn way now, ⟨rset (hq.set bw (.cells 0 true [.int .i64 now])) a k (l' ++ rep way n), L, H, if n = 0 then D0 else [a]⟩)
  | 0, was, l', D0, hd, hw1, hl', hs, hb, hD => by
    obtain rfl : was = now := by split at hd <;> omega
    have w1 := rs_set (x := .cells 0 true [.int .i64 was]) w h0 hwa hwk
    have hbl := (List.getElem?_eq_some_iff.1 hwl).1
    have hnl := (List.getElem?_eq_some_iff.1 hbn).1
    have g1 : (rset (hq.set bw (.cells 0 true [.int .i64 was])) a k l')[bw]? = some (.cells 0 true [.int .i64 was]) := by rw [rset_other w1 (by simpa using hbl) hwa hwk, List.getElem?_set_self hbl]
    have g2 : (rset (hq.set bw (.cells 0 true [.int .i64 was])) a k l')[bn]? = some (.cells 0 true [.int .i64 was]) := by rw [rset_other w1 (by simpa using hnl) hna hnk, List.getElem?_set_ne (Ne.symm hnw), hbn]
    rw [iter_by lb11_0.eq_1, rep, List.append_nil, if_pos rfl]
    simp (disch := (first | omega | (simp only [lnE] <;> omega) | (refine Fit.mono ‹Fit _ _ _› ?_ <;> (simp only [lnE] <;> omega)) | (refine Fit.draw ‹Fit _ _ _› ?_ ?_ <;> (simp only [lnE] <;> omega)) | (refine Fit.hid1 ‹Fit _ _ _› ?_ ?_ <;> (simp only [lnE] <;> omega)) | (refine Fit.hidc1 ‹Fit _ _ _› ?_ ?_ <;> (simp only [lnE] <;> omega)) | (refine Fit.hidc2 ‹Fit _ _ _› ?_ ?_ ?_ <;> (simp only [lnE] <;> omega)) | (refine Fit.draw1 ‹Fit _ _ _› ?_ ?_ ?_ <;> (simp only [lnE] <;> omega)) | (refine Fit.range0 ?_ ?_ <;> (simp only [lnE] <;> omega)) | fail)) only [syA, syB, argFr, D, E, T, C, undefv, eqF, aeq, sheqs, sheq, rdCells, cellsOf, fill, putAt, if_true, if_false, reduceIte, ↓reduceIte, reduceCtorEq, eq_self, Nat.reduceEqDiff, Nat.reduceAdd, Nat.reduceSub, Nat.reduceMul, Nat.reduceLT, Nat.reduceLeDiff, Nat.reducePow, Nat.reduceDiv, Nat.reduceMod, Int.reduceLT, Int.reduceLE, Int.reduceGT, Int.reduceGE, Int.reduceToNat, Int.reducePow, Int.reduceNeg, Int.reduceBEq, Int.reduceBNe, Int.reduceEq, Int.reduceAdd, Int.reduceSub, Int.reduceMul, cellv, sc, flatv, refs, refsF, refsC, g1, g2, hHw, hHn]
    rfl
  | n + 1, was, l', D0, hd, hw1, hl', hs, hb, hD => by
    have w1 := rs_set (x := .cells 0 true [.int .i64 was]) w h0 hwa hwk
    have w2 := w1.rset (m := l') (fun h => absurd h hl') hb
    have hbl := (List.getElem?_eq_some_iff.1 hwl).1
    have hnl := (List.getElem?_eq_some_iff.1 hbn).1
    have hql : (rset (hq.set bw (.cells 0 true [.int .i64 was])) a k l').length = hq.length := by rw [rset_length w1 h0]; simp
    have g1 : ∀ m, (rset (hq.set bw (.cells 0 true [.int .i64 was])) a k m)[bw]? = some (.cells 0 true [.int .i64 was]) := fun m => by rw [rset_other w1 (by simpa using hbl) hwa hwk, List.getElem?_set_self hbl]
    have g2 : (rset (hq.set bw (.cells 0 true [.int .i64 was])) a k l')[bn]? = some (.cells 0 true [.int .i64 now]) := by rw [rset_other w1 (by simpa using hnl) hna hnk, List.getElem?_set_ne (Ne.symm hnw), hbn]
    have hF2 : Fit (rset (hq.set bw (.cells 0 true [.int .i64 was])) a k l').length L H := by rw [hql]; exact hF
    have r1 := fun d => of_round (d := d) (b := 1) w2 hl' (by omega) (by omega) hF2 h2
    have hl1 : (l' ++ [1]).length ≠ 0 := by simp
    have w3 := w1.rset (m := l' ++ [1]) (fun h => absurd h hl1) (hb.append (Bits.one (by omega)))
    have hql3 : (rset (hq.set bw (.cells 0 true [.int .i64 was])) a k (l' ++ [1])).length = hq.length := by rw [rset_length w1 h0]; simp
    have hF3 : Fit (rset (hq.set bw (.cells 0 true [.int .i64 was])) a k (l' ++ [1])).length L H := by rw [hql3]; exact hF
    have r2 := fun d => of_round (d := d) (b := way) w3 hl1 hway (by simp; omega) hF3 h2
    have ww1 := rset_rset (m := l') w1 (n := l' ++ [1]) hl1
    have hl2 : (l' ++ [1] ++ [way]).length ≠ 0 := by simp
    have ww2 := rset_rset (m := l' ++ [1]) w1 (n := l' ++ [1] ++ [way]) hl2
    have hj : joinDirty (joinDirty D0 [a]) [a] = [a] := by rcases hD with rfl | rfl <;> simp [joinDirty]
    have hne : ¬ was = now := by split at hd <;> omega
    obtain ⟨was2, hw2⟩ : ∃ w2 : Int, w2 = was + (1 - 2 * (way : Int)) := ⟨_, rfl⟩
    have ih := changes_loop w h0 hF hway h2 hwl hbn hwa hwk hna hnk hnw hHw hHn hwL hn0 n was2 (l' ++ [1] ++ [way]) [a] (by rw [hw2]; split at hd <;> split <;> omega) (by split at hd <;> omega) hl2 (by simp; omega) ((hb.append (Bits.one (by omega))).append (Bits.one hway)) (.inr rfl)
    have hset : ∀ x, (rset (hq.set bw (.cells 0 true [.int .i64 was])) a k (l' ++ [1] ++ [way])).set bw x = rset (hq.set bw x) a k (l' ++ [1] ++ [way]) := fun x => by
      rw [rset_set w1 h0 hwa hwk hl2, List.set_set]
    have hrep : l' ++ rep way (n + 1) = l' ++ [1] ++ [way] ++ rep way n := by simp [rep]
    rw [hrep, if_neg (by omega)]
    have hwl' : (bw < L) = False := eq_false (by omega)
    have hlen2 : ∀ x m, (rset (hq.set bw x) a k m).length ≤ hq.length := fun x m => by
      rw [rset_length (rs_set (x := x) w h0 hwa hwk) h0]; simp
    have hgc : ∀ fr x D, gcFr hq.length fr ⟨rset (hq.set bw x) a k (l' ++ [1] ++ [way]), L, H, D⟩ = some (fr, ⟨rset (hq.set bw x) a k (l' ++ [1] ++ [way]), L, H, D⟩) := fun fr x D => gcFr_same _ _ _ _ _ (hlen2 _ _)
    rw [ww1] at r1
    rw [ww2] at r2
    simp only [Int.natCast_one] at r1
    rw [ite_self] at ih
    rw [iter_by lb11_0.eq_1]
    generalize l' ++ [1] ++ [way] = m2 at *
    generalize l' ++ [1] = m1 at *
    simp (disch := (first | omega | (simp only [lnE] <;> omega) | (refine Fit.mono ‹Fit _ _ _› ?_ <;> (simp only [lnE] <;> omega)) | (refine Fit.draw ‹Fit _ _ _› ?_ ?_ <;> (simp only [lnE] <;> omega)) | (refine Fit.hid1 ‹Fit _ _ _› ?_ ?_ <;> (simp only [lnE] <;> omega)) | (refine Fit.hidc1 ‹Fit _ _ _› ?_ ?_ <;> (simp only [lnE] <;> omega)) | (refine Fit.hidc2 ‹Fit _ _ _› ?_ ?_ ?_ <;> (simp only [lnE] <;> omega)) | (refine Fit.draw1 ‹Fit _ _ _› ?_ ?_ ?_ <;> (simp only [lnE] <;> omega)) | (refine Fit.range0 ?_ ?_ <;> (simp only [lnE] <;> omega)) | fail)) only [syA, syB, argFr, D, E, T, C, undefv, eqF, aeq, sheqs, sheq, rdCells, cellsOf, fill, putAt, if_true, if_false, reduceIte, ↓reduceIte, reduceCtorEq, eq_self, Nat.reduceEqDiff, Nat.reduceAdd, Nat.reduceSub, Nat.reduceMul, Nat.reduceLT, Nat.reduceLeDiff, Nat.reducePow, Nat.reduceDiv, Nat.reduceMod, Int.reduceLT, Int.reduceLE, Int.reduceGT, Int.reduceGE, Int.reduceToNat, Int.reducePow, Int.reduceNeg, Int.reduceBEq, Int.reduceBNe, Int.reduceEq, Int.reduceAdd, Int.reduceSub, Int.reduceMul, cellv, sc, flatv, refs, refsF, refsC, g1, g2, hHw, hHn, hne, r1, r2, hj, hwl', hset, hgc, ← hw2]
    exact ih
/-- The adjustments from one length to another, with the 0 behind them. -/
def chg (was now : Nat) : List Nat := (if now < was then rep 1 (was - now) else rep 0 (now - was)) ++ [0]
theorem rep_bits {way : Nat} (h : way < 2) : ∀ n, Bits (rep way n)
  | 0 => Bits.nil
  | n + 1 => (Bits.one (by omega)).append ((Bits.one h).append (rep_bits h n))
theorem rep_length (way : Nat) : ∀ n, (rep way n).length = 2 * n
  | 0 => rfl
  | n + 1 => by simp [rep, rep_length way n]; omega
theorem chg_bits (was now : Nat) : Bits (chg was now) := by
  unfold chg
  split
  · exact (rep_bits (by omega) _).append (Bits.one (by omega))
  · exact (rep_bits (by omega) _).append (Bits.one (by omega))
/-- A length's turn in Of. -/
theorem of_next {x : List Nat} (hx : x.length = 258) (hx8 : By x) (hF : Fit hp.length L H) {i was : Nat} {l D0 : List Nat} (hi : i < 258) (hw : was ≤ 255) (hl0 : l.length ≠ 0) (hl : l.length ≤ 80000) (hb : Bits l) (hD : D0 = [] ∨ D0 = [hp.length + 1]) :
    Liter env lb11_1 [4, 28, 27, 2] (hp.length + 3) [(4, .int .i64 was), (28, .int .i64 i), (27, .agg (u8s x).toArray), (2, .pointer (some ⟨hp.length + 1, 0, some 0⟩))] ⟨hp ++ [.cells 0 true (u8s x), Rr (hp.length + 2) l, Ib l], L, H, D0⟩
      = Liter env lb11_1 [4, 28, 27, 2] (hp.length + 3) [(4, .int .i64 (x.getD i 0 : Nat)), (28, .int .i64 ((i : Int) + 1)), (27, .agg (u8s x).toArray), (2, .pointer (some ⟨hp.length + 1, 0, some 0⟩))] ⟨hp ++ [.cells 0 true (u8s x), Rr (hp.length + 2) (l ++ chg was (x.getD i 0)), Ib (l ++ chg was (x.getD i 0))], L, H, [hp.length + 1]⟩ := by
  have hxi := At258 (l := x) (i := i) (by omega)
  have hgd : x.getD i 0 = x[i] := by rw [List.getD_eq_getElem?_getD, List.getElem?_eq_getElem (by omega)]; rfl
  have hnow := hx8.get (i := i) (by omega)
  rw [hgd]
  generalize x[i] = now at *
  have hi1 : (i : Int) < 258 := by omega
  have hi0 : (0 : Int) ≤ (i : Int) := by omega
  have hch := fun d => changes_walk (hp := hp ++ [Blk.cells 0 true (u8s x), Rr (hp.length + 2) l, Ib l]) (L := L) (H := H) (d := d) (was : Int) (now : Int) (hF.mono (by simp))
  simp only [List.length_append, List.length_cons, List.length_nil, Nat.zero_add, Nat.reduceAdd, List.append_assoc, List.cons_append, List.nil_append] at hch
  obtain ⟨way, n, hway, hwn, hcg, hcond⟩ : ∃ way n : Nat, way < 2 ∧ (if way = 0 then (was : Int) + n = now else (was : Int) = now + n) ∧ chg was now = rep way n ++ [0] ∧ way = (if now < was then 1 else 0) := by
    by_cases c : now < was
    · exact ⟨1, was - now, by omega, by rw [if_neg (by omega)]; omega, by unfold chg; rw [if_pos c], by rw [if_pos c]⟩
    · exact ⟨0, now - was, by omega, by rw [if_pos rfl]; omega, by unfold chg; rw [if_neg c], by rw [if_neg c]⟩
  have hn255 : n ≤ 255 := by split at hwn <;> omega
  obtain ⟨hq, hhq⟩ : ∃ hq, hq = hp ++ [Blk.cells 0 true (u8s x), Rr (hp.length + 2) l, Ib l, .cells 0 true [.int .i64 (now : Int)], .cells 0 true [.int .i64 (was : Int)]] := ⟨_, rfl⟩
  have gq : ∀ j, hq[hp.length + j]? = [Blk.cells 0 true (u8s x), Rr (hp.length + 2) l, Ib l, .cells 0 true [.int .i64 (now : Int)], .cells 0 true [.int .i64 (was : Int)]][j]? := fun j => by rw [hhq, get_new]
  have hql : hq.length = hp.length + 5 := by rw [hhq]; simp
  have W : Rs hq L H (hp.length + 1) (hp.length + 2) l := ⟨gq 1, fun _ => gq 2, fun h => absurd h hl0, by have := hF.1; omega, by have := hF.1; omega, hF.not1 1, hF.not1 2, by omega, hb⟩
  have hFq : Fit hq.length L H := by rw [hql]; exact hF.mono (by omega)
  have hss : hq.set (hp.length + 4) (.cells 0 true [.int .i64 (was : Int)]) = hq := set_same (gq 4)
  have hself : rset hq (hp.length + 1) (hp.length + 2) l = hq := by rw [rset_old hl0 (W.klt hl0), set_same W.w, set_same (W.b hl0)]
  have cl := fun fr h2 => changes_loop (now := (now : Int)) (way := way) (fr := fr) (bw := hp.length + 4) (bn := hp.length + 3) W hl0 hFq hway h2 (gq 4) (gq 3) (by omega) (by omega) (by omega) (by omega) (by omega) (hF.not1 4) (hF.not1 3) (by have := hF.1; omega) (by omega) n (was : Int) l [] hwn (by omega) hl0 (by omega) hb (.inl rfl)
  rw [hss, hself, hql] at cl
  have W2 := rs_set (x := .cells 0 true [.int .i64 (now : Int)]) (bw := hp.length + 4) W hl0 (by omega) (by omega)
  have hlr : (l ++ rep way n).length ≠ 0 := by rw [List.length_append]; omega
  have W3 := W2.rset (m := l ++ rep way n) (fun h => absurd h hlr) (hb.append (rep_bits hway n))
  have hl3 : (rset (hq.set (hp.length + 4) (.cells 0 true [.int .i64 (now : Int)])) (hp.length + 1) (hp.length + 2) (l ++ rep way n)).length = hp.length + 5 := by rw [rset_length W2 hl0]; simp [hql]
  have r0 := fun fr d h2 => of_round (fr := fr) (d := d) (b := 0) W3 hlr (by omega) (by rw [List.length_append, rep_length]; omega) (by rw [hl3]; exact hF.mono (by omega)) h2
  have hl' : (l ++ rep way n ++ [0]).length ≠ 0 := by simp
  have hfin : rset (rset (hq.set (hp.length + 4) (.cells 0 true [.int .i64 (now : Int)])) (hp.length + 1) (hp.length + 2) (l ++ rep way n)) (hp.length + 1) (hp.length + 2) (l ++ rep way n ++ [0]) = hp ++ [Blk.cells 0 true (u8s x), Rr (hp.length + 2) (l ++ chg was now), Ib (l ++ chg was now), .cells 0 true [.int .i64 (now : Int)], .cells 0 true [.int .i64 (now : Int)]] := by
    rw [rset_rset W2 hl', rset_old hl' (W2.klt hl0), hhq, hcg, List.append_assoc]
    rw [List.set_append_right _ _ (by omega), List.set_append_right _ _ (by omega), List.set_append_right _ _ (by omega), Nat.add_sub_cancel_left, Nat.add_sub_cancel_left, Nat.add_sub_cancel_left]
    rfl
  simp only [hfin] at r0
  have hjd : joinDirty (if n = 0 then ([] : List Nat) else [hp.length + 1]) [hp.length + 1] = [hp.length + 1] := by split <;> simp [joinDirty]
  have hjn : joinDirty [] (if n = 0 then ([] : List Nat) else [hp.length + 1]) = (if n = 0 then [] else [hp.length + 1]) := by split <;> simp [joinDirty]
  have hjd0 : joinDirty D0 [hp.length + 1] = [hp.length + 1] := by rcases hD with rfl | rfl <;> simp [joinDirty]
  have hlc : (l ++ chg was now).length ≠ 0 := by rw [List.length_append]; omega
  have hge : ∀ D : List Nat, gc (hp.length + 5) [] ⟨hp ++ [Blk.cells 0 true (u8s x), Rr (hp.length + 2) (l ++ chg was now), Ib (l ++ chg was now), .cells 0 true [.int .i64 (now : Int)], .cells 0 true [.int .i64 (now : Int)]], L, H, D⟩ = some ([], ⟨hp ++ [Blk.cells 0 true (u8s x), Rr (hp.length + 2) (l ++ chg was now), Ib (l ++ chg was now), .cells 0 true [.int .i64 (now : Int)], .cells 0 true [.int .i64 (now : Int)]], L, H, D⟩) := fun D => gc_same (by simp)
  have hge2 : ∀ fr : Fr, (∀ p ∈ fr, ∀ z ∈ refs p.2, z < hp.length + 2) → gcFr (hp.length + 3) fr ⟨hp ++ [Blk.cells 0 true (u8s x), Rr (hp.length + 2) (l ++ chg was now), Ib (l ++ chg was now), .cells 0 true [.int .i64 (now : Int)], .cells 0 true [.int .i64 (now : Int)]], L, H, [hp.length + 1]⟩ = some (fr, ⟨hp ++ [Blk.cells 0 true (u8s x), Rr (hp.length + 2) (l ++ chg was now), Ib (l ++ chg was now)], L, H, [hp.length + 1]⟩) := fun fr hv => by
    have g1 : (hp ++ [Blk.cells 0 true (u8s x), Rr (hp.length + 2) (l ++ chg was now), Ib (l ++ chg was now)])[hp.length + 1]? = some (Rr (hp.length + 2) (l ++ chg was now)) := by rw [get_new]; rfl
    have := gc_none' (h := hp ++ [Blk.cells 0 true (u8s x), Rr (hp.length + 2) (l ++ chg was now), Ib (l ++ chg was now)]) (nw := [.cells 0 true [.int .i64 (now : Int)], .cells 0 true [.int .i64 (now : Int)]]) (L := L) (H := H) (vs := fr.map (·.2)) (base := hp.length + 3) (d := [hp.length + 1]) (by simp) (fun v h1 r h2 => by
      obtain ⟨p, h3, rfl⟩ := List.mem_map.1 h1
      have := hv p h3 r h2
      omega) (by simp) (fun t ht r hr => by
      simp only [List.mem_cons, List.not_mem_nil, or_false] at ht
      subst ht
      unfold refsAt at hr
      rw [g1] at hr
      simp only [Rr_refs hlc, List.mem_cons, List.not_mem_nil, or_false] at hr
      omega)
    rw [List.append_assoc] at this
    unfold gcFr
    simp only [List.cons_append, List.nil_append] at this ⊢
    rw [this]
    simp only [Option.map_some, zip_self]
  have hq5 : hp.length + 3 + 1 = hp.length + 4 := rfl
  have hnc : ((now : Int) < (was : Int)) ↔ now < was := by omega
  obtain ⟨G, hG⟩ : ∃ G, G = rset (hq.set (hp.length + 4) (.cells 0 true [.int .i64 (now : Int)])) (hp.length + 1) (hp.length + 2) (l ++ rep way n) := ⟨_, rfl⟩
  simp only [← hG] at cl r0
  simp only [ofBA, ofB, D, T, C, E] at cl r0
  rw [hhq] at cl
  rw [iter_by lb11_1.eq_1]
  simp only [Int.natCast_zero] at r0
  have hfv : ∀ p ∈ ([(4, .int .i64 (now : Int)), (28, .int .i64 ((i : Int) + 1)), (27, .agg (u8s x).toArray), (2, .pointer (some ⟨hp.length + 1, 0, some 0⟩))] : Fr), ∀ z ∈ refs p.2, z < hp.length + 2 := by
    intro p hp' z hz
    simp only [List.mem_cons, List.not_mem_nil, or_false] at hp'
    rcases hp' with rfl | rfl | rfl | rfl
    · simp [refs, refsF, refsC] at hz
    · simp [refs, refsF, refsC] at hz
    · have : refs (.agg (u8s x).toArray) = [] := by simp only [refs, refsF]; rw [u8s_refs]
      simp only [this] at hz
      cases hz
    · simp [refs, refsF, refsC] at hz; omega
  have hg2 := hge2 _ hfv
  by_cases c : now < was
  · have hc' : (now : Int) < (was : Int) := by omega
    obtain rfl : way = 1 := by rw [hcond, if_pos c]
    simp only [Int.natCast_one] at cl
    simp (disch := (first | omega | (simp only [lnE] <;> omega) | (refine Fit.mono ‹Fit _ _ _› ?_ <;> (simp only [lnE] <;> omega)) | (refine Fit.draw ‹Fit _ _ _› ?_ ?_ <;> (simp only [lnE] <;> omega)) | (refine Fit.hid1 ‹Fit _ _ _› ?_ ?_ <;> (simp only [lnE] <;> omega)) | (refine Fit.hidc1 ‹Fit _ _ _› ?_ ?_ <;> (simp only [lnE] <;> omega)) | (refine Fit.hidc2 ‹Fit _ _ _› ?_ ?_ ?_ <;> (simp only [lnE] <;> omega)) | (refine Fit.draw1 ‹Fit _ _ _› ?_ ?_ ?_ <;> (simp only [lnE] <;> omega)) | (refine Fit.range0 ?_ ?_ <;> (simp only [lnE] <;> omega)) | fail)) only [syA, syB, argFr, D, E, T, C, undefv, eqF, aeq, sheqs, sheq, rdCells, cellsOf, fill, putAt, if_true, if_false, reduceIte, ↓reduceIte, reduceCtorEq, eq_self, Nat.reduceEqDiff, Nat.reduceAdd, Nat.reduceSub, Nat.reduceMul, Nat.reduceLT, Nat.reduceLeDiff, Nat.reducePow, Nat.reduceDiv, Nat.reduceMod, Int.reduceLT, Int.reduceLE, Int.reduceGT, Int.reduceGE, Int.reduceToNat, Int.reducePow, Int.reduceNeg, Int.reduceBEq, Int.reduceBNe, Int.reduceEq, Int.reduceAdd, Int.reduceSub, Int.reduceMul, cellv, sc, flatv, refs, refsF, refsC, hF.not0, hF.not1, hF.up0, hF.up1, hi1, hi0, hxi, hch, hq5, hc']
    rw [cl _ rfl]
    rw [chEnd]
    simp (disch := (first | omega | (simp only [lnE] <;> omega) | (refine Fit.mono ‹Fit _ _ _› ?_ <;> (simp only [lnE] <;> omega)) | (refine Fit.draw ‹Fit _ _ _› ?_ ?_ <;> (simp only [lnE] <;> omega)) | (refine Fit.hid1 ‹Fit _ _ _› ?_ ?_ <;> (simp only [lnE] <;> omega)) | (refine Fit.hidc1 ‹Fit _ _ _› ?_ ?_ <;> (simp only [lnE] <;> omega)) | (refine Fit.hidc2 ‹Fit _ _ _› ?_ ?_ ?_ <;> (simp only [lnE] <;> omega)) | (refine Fit.draw1 ‹Fit _ _ _› ?_ ?_ ?_ <;> (simp only [lnE] <;> omega)) | (refine Fit.range0 ?_ ?_ <;> (simp only [lnE] <;> omega)) | fail)) only [syA, syB, argFr, D, E, T, C, undefv, eqF, aeq, sheqs, sheq, rdCells, cellsOf, fill, putAt, if_true, if_false, reduceIte, ↓reduceIte, reduceCtorEq, eq_self, Nat.reduceEqDiff, Nat.reduceAdd, Nat.reduceSub, Nat.reduceMul, Nat.reduceLT, Nat.reduceLeDiff, Nat.reducePow, Nat.reduceDiv, Nat.reduceMod, Int.reduceLT, Int.reduceLE, Int.reduceGT, Int.reduceGE, Int.reduceToNat, Int.reducePow, Int.reduceNeg, Int.reduceBEq, Int.reduceBNe, Int.reduceEq, Int.reduceAdd, Int.reduceSub, Int.reduceMul, cellv, sc, flatv, refs, refsF, refsC]
    rw [r0 _ _ rfl]
    simp (disch := (first | omega | (simp only [lnE] <;> omega) | (refine Fit.mono ‹Fit _ _ _› ?_ <;> (simp only [lnE] <;> omega)) | (refine Fit.draw ‹Fit _ _ _› ?_ ?_ <;> (simp only [lnE] <;> omega)) | (refine Fit.hid1 ‹Fit _ _ _› ?_ ?_ <;> (simp only [lnE] <;> omega)) | (refine Fit.hidc1 ‹Fit _ _ _› ?_ ?_ <;> (simp only [lnE] <;> omega)) | (refine Fit.hidc2 ‹Fit _ _ _› ?_ ?_ ?_ <;> (simp only [lnE] <;> omega)) | (refine Fit.draw1 ‹Fit _ _ _› ?_ ?_ ?_ <;> (simp only [lnE] <;> omega)) | (refine Fit.range0 ?_ ?_ <;> (simp only [lnE] <;> omega)) | fail)) only [syA, syB, argFr, D, E, T, C, undefv, eqF, aeq, sheqs, sheq, rdCells, cellsOf, fill, putAt, if_true, if_false, reduceIte, ↓reduceIte, reduceCtorEq, eq_self, Nat.reduceEqDiff, Nat.reduceAdd, Nat.reduceSub, Nat.reduceMul, Nat.reduceLT, Nat.reduceLeDiff, Nat.reducePow, Nat.reduceDiv, Nat.reduceMod, Int.reduceLT, Int.reduceLE, Int.reduceGT, Int.reduceGE, Int.reduceToNat, Int.reducePow, Int.reduceNeg, Int.reduceBEq, Int.reduceBNe, Int.reduceEq, Int.reduceAdd, Int.reduceSub, Int.reduceMul, cellv, sc, flatv, refs, refsF, refsC, hge, hjn, hjd, hjd0, hg2]
  · have hc' : ¬ (now : Int) < (was : Int) := by omega
    obtain rfl : way = 0 := by rw [hcond, if_neg c]
    simp only [Int.natCast_zero] at cl
    simp (disch := (first | omega | (simp only [lnE] <;> omega) | (refine Fit.mono ‹Fit _ _ _› ?_ <;> (simp only [lnE] <;> omega)) | (refine Fit.draw ‹Fit _ _ _› ?_ ?_ <;> (simp only [lnE] <;> omega)) | (refine Fit.hid1 ‹Fit _ _ _› ?_ ?_ <;> (simp only [lnE] <;> omega)) | (refine Fit.hidc1 ‹Fit _ _ _› ?_ ?_ <;> (simp only [lnE] <;> omega)) | (refine Fit.hidc2 ‹Fit _ _ _› ?_ ?_ ?_ <;> (simp only [lnE] <;> omega)) | (refine Fit.draw1 ‹Fit _ _ _› ?_ ?_ ?_ <;> (simp only [lnE] <;> omega)) | (refine Fit.range0 ?_ ?_ <;> (simp only [lnE] <;> omega)) | fail)) only [syA, syB, argFr, D, E, T, C, undefv, eqF, aeq, sheqs, sheq, rdCells, cellsOf, fill, putAt, if_true, if_false, reduceIte, ↓reduceIte, reduceCtorEq, eq_self, Nat.reduceEqDiff, Nat.reduceAdd, Nat.reduceSub, Nat.reduceMul, Nat.reduceLT, Nat.reduceLeDiff, Nat.reducePow, Nat.reduceDiv, Nat.reduceMod, Int.reduceLT, Int.reduceLE, Int.reduceGT, Int.reduceGE, Int.reduceToNat, Int.reducePow, Int.reduceNeg, Int.reduceBEq, Int.reduceBNe, Int.reduceEq, Int.reduceAdd, Int.reduceSub, Int.reduceMul, cellv, sc, flatv, refs, refsF, refsC, hF.not0, hF.not1, hF.up0, hF.up1, hi1, hi0, hxi, hch, hq5, hc']
    rw [cl _ rfl]
    rw [chEnd]
    simp (disch := (first | omega | (simp only [lnE] <;> omega) | (refine Fit.mono ‹Fit _ _ _› ?_ <;> (simp only [lnE] <;> omega)) | (refine Fit.draw ‹Fit _ _ _› ?_ ?_ <;> (simp only [lnE] <;> omega)) | (refine Fit.hid1 ‹Fit _ _ _› ?_ ?_ <;> (simp only [lnE] <;> omega)) | (refine Fit.hidc1 ‹Fit _ _ _› ?_ ?_ <;> (simp only [lnE] <;> omega)) | (refine Fit.hidc2 ‹Fit _ _ _› ?_ ?_ ?_ <;> (simp only [lnE] <;> omega)) | (refine Fit.draw1 ‹Fit _ _ _› ?_ ?_ ?_ <;> (simp only [lnE] <;> omega)) | (refine Fit.range0 ?_ ?_ <;> (simp only [lnE] <;> omega)) | fail)) only [syA, syB, argFr, D, E, T, C, undefv, eqF, aeq, sheqs, sheq, rdCells, cellsOf, fill, putAt, if_true, if_false, reduceIte, ↓reduceIte, reduceCtorEq, eq_self, Nat.reduceEqDiff, Nat.reduceAdd, Nat.reduceSub, Nat.reduceMul, Nat.reduceLT, Nat.reduceLeDiff, Nat.reducePow, Nat.reduceDiv, Nat.reduceMod, Int.reduceLT, Int.reduceLE, Int.reduceGT, Int.reduceGE, Int.reduceToNat, Int.reducePow, Int.reduceNeg, Int.reduceBEq, Int.reduceBNe, Int.reduceEq, Int.reduceAdd, Int.reduceSub, Int.reduceMul, cellv, sc, flatv, refs, refsF, refsC]
    rw [r0 _ _ rfl]
    simp (disch := (first | omega | (simp only [lnE] <;> omega) | (refine Fit.mono ‹Fit _ _ _› ?_ <;> (simp only [lnE] <;> omega)) | (refine Fit.draw ‹Fit _ _ _› ?_ ?_ <;> (simp only [lnE] <;> omega)) | (refine Fit.hid1 ‹Fit _ _ _› ?_ ?_ <;> (simp only [lnE] <;> omega)) | (refine Fit.hidc1 ‹Fit _ _ _› ?_ ?_ <;> (simp only [lnE] <;> omega)) | (refine Fit.hidc2 ‹Fit _ _ _› ?_ ?_ ?_ <;> (simp only [lnE] <;> omega)) | (refine Fit.draw1 ‹Fit _ _ _› ?_ ?_ ?_ <;> (simp only [lnE] <;> omega)) | (refine Fit.range0 ?_ ?_ <;> (simp only [lnE] <;> omega)) | fail)) only [syA, syB, argFr, D, E, T, C, undefv, eqF, aeq, sheqs, sheq, rdCells, cellsOf, fill, putAt, if_true, if_false, reduceIte, ↓reduceIte, reduceCtorEq, eq_self, Nat.reduceEqDiff, Nat.reduceAdd, Nat.reduceSub, Nat.reduceMul, Nat.reduceLT, Nat.reduceLeDiff, Nat.reducePow, Nat.reduceDiv, Nat.reduceMod, Int.reduceLT, Int.reduceLE, Int.reduceGT, Int.reduceGE, Int.reduceToNat, Int.reducePow, Int.reduceNeg, Int.reduceBEq, Int.reduceBNe, Int.reduceEq, Int.reduceAdd, Int.reduceSub, Int.reduceMul, cellv, sc, flatv, refs, refsF, refsC, hge, hjn, hjd, hjd0, hg2]
/-- All adjustments from symbol i on. -/
def adj (x : List Nat) : Nat → Nat → Nat → List Nat
  | 0, _, _ => []
  | n + 1, i, was => chg was (x.getD i 0) ++ adj x n (i + 1) (x.getD i 0)
theorem chg_length {was now : Nat} (h1 : was ≤ 255) (h2 : now ≤ 255) : (chg was now).length ≤ 511 := by
  unfold chg
  split <;> (rw [List.length_append, rep_length]; simp; omega)
theorem enc_loop {x : List Nat} (hx : x.length = 258) (hx8 : By x) (hx15 : ∀ n ∈ x, n ≤ 15) (hF : Fit hp.length L H) : ∀ (n i was : Nat) (l D0 : List Nat), i + n = 258 → was ≤ 15 → l.length ≠ 0 → l.length + 31 * n ≤ 79000 → Bits l → (D0 = [] ∨ D0 = [hp.length + 1]) →
    ∃ fr D1, Liter env lb11_1 [4, 28, 27, 2] (hp.length + 3) [(4, .int .i64 was), (28, .int .i64 i), (27, .agg (u8s x).toArray), (2, .pointer (some ⟨hp.length + 1, 0, some 0⟩))] ⟨hp ++ [.cells 0 true (u8s x), Rr (hp.length + 2) l, Ib l], L, H, D0⟩
      = some (.exit 2, fr, ⟨hp ++ [.cells 0 true (u8s x), Rr (hp.length + 2) (l ++ adj x n i was), Ib (l ++ adj x n i was)], L, H, D1⟩) ∧ fr.get 2 = some (.pointer (some ⟨hp.length + 1, 0, some 0⟩)) ∧ (D1 = [] ∨ D1 = [hp.length + 1])
  | 0, i, was, l, D0, e, hw, hl0, hl, hb, hD => by
    obtain rfl : i = 258 := by omega
    rw [iter_by lb11_1.eq_1, adj, List.append_nil]
    have h258 : ¬ ((258 : Nat) : Int) < 258 := by decide
    simp (disch := (first | omega | (simp only [lnE] <;> omega) | (refine Fit.mono ‹Fit _ _ _› ?_ <;> (simp only [lnE] <;> omega)) | (refine Fit.draw ‹Fit _ _ _› ?_ ?_ <;> (simp only [lnE] <;> omega)) | (refine Fit.hid1 ‹Fit _ _ _› ?_ ?_ <;> (simp only [lnE] <;> omega)) | (refine Fit.hidc1 ‹Fit _ _ _› ?_ ?_ <;> (simp only [lnE] <;> omega)) | (refine Fit.hidc2 ‹Fit _ _ _› ?_ ?_ ?_ <;> (simp only [lnE] <;> omega)) | (refine Fit.draw1 ‹Fit _ _ _› ?_ ?_ ?_ <;> (simp only [lnE] <;> omega)) | (refine Fit.range0 ?_ ?_ <;> (simp only [lnE] <;> omega)) | fail)) only [syA, syB, argFr, D, E, T, C, undefv, eqF, aeq, sheqs, sheq, rdCells, cellsOf, fill, putAt, if_true, if_false, reduceIte, ↓reduceIte, reduceCtorEq, eq_self, Nat.reduceEqDiff, Nat.reduceAdd, Nat.reduceSub, Nat.reduceMul, Nat.reduceLT, Nat.reduceLeDiff, Nat.reducePow, Nat.reduceDiv, Nat.reduceMod, Int.reduceLT, Int.reduceLE, Int.reduceGT, Int.reduceGE, Int.reduceToNat, Int.reducePow, Int.reduceNeg, Int.reduceBEq, Int.reduceBNe, Int.reduceEq, Int.reduceAdd, Int.reduceSub, Int.reduceMul, cellv, sc, flatv, refs, refsF, refsC, h258]
    exact ⟨_, _, rfl, rfl, hD⟩
  | n + 1, i, was, l, D0, e, hw, hl0, hl, hb, hD => by
    have hi : i < 258 := by omega
    have hg : x.getD i 0 ≤ 15 := by
      rw [List.getD_eq_getElem?_getD, List.getElem?_eq_getElem (by omega)]
      exact hx15 _ (List.getElem_mem (by omega))
    have hcl : ∀ now, now ≤ 15 → (chg was now).length ≤ 31 := fun now hn => by
      unfold chg
      split <;> (rw [List.length_append, rep_length, List.length_singleton]; omega)
    have hcl := hcl _ hg
    rw [of_next hx hx8 hF hi (by omega) hl0 (by omega) hb hD]
    obtain ⟨fr, D1, h1, h2, h3⟩ := enc_loop hx hx8 hx15 hF n (i + 1) (x.getD i 0) (l ++ chg was (x.getD i 0)) [hp.length + 1] (by omega) hg (by rw [List.length_append]; omega) (by rw [List.length_append]; omega) (hb.append (chg_bits _ _)) (.inr rfl)
    rw [List.append_assoc] at h1
    simp only [Int.natCast_add, Int.natCast_one] at h1
    exact ⟨fr, D1, h1, h2, h3⟩
/-! ### The first length -/
theorem gcFr_into {fr : Fr} {h nw : List Blk} {base aa kk g : Nat} {cs : List Value} {x : Blk} (hb : h.length = base) (hv : ∀ p ∈ fr, ∀ r ∈ refs p.2, r < base) (ha : h[aa]? = some x) (hx : (refsB x).filter (base ≤ ·) = [base + kk]) (hk : nw[kk]? = some (.cells g true cs)) :
    gcFr base fr ⟨h ++ nw, L, H, [aa]⟩ = some (fr, ⟨h.set aa (renB (plc base [base + kk]) x) ++ [.cells g true cs], L, H, [aa]⟩) := by
  unfold gcFr
  rw [gc_into hb (fun v h1 r h2 => by
    obtain ⟨p, h3, rfl⟩ := List.mem_map.1 h1
    exact hv p h3 r h2) ha hx hk]
  simp only [Option.map_some, zip_self]
def f4 (was i : Nat) : List Nat := (List.range i).map fun j => was / 2 ^ (3 - j) % 2
theorem f4_bits (was i : Nat) : Bits (f4 was i) := fun b hb => by
  obtain ⟨j, _, rfl⟩ := List.mem_map.1 hb
  exact Nat.mod_lt _ (by decide)
theorem f4_length (was i : Nat) : (f4 was i).length = i := by simp [f4]
theorem f4_snoc (was i : Nat) : f4 was (i + 1) = f4 was i ++ [was / 2 ^ (3 - i) % 2] := by simp [f4, List.range_succ]
theorem and1_64 {n : Nat} (h : n ≤ 1000) : andI 64 (n : Int) 1 = (n % 2 : Nat) := by
  have := mask 64 (n : Int) 1 (by omega) (by omega) (by omega)
  unfold andI
  rw [show (1 : Int) = ((2 ^ 1 - 1 : Nat) : Int) by decide, this]
  omega
/-- What Of has written stays, what the round made for itself falls. -/
theorem keep_out {fr : Fr} {X : Blk} {i g : Nat} {cs : List Value} {nw : List Blk} (hv : ∀ p ∈ fr, ∀ r ∈ refs p.2, r < hp.length + 2) :
    gcFr (hp.length + 2) fr ⟨hp ++ X :: .cells 0 false [.slice (some ⟨hp.length + 2, 0, some i⟩) i 1] :: .cells g true cs :: nw, L, H, [hp.length + 1]⟩ = some (fr, ⟨hp ++ [X, .cells 0 false [.slice (some ⟨hp.length + 2, 0, some i⟩) i 1], .cells g true cs], L, H, [hp.length + 1]⟩) := by
  have g1 : (hp ++ [X, .cells 0 false [.slice (some ⟨hp.length + 2, 0, some i⟩) i 1]])[hp.length + 1]? = some (.cells 0 false [.slice (some ⟨hp.length + 2, 0, some i⟩) i 1]) := by rw [get_new]; rfl
  have := gcFr_into (h := hp ++ [X, .cells 0 false [.slice (some ⟨hp.length + 2, 0, some i⟩) i 1]]) (nw := .cells g true cs :: nw) (L := L) (H := H) (fr := fr) (base := hp.length + 2) (aa := hp.length + 1) (kk := 0) (by simp) hv g1 (by simp [refsB, refsC]) rfl
  have p1 := plc_one (hp.length + 2) 0
  rw [Nat.add_zero] at p1
  simp only [renB, List.map_cons, List.map_nil, renC, Nat.add_zero, p1] at this
  rw [set_same g1, List.append_assoc, List.append_assoc] at this
  exact this
theorem first_step {x : List Nat} (hF : Fit hp.length L H) {i was : Nat} (hw : was ≤ 15) (hi : i < 4) (h0 : i ≠ 0) :
    Liter env lb11_2 [15, 1, 4, 2] (hp.length + 2) [(15, .int .i64 i), (1, .pointer (some ⟨hp.length, 0, some 0⟩)), (4, .int .i64 was), (2, .pointer (some ⟨hp.length + 1, 0, some 0⟩))] ⟨hp ++ [.cells 0 true (u8s x), Rr (hp.length + 2) (f4 was i), Ib (f4 was i)], L, H, [hp.length + 1]⟩
      = Liter env lb11_2 [15, 1, 4, 2] (hp.length + 2) [(15, .int .i64 ((i : Int) + 1)), (1, .pointer (some ⟨hp.length, 0, some 0⟩)), (4, .int .i64 was), (2, .pointer (some ⟨hp.length + 1, 0, some 0⟩))] ⟨hp ++ [.cells 0 true (u8s x), Rr (hp.length + 2) (f4 was (i + 1)), Ib (f4 was (i + 1))], L, H, [hp.length + 1]⟩ := by
  have hi1 : (i : Int) < 4 := by omega
  have hl := f4_length was i
  have hl1 := f4_length was (i + 1)
  have hneg : ((3 : Int) - (i : Int) < 0) = False := eq_false (by omega)
  have hmin : min ((3 : Int) - (i : Int)).toNat 64 = 3 - i := by omega
  have hfd : (was : Int).fdiv (2 ^ (3 - i)) = (was / 2 ^ (3 - i) : Nat) := by
    rw [fdiv_pos _ (Int.pow_nonneg (by decide)), Int.natCast_ediv, Int.natCast_pow]; rfl
  have hbl : was / 2 ^ (3 - i) % 2 < 2 := Nat.mod_lt _ (by decide)
  have hle : was / 2 ^ (3 - i) ≤ 15 := Nat.le_trans (Nat.div_le_self _ _) hw
  have hand := and1_64 (n := was / 2 ^ (3 - i)) (by omega)
  have hsn := f4_snoc was i
  have hrr : Rr (hp.length + 2) (f4 was i) = .cells 0 false [.slice (some ⟨hp.length + 2, 0, some i⟩) i 1] := by rw [Rr_some (by omega), hl]
  have hib : Ib (f4 was i) = .cells i true (is (f4 was i)) := by unfold Ib; rw [hl]
  have hrr1 : Rr (hp.length + 2) (f4 was (i + 1)) = .cells 0 false [.slice (some ⟨hp.length + 2, 0, some (i + 1)⟩) (i + 1) 1] := by rw [Rr_some (by omega), hl1]
  have hib1 : Ib (f4 was (i + 1)) = .cells (i + 1) true (is (f4 was (i + 1))) := by unfold Ib; rw [hl1]
  rw [hrr, hib, hrr1, hib1]
  rw [iter_by lb11_2.eq_1]
  generalize was / 2 ^ (3 - i) = y at *
  generalize y % 2 = b at *
  have happ := append_isg (hp := hp ++ [.cells 0 true (u8s x), .cells 0 false [.slice (some ⟨hp.length + 2, 0, some i⟩) i 1], .cells i true (is (f4 was i)), .cells 0 true [.int .i64 b]]) (L := L) (H := H) (d := [hp.length + 1]) (b := hp.length + 2) (g := i) (l := f4 was i) (m := [b]) (by rw [get_new]; rfl) (by have := hF.1; omega) (hF.not1 2) (by simp) (by simp; omega)
  rw [hl, set_new, ← hsn] at happ
  simp only [List.length_cons, List.length_nil, Nat.zero_add, is, List.map_cons, List.map_nil, List.set_cons_succ, List.set_cons_zero] at happ
  simp only [is]
  have hc1 : [hp.length + 1].contains (hp.length + 1) = true := by simp
  simp (disch := (first | omega | (simp only [lnE] <;> omega) | (refine Fit.mono ‹Fit _ _ _› ?_ <;> (simp only [lnE] <;> omega)) | (refine Fit.draw ‹Fit _ _ _› ?_ ?_ <;> (simp only [lnE] <;> omega)) | (refine Fit.hid1 ‹Fit _ _ _› ?_ ?_ <;> (simp only [lnE] <;> omega)) | (refine Fit.hidc1 ‹Fit _ _ _› ?_ ?_ <;> (simp only [lnE] <;> omega)) | (refine Fit.hidc2 ‹Fit _ _ _› ?_ ?_ ?_ <;> (simp only [lnE] <;> omega)) | (refine Fit.draw1 ‹Fit _ _ _› ?_ ?_ ?_ <;> (simp only [lnE] <;> omega)) | (refine Fit.range0 ?_ ?_ <;> (simp only [lnE] <;> omega)) | fail)) only [syA, syB, argFr, D, E, T, C, undefv, eqF, aeq, sheqs, sheq, rdCells, cellsOf, fill, putAt, if_true, if_false, reduceIte, ↓reduceIte, reduceCtorEq, eq_self, Nat.reduceEqDiff, Nat.reduceAdd, Nat.reduceSub, Nat.reduceMul, Nat.reduceLT, Nat.reduceLeDiff, Nat.reducePow, Nat.reduceDiv, Nat.reduceMod, Int.reduceLT, Int.reduceLE, Int.reduceGT, Int.reduceGE, Int.reduceToNat, Int.reducePow, Int.reduceNeg, Int.reduceBEq, Int.reduceBNe, Int.reduceEq, Int.reduceAdd, Int.reduceSub, Int.reduceMul, cellv, sc, flatv, refs, refsF, refsC, hF.not0, hF.not1, hF.up0, hF.up1, hi1, hneg, hmin, hfd, hand, sm1, happ, hc1]
  rw [keep_out (by
    intro p hp' r hr
    simp only [List.mem_cons, List.not_mem_nil, or_false] at hp'
    rcases hp' with rfl | rfl | rfl | rfl
    · simp [refs, refsF, refsC] at hr
    · simp [refs, refsF, refsC] at hr; omega
    · simp [refs, refsF, refsC] at hr
    · simp [refs, refsF, refsC] at hr; omega), againX_some]
theorem first_zero {x : List Nat} (hF : Fit hp.length L H) {was : Nat} (hw : was ≤ 15) :
    Liter env lb11_2 [15, 1, 4, 2] (hp.length + 2) [(15, .int .i64 0), (1, .pointer (some ⟨hp.length, 0, some 0⟩)), (4, .int .i64 was), (2, .pointer (some ⟨hp.length + 1, 0, some 0⟩))] ⟨hp ++ [.cells 0 true (u8s x), .cells 0 false [.slice none 0 0]], L, H, []⟩
      = Liter env lb11_2 [15, 1, 4, 2] (hp.length + 2) [(15, .int .i64 1), (1, .pointer (some ⟨hp.length, 0, some 0⟩)), (4, .int .i64 was), (2, .pointer (some ⟨hp.length + 1, 0, some 0⟩))] ⟨hp ++ [.cells 0 true (u8s x), Rr (hp.length + 2) (f4 was 1), Ib (f4 was 1)], L, H, [hp.length + 1]⟩ := by
  have hfd : (was : Int).fdiv 8 = (was / 8 : Nat) := by rw [fdiv_pos _ (by decide)]; omega
  have hand := and1_64 (n := was / 8) (by omega)
  have hf1 : f4 was 1 = [was / 8 % 2] := rfl
  have hrr1 : Rr (hp.length + 2) (f4 was 1) = .cells 0 false [.slice (some ⟨hp.length + 2, 0, some 1⟩) 1 1] := rfl
  have hib1 : Ib (f4 was 1) = .cells 1 true [.int .i64 (was / 8 % 2 : Nat)] := rfl
  rw [hrr1, hib1]
  rw [iter_by lb11_2.eq_1]
  have hbl : was / 8 % 2 < 2 := Nat.mod_lt _ (by decide)
  generalize was / 8 = y at *
  generalize y % 2 = b at *
  have happ := append_is0 (hp := hp ++ [.cells 0 true (u8s x), .cells 0 false [.slice none 0 0], .cells 0 true [.int .i64 b]]) (L := L) (H := H) (d := []) (m := [b]) (by simp) (by simp)
  simp only [List.length_append, List.length_cons, List.length_nil, Nat.zero_add, Nat.reduceAdd, List.append_assoc, List.cons_append, List.nil_append, is, List.map_cons, List.map_nil] at happ
  have h8 : (2 : Int) ^ (3 : Nat) = 8 := rfl
  simp (disch := (first | omega | (simp only [lnE] <;> omega) | (refine Fit.mono ‹Fit _ _ _› ?_ <;> (simp only [lnE] <;> omega)) | (refine Fit.draw ‹Fit _ _ _› ?_ ?_ <;> (simp only [lnE] <;> omega)) | (refine Fit.hid1 ‹Fit _ _ _› ?_ ?_ <;> (simp only [lnE] <;> omega)) | (refine Fit.hidc1 ‹Fit _ _ _› ?_ ?_ <;> (simp only [lnE] <;> omega)) | (refine Fit.hidc2 ‹Fit _ _ _› ?_ ?_ ?_ <;> (simp only [lnE] <;> omega)) | (refine Fit.draw1 ‹Fit _ _ _› ?_ ?_ ?_ <;> (simp only [lnE] <;> omega)) | (refine Fit.range0 ?_ ?_ <;> (simp only [lnE] <;> omega)) | fail)) only [syA, syB, argFr, D, E, T, C, undefv, eqF, aeq, sheqs, sheq, rdCells, cellsOf, fill, putAt, if_true, if_false, reduceIte, ↓reduceIte, reduceCtorEq, eq_self, Nat.reduceEqDiff, Nat.reduceAdd, Nat.reduceSub, Nat.reduceMul, Nat.reduceLT, Nat.reduceLeDiff, Nat.reducePow, Nat.reduceDiv, Nat.reduceMod, Int.reduceLT, Int.reduceLE, Int.reduceGT, Int.reduceGE, Int.reduceToNat, Int.reducePow, Int.reduceNeg, Int.reduceBEq, Int.reduceBNe, Int.reduceEq, Int.reduceAdd, Int.reduceSub, Int.reduceMul, cellv, sc, flatv, refs, refsF, refsC, hF.not0, hF.not1, hF.up0, hF.up1, hfd, hand, sm1, happ, h8]
  have g1 : (hp ++ [Blk.cells 0 true (u8s x), .cells 0 false [.slice (some ⟨hp.length + 3, 0, some 1⟩) 1 1]])[hp.length + 1]? = some (.cells 0 false [.slice (some ⟨hp.length + 3, 0, some 1⟩) 1 1]) := by rw [get_new]; rfl
  have hk := gcFr_into (h := hp ++ [Blk.cells 0 true (u8s x), .cells 0 false [.slice (some ⟨hp.length + 3, 0, some 1⟩) 1 1]]) (nw := [.cells 0 true [.int .i64 b], .cells 1 true [.int .i64 b]]) (L := L) (H := H) (fr := [(15, .int .i64 1), (1, .pointer (some ⟨hp.length, 0, some 0⟩)), (4, .int .i64 was), (2, .pointer (some ⟨hp.length + 1, 0, some 0⟩))]) (base := hp.length + 2) (aa := hp.length + 1) (kk := 1) (by simp) (by
    intro p hp' r hr
    simp only [List.mem_cons, List.not_mem_nil, or_false] at hp'
    rcases hp' with rfl | rfl | rfl | rfl
    · simp [refs, refsF, refsC] at hr
    · simp [refs, refsF, refsC] at hr; omega
    · simp [refs, refsF, refsC] at hr
    · simp [refs, refsF, refsC] at hr; omega) g1 (by simp [refsB, refsC]) rfl
  have p1 := plc_one (hp.length + 2) 1
  rw [show hp.length + 2 + 1 = hp.length + 3 by omega] at p1 hk
  simp only [renB, List.map_cons, List.map_nil, renC, p1, set_new, List.set_cons_succ, List.set_cons_zero, List.append_assoc, List.cons_append, List.nil_append] at hk
  rw [hk, againX_some]
/-- The encoding of a table. -/
def encF (x : List Nat) : List Nat := f4 (x.getD 0 0) 4 ++ adj x 258 0 (x.getD 0 0)
theorem first_loop {x : List Nat} (hF : Fit hp.length L H) {was : Nat} (hw : was ≤ 15) :
    ∃ fr, Liter env lb11_2 [15, 1, 4, 2] (hp.length + 2) [(15, .int .i64 0), (1, .pointer (some ⟨hp.length, 0, some 0⟩)), (4, .int .i64 was), (2, .pointer (some ⟨hp.length + 1, 0, some 0⟩))] ⟨hp ++ [.cells 0 true (u8s x), .cells 0 false [.slice none 0 0]], L, H, []⟩
      = some (.exit 0, fr, ⟨hp ++ [.cells 0 true (u8s x), Rr (hp.length + 2) (f4 was 4), Ib (f4 was 4)], L, H, [hp.length + 1]⟩) ∧ fr.get 1 = some (.pointer (some ⟨hp.length, 0, some 0⟩)) ∧ fr.get 4 = some (.int .i64 was) ∧ fr.get 2 = some (.pointer (some ⟨hp.length + 1, 0, some 0⟩)) := by
  have s1 := first_step (x := x) hF (i := 1) hw (by omega) (by omega)
  have s2 := first_step (x := x) hF (i := 2) hw (by omega) (by omega)
  have s3 := first_step (x := x) hF (i := 3) hw (by omega) (by omega)
  simp only [Int.natCast_one, Int.cast_ofNat_Int, Int.reduceAdd, Nat.reduceAdd] at s1 s2 s3
  rw [first_zero hF hw, s1, s2, s3]
  rw [iter_by lb11_2.eq_1]
  simp (disch := (first | omega | (simp only [lnE] <;> omega) | (refine Fit.mono ‹Fit _ _ _› ?_ <;> (simp only [lnE] <;> omega)) | (refine Fit.draw ‹Fit _ _ _› ?_ ?_ <;> (simp only [lnE] <;> omega)) | (refine Fit.hid1 ‹Fit _ _ _› ?_ ?_ <;> (simp only [lnE] <;> omega)) | (refine Fit.hidc1 ‹Fit _ _ _› ?_ ?_ <;> (simp only [lnE] <;> omega)) | (refine Fit.hidc2 ‹Fit _ _ _› ?_ ?_ ?_ <;> (simp only [lnE] <;> omega)) | (refine Fit.draw1 ‹Fit _ _ _› ?_ ?_ ?_ <;> (simp only [lnE] <;> omega)) | (refine Fit.range0 ?_ ?_ <;> (simp only [lnE] <;> omega)) | fail)) only [syA, syB, argFr, D, E, T, C, undefv, eqF, aeq, sheqs, sheq, rdCells, cellsOf, fill, putAt, if_true, if_false, reduceIte, ↓reduceIte, reduceCtorEq, eq_self, Nat.reduceEqDiff, Nat.reduceAdd, Nat.reduceSub, Nat.reduceMul, Nat.reduceLT, Nat.reduceLeDiff, Nat.reducePow, Nat.reduceDiv, Nat.reduceMod, Int.reduceLT, Int.reduceLE, Int.reduceGT, Int.reduceGE, Int.reduceToNat, Int.reducePow, Int.reduceNeg, Int.reduceBEq, Int.reduceBNe, Int.reduceEq, Int.reduceAdd, Int.reduceSub, Int.reduceMul, cellv, sc, flatv, refs, refsF, refsC]
  exact ⟨_, rfl, rfl, rfl, rfl⟩
/-- A function's end, where a block of its own had been written into. -/
theorem gc_own {vs : List Value} {D : List Nat} {base : Nat} {h : List Blk} (hl : ¬ h.length ≤ base) (hD : D.filter (· < base) = []) : gc base vs ⟨h, L, H, D⟩ = gc base vs ⟨h, L, H, []⟩ := by
  unfold gc
  rw [if_neg hl, if_neg hl]
  simp only [hD, List.filter_nil]
  unfold gcKeep
  simp only [hD, List.filter_nil]
  rfl
theorem of_bad {x : List Nat} (hx : x.length = 258) (hx8 : By x) (ht : kTable x = false) (hF : Fit hp.length L H) :
    Lrun env (.func 11) [.agg (u8s x).toArray] ⟨hp, L, H, d⟩ = some (.tuple #[.slice none 0 0, .int .i64 2], ⟨hp, L, H, d⟩) := by
  rw [Lrun_sym 11 _ _ fn11]
  have ht' := fun hp L H d hF => table_walk (hp := hp) (L := L) (H := H) (d := d) hx hx8 hF
  rw [ht] at ht'
  have htk := take258 hx
  simp (disch := (first | omega | (simp only [lnE] <;> omega) | (refine Fit.mono ‹Fit _ _ _› ?_ <;> (simp only [lnE] <;> omega)) | (refine Fit.draw ‹Fit _ _ _› ?_ ?_ <;> (simp only [lnE] <;> omega)) | (refine Fit.hid1 ‹Fit _ _ _› ?_ ?_ <;> (simp only [lnE] <;> omega)) | (refine Fit.hidc1 ‹Fit _ _ _› ?_ ?_ <;> (simp only [lnE] <;> omega)) | (refine Fit.hidc2 ‹Fit _ _ _› ?_ ?_ ?_ <;> (simp only [lnE] <;> omega)) | (refine Fit.draw1 ‹Fit _ _ _› ?_ ?_ ?_ <;> (simp only [lnE] <;> omega)) | (refine Fit.range0 ?_ ?_ <;> (simp only [lnE] <;> omega)) | fail)) only [syA, syB, argFr, D, E, T, C, undefv, eqF, aeq, sheqs, sheq, rdCells, cellsOf, fill, putAt, if_true, if_false, reduceIte, ↓reduceIte, reduceCtorEq, eq_self, Nat.reduceEqDiff, Nat.reduceAdd, Nat.reduceSub, Nat.reduceMul, Nat.reduceLT, Nat.reduceLeDiff, Nat.reducePow, Nat.reduceDiv, Nat.reduceMod, Int.reduceLT, Int.reduceLE, Int.reduceGT, Int.reduceGE, Int.reduceToNat, Int.reducePow, Int.reduceNeg, Int.reduceBEq, Int.reduceBNe, Int.reduceEq, Int.reduceAdd, Int.reduceSub, Int.reduceMul, cellv, sc, flatv, refs, refsF, refsC, hF.not0, hF.not1, hF.up0, hF.up1, ac11, u8s_cellv, u8s_scs, ht', htk, hx, le258 hx]
theorem kSum_ge {n : Nat} : ∀ {l : List Nat}, n ∈ l → kShare n ≤ kSum l
  | [], h => by cases h
  | a :: l, h => by
    have e : kSum (a :: l) = kShare a + kSum l := by simp [kSum]
    rcases List.mem_cons.1 h with rfl | h1
    · omega
    · have := kSum_ge h1
      omega
theorem table_le {x : List Nat} (h : kTable x = true) : ∀ n ∈ x, n ≤ 15 := fun n hn => by
  have h1 := kSum_ge hn
  unfold kTable kComplete at h
  simp only [Bool.and_eq_true, beq_iff_eq] at h
  by_cases c : 15 < n
  · have : kShare n = 32769 := by unfold kShare; rw [if_neg (by omega), if_pos c]
    omega
  · omega
theorem of_good {x : List Nat} (hx : x.length = 258) (hx8 : By x) (ht : kTable x = true) (hF : Fit hp.length L H) :
    Lrun env (.func 11) [.agg (u8s x).toArray] ⟨hp, L, H, d⟩ = some (.tuple #[slI hp.length (encF x), .int .i64 0], ⟨hp ++ slIB (encF x), L, H, d⟩) := by
  rw [Lrun_sym 11 _ _ fn11]
  have ht' := fun hp L H d hF => table_walk (hp := hp) (L := L) (H := H) (d := d) hx hx8 hF
  rw [ht] at ht'
  have htk := take258 hx
  have h15 := table_le ht
  have hg : x.getD 0 0 ≤ 15 := by
    rw [List.getD_eq_getElem?_getD, List.getElem?_eq_getElem (by omega)]
    exact h15 _ (List.getElem_mem (by omega))
  have hc0 : (u8s x)[0]? = some (.int .u8 (x.getD 0 0 : Nat)) := by
    rw [At258 (by omega), List.getD_eq_getElem?_getD, List.getElem?_eq_getElem (by omega)]; rfl
  obtain ⟨fr1, f1, g1, g4, g2⟩ := first_loop (x := x) hF hg
  obtain ⟨fr2, D1, f2, k2, hD1⟩ := enc_loop hx hx8 h15 hF 258 0 (x.getD 0 0) (f4 (x.getD 0 0) 4) [] (by omega) hg (by rw [f4_length]; omega) (by rw [f4_length]; omega) (f4_bits _ _) (.inl rfl)
  have henc : f4 (x.getD 0 0) 4 ++ adj x 258 0 (x.getD 0 0) = encF x := rfl
  rw [henc] at f2
  have he : (encF x).length ≠ 0 := by unfold encF; rw [List.length_append, f4_length]; omega
  have eI : slI hp.length (encF x) = .slice (some ⟨hp.length, 0, some (encF x).length⟩) (encF x).length 1 := if_neg he
  have eB : slIB (encF x) = [.cells (encF x).length true (is (encF x))] := if_neg he
  rw [eI, eB]
  simp only [Int.natCast_zero] at f2
  have hRr : Rr (hp.length + 2) (encF x) = .cells 0 false [.slice (some ⟨hp.length + 2, 0, some (encF x).length⟩) (encF x).length 1] := Rr_some he
  rw [hRr] at f2
  generalize x.getD 0 0 = w0 at *
  simp (disch := (first | omega | (simp only [lnE] <;> omega) | (refine Fit.mono ‹Fit _ _ _› ?_ <;> (simp only [lnE] <;> omega)) | (refine Fit.draw ‹Fit _ _ _› ?_ ?_ <;> (simp only [lnE] <;> omega)) | (refine Fit.hid1 ‹Fit _ _ _› ?_ ?_ <;> (simp only [lnE] <;> omega)) | (refine Fit.hidc1 ‹Fit _ _ _› ?_ ?_ <;> (simp only [lnE] <;> omega)) | (refine Fit.hidc2 ‹Fit _ _ _› ?_ ?_ ?_ <;> (simp only [lnE] <;> omega)) | (refine Fit.draw1 ‹Fit _ _ _› ?_ ?_ ?_ <;> (simp only [lnE] <;> omega)) | (refine Fit.range0 ?_ ?_ <;> (simp only [lnE] <;> omega)) | fail)) only [syA, syB, argFr, D, E, T, C, undefv, eqF, aeq, sheqs, sheq, rdCells, cellsOf, fill, putAt, if_true, if_false, reduceIte, ↓reduceIte, reduceCtorEq, eq_self, Nat.reduceEqDiff, Nat.reduceAdd, Nat.reduceSub, Nat.reduceMul, Nat.reduceLT, Nat.reduceLeDiff, Nat.reducePow, Nat.reduceDiv, Nat.reduceMod, Int.reduceLT, Int.reduceLE, Int.reduceGT, Int.reduceGE, Int.reduceToNat, Int.reducePow, Int.reduceNeg, Int.reduceBEq, Int.reduceBNe, Int.reduceEq, Int.reduceAdd, Int.reduceSub, Int.reduceMul, cellv, sc, flatv, refs, refsF, refsC, hF.not0, hF.not1, hF.up0, hF.up1, ac11, u8s_cellv, u8s_scs, ht', htk, hx, le258 hx, hc0, f1, g1, g4, g2, f2, k2]
  have hdd : (if (joinDirty (joinDirty [] [hp.length + 1]) D1).contains (hp.length + 1) = true then joinDirty (joinDirty [] [hp.length + 1]) D1 else (hp.length + 1) :: joinDirty (joinDirty [] [hp.length + 1]) D1) = [hp.length + 1] := by
    rcases hD1 with rfl | rfl <;> simp [joinDirty]
  rw [hdd, gc_own (by simp) (by simp)]
  rw [gc_one (k := 2) (g := (encF x).length) (cs := is (encF x)) rfl (by
    intro v hv r hr
    simp only [List.mem_cons, List.not_mem_nil, or_false] at hv
    subst hv
    simp [refs, refsF, refsC] at hr
    exact .inr hr) ⟨_, List.mem_cons_self, by simp [refs, refsF, refsC]⟩ rfl]
  have p1 : AM.one hp.length (hp.length + 2) (hp.length + 2) = hp.length := one_new
  simp only [List.map_cons, List.map_nil, ren]
  simp [renF, renC, p1, gcX_some, joinDirty_nil]
end LtA
end Go.Proofs.Ytlphmnhkkhcjfaa
end
