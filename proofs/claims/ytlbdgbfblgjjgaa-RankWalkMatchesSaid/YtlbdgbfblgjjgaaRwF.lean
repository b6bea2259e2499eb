/-
  WALKS WITH RANKS: the examples. Conditions: none.
-/
import Derived.Test.YtlbdgbfblgjjgaaRwE
import Derived.Test.YtlbdgbfblgjjgaaSufTurn
import Derived.Test.YtlbdgbfblgjjgaaArAp
set_option linter.all false
namespace Go.Proofs.Ytlbdgbfblgjjgaa
namespace ArA
open Go Go.RowKit AM ArEnv
def stK (kk : Nat) (x : List Nat) (ix : Nat) : Nat → Nat
  | 0 => 0
  | i + 1 => stK kk x ix i + 1 + atR ix (rowK x ix i) % kk
def anb : List Nat := [97, 110, 97, 110, 97, 98]
theorem ann_facts : ∀ i, i < 6 → rowK ann 4 i ≤ 6 ∧ rowK ann 4 i ≠ 4 ∧ atR 4 (rowK ann 4 i) < 6 ∧ ann.getD (atR 4 (rowK ann 4 i)) 0 = anb.getD i 0 ∧ stK 2 ann 4 i ≤ 100 ∧ anb.take (i + 1) = anb.take i ++ [anb.getD i 0] ∧ (anb.take i).length = i ∧ anb.getD i 0 < 256 := by decide
theorem getD_at {l : List Nat} {i : Nat} (h : i < l.length) : l[i] = l.getD i 0 := by rw [List.getD_eq_getElem?_getD, List.getElem?_eq_getElem h, Option.getD_some]
section
variable {L : Nat} {H d : List Nat} {r q w w2 : Nat} {A : Arn}
set_option maxRecDepth 40000 in
theorem wk21_loop (hHw : H.contains w2 = false) : ∀ (n i : Nat), i + n = 6 → ∀ hq : List Blk, Fit hq.length L H → WkOk hq.length r q w L H A 0 6 3072 2 4 ann → hq[w]? = some (.cells 0 false (wkC r 0 6 6 3072 4 2 ann 256 (rowK ann 4 i) i (stK 2 ann 4 i))) → w2 < hq.length → ∃ fr,
    Liter env lb32_0 [4, 7, 9, 11, 13, 14, 17, 16] hq.length [(4, wkP w), (7, .int .i64 170), (9, .int .i64 170), (11, .int .i64 2), (13, .int .i64 2), (14, wkP w2), (17, .int .i64 i), (16, bv hq.length (anb.take i))] ⟨put (hq ++ bb (anb.take i)) r q A, L, H, []⟩ =
      some (.exit 0, fr, ⟨put (hq.set w (.cells 0 false (wkC r 0 6 6 3072 4 2 ann 256 4 6 9)) ++ [.cells 6 true (u8s anb)]) r q A, L, H, []⟩) ∧ fr.get 4 = some (wkP w) ∧ fr.get 7 = some (.int .i64 170) ∧ fr.get 9 = some (.int .i64 170) ∧ fr.get 11 = some (.int .i64 2) ∧ fr.get 13 = some (.int .i64 2) ∧ fr.get 14 = some (wkP w2) ∧ fr.get 16 = some (.slice (some ⟨hq.length, 0, some 6⟩) 6 1)
  | 0, i, e1, hq, hF, k, hb, hw2 => by
    obtain rfl : i = 6 := by omega
    have e2 : rowK ann 4 6 = 4 := by decide
    have e3 : stK 2 ann 4 6 = 9 := by decide
    have e4 : anb.take 6 = anb := rfl
    have e5 : bb anb = [.cells 6 true (u8s anb)] := rfl
    have e6 : ∀ n, bv n anb = .slice (some ⟨n, 0, some 6⟩) 6 1 := fun n => rfl
    rw [e2, e3] at hb
    have es : hq.set w (.cells 0 false (wkC r 0 6 6 3072 4 2 ann 256 4 6 9)) = hq := set_same hb
    rw [es, e4, e5, e6]
    have hb' : ∀ nw, (hq ++ nw)[w]? = some (.cells 0 false (wkC r 0 6 6 3072 4 2 ann 256 4 6 9)) := fun nw => by rw [List.getElem?_append_left k.wn]; exact hb
    have km : WkOk (hq ++ [Blk.cells 6 true (u8s anb)]).length r q w L H A 0 6 3072 2 4 ann := ⟨k.ok.mono (by simp), k.holds, k.valid, k.kk1, k.ixm, k.rank, k.wr, k.wq, by have := k.wn; simp; omega, k.wL, k.hid, k.small, k.by_⟩
    have nd := fun d => rnext_done (d := d) (hF.mono (by simp)) km (hb' _)
    have k0 := k.ok
    rw [iter_by lb32_0.eq_1]
    simp (disch := (first | omega | (simp only [lnE, put_length] <;> omega) | (refine Fit.mono ‹Fit _ _ _› ?_ <;> (simp only [lnE, put_length] <;> omega)) | (refine Fit.draw ‹Fit _ _ _› ?_ ?_ <;> (simp only [lnE, put_length] <;> omega)) | (refine Fit.hid1 ‹Fit _ _ _› ?_ ?_ <;> (simp only [lnE, put_length] <;> omega)) | (refine Fit.draw1 ‹Fit _ _ _› ?_ ?_ ?_ <;> (simp only [lnE, put_length] <;> omega)) | (refine Fit.range0 ?_ ?_ <;> (simp only [lnE, put_length] <;> omega)) | (refine ArOk.mono ‹ArOk _ _ _ _ _› ?_ <;> (simp only [lnE, put_length] <;> omega)) | (refine ArOk.hid ‹ArOk _ _ _ _ _› ?_ ?_ <;> (simp only [lnE, put_length] <;> omega)) | (refine ArOk.hid0 ‹ArOk _ _ _ _ _› ?_ ?_ <;> (simp only [lnE, put_length] <;> omega)) | ((intro xr hxr; simp [AM.refs, refsF, refsC] at hxr) <;> (simp only [lnE, put_length] <;> omega)) | fail)) only [syA, syB, argFr, D, E, T, C, undefv, eqF, aeq, sheqs, sheq, rdCells, cellsOf, fill, putAt, if_true, if_false, reduceIte, ↓reduceIte, reduceCtorEq, eq_self, Nat.reduceEqDiff, Nat.reduceAdd, Nat.reduceSub, Nat.reduceMul, Nat.reduceLT, Nat.reduceLeDiff, Nat.reducePow, Nat.reduceDiv, Nat.reduceMod, Int.reduceLT, Int.reduceLE, Int.reduceGT, Int.reduceGE, Int.reduceToNat, Int.reducePow, Int.reduceNeg, Int.reduceBEq, Int.reduceBNe, Int.reduceEq, Int.reduceAdd, Int.reduceSub, Int.reduceMul, cellv, sc, flatv, refs, refsF, refsC, syR, Int.le_refl, hF.not0, hF.not1, hF.up0, hF.up1, k0.hr, k0.hq, nd]
    have hg := gcFr_put_one (hp := hq) (L := L) (H := H) (r := r) (q := q) (A := A) k.ok.r_lt k.ok.q_lt (nw := [.cells 6 true (u8s anb)]) (fr := [(4, wkP w), (7, .int .i64 170), (9, .int .i64 170), (11, .int .i64 2), (13, .int .i64 2), (14, wkP w2), (17, .int .i64 7), (16, .slice (some ⟨hq.length, 0, some 6⟩) 6 1)]) 0 rfl
          (by have := k.wn; simp [refs, refsF, refsC, wkP]; omega) (by simp [refs, refsF, refsC])
    have hon : AM.one hq.length (hq.length + 0) w = w := one_old k.wn
    have hon2 : AM.one hq.length (hq.length + 0) w2 = w2 := one_old hw2
    simp only [List.map_cons, List.map_nil, ren, renF, renC, one_new, one_new0, hon, hon2, wkP] at hg
    simp only [Nat.add_zero, one_new0] at hg
    rw [hg]
    simp (disch := (first | omega | (simp only [lnE, put_length] <;> omega) | (refine Fit.mono ‹Fit _ _ _› ?_ <;> (simp only [lnE, put_length] <;> omega)) | (refine Fit.draw ‹Fit _ _ _› ?_ ?_ <;> (simp only [lnE, put_length] <;> omega)) | (refine Fit.hid1 ‹Fit _ _ _› ?_ ?_ <;> (simp only [lnE, put_length] <;> omega)) | (refine Fit.draw1 ‹Fit _ _ _› ?_ ?_ ?_ <;> (simp only [lnE, put_length] <;> omega)) | (refine Fit.range0 ?_ ?_ <;> (simp only [lnE, put_length] <;> omega)) | (refine ArOk.mono ‹ArOk _ _ _ _ _› ?_ <;> (simp only [lnE, put_length] <;> omega)) | (refine ArOk.hid ‹ArOk _ _ _ _ _› ?_ ?_ <;> (simp only [lnE, put_length] <;> omega)) | (refine ArOk.hid0 ‹ArOk _ _ _ _ _› ?_ ?_ <;> (simp only [lnE, put_length] <;> omega)) | ((intro xr hxr; simp [AM.refs, refsF, refsC] at hxr) <;> (simp only [lnE, put_length] <;> omega)) | fail)) only [syA, syB, argFr, D, E, T, C, undefv, eqF, aeq, sheqs, sheq, rdCells, cellsOf, fill, putAt, if_true, if_false, reduceIte, ↓reduceIte, reduceCtorEq, eq_self, Nat.reduceEqDiff, Nat.reduceAdd, Nat.reduceSub, Nat.reduceMul, Nat.reduceLT, Nat.reduceLeDiff, Nat.reducePow, Nat.reduceDiv, Nat.reduceMod, Int.reduceLT, Int.reduceLE, Int.reduceGT, Int.reduceGE, Int.reduceToNat, Int.reducePow, Int.reduceNeg, Int.reduceBEq, Int.reduceBNe, Int.reduceEq, Int.reduceAdd, Int.reduceSub, Int.reduceMul, cellv, sc, flatv, refs, refsF, refsC, syR, Int.le_refl]
    rw [iter_by lb32_0.eq_1]
    simp (disch := (first | omega | (simp only [lnE, put_length] <;> omega) | (refine Fit.mono ‹Fit _ _ _› ?_ <;> (simp only [lnE, put_length] <;> omega)) | (refine Fit.draw ‹Fit _ _ _› ?_ ?_ <;> (simp only [lnE, put_length] <;> omega)) | (refine Fit.hid1 ‹Fit _ _ _› ?_ ?_ <;> (simp only [lnE, put_length] <;> omega)) | (refine Fit.draw1 ‹Fit _ _ _› ?_ ?_ ?_ <;> (simp only [lnE, put_length] <;> omega)) | (refine Fit.range0 ?_ ?_ <;> (simp only [lnE, put_length] <;> omega)) | (refine ArOk.mono ‹ArOk _ _ _ _ _› ?_ <;> (simp only [lnE, put_length] <;> omega)) | (refine ArOk.hid ‹ArOk _ _ _ _ _› ?_ ?_ <;> (simp only [lnE, put_length] <;> omega)) | (refine ArOk.hid0 ‹ArOk _ _ _ _ _› ?_ ?_ <;> (simp only [lnE, put_length] <;> omega)) | ((intro xr hxr; simp [AM.refs, refsF, refsC] at hxr) <;> (simp only [lnE, put_length] <;> omega)) | fail)) only [syA, syB, argFr, D, E, T, C, undefv, eqF, aeq, sheqs, sheq, rdCells, cellsOf, fill, putAt, if_true, if_false, reduceIte, ↓reduceIte, reduceCtorEq, eq_self, Nat.reduceEqDiff, Nat.reduceAdd, Nat.reduceSub, Nat.reduceMul, Nat.reduceLT, Nat.reduceLeDiff, Nat.reducePow, Nat.reduceDiv, Nat.reduceMod, Int.reduceLT, Int.reduceLE, Int.reduceGT, Int.reduceGE, Int.reduceToNat, Int.reducePow, Int.reduceNeg, Int.reduceBEq, Int.reduceBNe, Int.reduceEq, Int.reduceAdd, Int.reduceSub, Int.reduceMul, cellv, sc, flatv, refs, refsF, refsC, syR, Int.le_refl]
    exact ⟨_, rfl, rfl, rfl, rfl, rfl, rfl, rfl, rfl⟩
  | n + 1, i, e1, hq, hF, k, hb, hw2 => by
    obtain ⟨a1, a2, a3, a4, a5, a6, a7, a8⟩ := ann_facts i (by omega)
    have k0 := k.ok
    have hb' : ∀ nw, (hq ++ nw)[w]? = some (.cells 0 false (wkC r 0 6 6 3072 4 2 ann 256 (rowK ann 4 i) i (stK 2 ann 4 i))) := fun nw => by rw [List.getElem?_append_left k.wn]; exact hb
    have km : ∀ nw : List Blk, WkOk (hq ++ nw).length r q w L H A 0 6 3072 2 4 ann := fun nw => ⟨k.ok.mono (by simp), k.holds, k.valid, k.kk1, k.ixm, k.rank, k.wr, k.wq, by have := k.wn; simp; omega, k.wL, k.hid, k.small, k.by_⟩
    have a9 : rowK ann 4 (i + 1) = nxR ann 4 (rowK ann 4 i) := rfl
    have nx := fun nw d => rnext_walk (d := d) (hF.mono (by simp)) (km nw) (hb' nw) (show i < 6 by omega) (by omega) a1 a2 a3
    have ax : ∀ h, ann[atR 4 (rowK ann 4 i)]'h = anb.getD i 0 := fun h => (getD_at h).trans a4
    simp only [ax, ← a9] at nx
    have a10 : stK 2 ann 4 i + 1 + atR 4 (rowK ann 4 i) % 2 = stK 2 ann 4 (i + 1) := rfl
    simp only [a10, show ann.length = 6 from rfl] at nx
    obtain ⟨hqB, hqBe⟩ : ∃ hqB, hqB = hq.set w (.cells 0 false (wkC r 0 6 6 3072 4 2 ann 256 (rowK ann 4 (i + 1)) (i + 1) (stK 2 ann 4 (i + 1)))) := ⟨_, rfl⟩
    have hlenB : hqB.length = hq.length := by rw [hqBe]; exact List.length_set
    have nx' : ∀ (nw : List Blk) (d : List Nat), Lrun env (.func 37) [wkP w] ⟨put (hq ++ nw) r q A, L, H, d⟩ = some (.tuple #[.int .u8 (anb.getD i 0 : Nat), .bool true], ⟨put (hqB ++ nw) r q A, L, H, d⟩) := fun nw d => by
      rw [nx nw d, List.set_append_left _ _ k.wn, hqBe, ax a3]
    obtain ⟨fr, f1, f2⟩ := wk21_loop hHw n (i + 1) (by omega) hqB (by rw [hlenB]; exact hF) (by rw [hlenB]; exact k) (by rw [hqBe]; exact List.getElem?_set_self k.wn) (by rw [hlenB]; exact hw2)
    have hsets : hqB.set w (.cells 0 false (wkC r 0 6 6 3072 4 2 ann 256 4 6 9)) = hq.set w (.cells 0 false (wkC r 0 6 6 3072 4 2 ann 256 4 6 9)) := by rw [hqBe, List.set_set]
    rw [hsets, a6] at f1
    rw [hlenB] at f1 f2
    have c1 : (i : Int) < 7 := by omega
    have c2 : (i : Int) < 6 := by omega
    have ir1 : ((i : Nat) : Int) + 1 = ((i + 1 : Nat) : Int) := by omega
    have hl0 := hF.1
    have hfB : Fit hqB.length L H := by rw [hlenB]; exact hF
    have hr' : r < hqB.length := by rw [hlenB]; exact k.ok.r_lt
    have hq' : q < hqB.length := by rw [hlenB]; exact k.ok.q_lt
    clear hqBe nx hsets hb'
    rw [← hlenB] at hF hl0
    rw [iter_by lb32_0.eq_1]
    generalize anb.getD i 0 = x at *
    generalize anb.take i = c at *
    have hon : ∀ m, AM.one hqB.length m w = w := fun m => one_old (by rw [hlenB]; exact k.wn)
    have hon2 : ∀ m, AM.one hqB.length m w2 = w2 := fun m => one_old (by rw [hlenB]; exact hw2)
    by_cases hc : c = []
    · subst hc
      have i0 : i = 0 := by rw [← a7]; rfl
      simp only [bv_nil, bb_nil, List.append_nil, List.nil_append] at f1 ⊢
      rw [bv_ne (by simp), bb_ne (by simp)] at f1
      have nx0 := nx' []
      simp only [List.append_nil] at nx0
      simp only [List.length_cons, List.length_nil, Nat.zero_add] at f1
      have a1 := append_nil1 (hp := put (hqB ++ [.cells 0 true [.int .u8 (x : Int)]]) r q A) (L := L) (H := H) (d := []) (l := [x]) (by simp) (by simp)
      have hr2 : r < (hqB ++ [Blk.cells 0 true [.int .u8 (x : Int)]]).length := by simp; omega
      have hq2 : q < (hqB ++ [Blk.cells 0 true [.int .u8 (x : Int)]]).length := by simp; omega
      rw [put_app hr2 hq2, put_length] at a1
      simp only [u8s_cons, u8s_nil, List.length_cons, List.length_nil, Nat.zero_add, List.append_assoc, List.cons_append, List.nil_append, List.length_append] at a1 f1
      rw [← hlenB]
      simp (disch := (first | omega | (simp only [lnE, put_length] <;> omega) | (refine Fit.mono ‹Fit _ _ _› ?_ <;> (simp only [lnE, put_length] <;> omega)) | (refine Fit.draw ‹Fit _ _ _› ?_ ?_ <;> (simp only [lnE, put_length] <;> omega)) | (refine Fit.hid1 ‹Fit _ _ _› ?_ ?_ <;> (simp only [lnE, put_length] <;> omega)) | (refine Fit.draw1 ‹Fit _ _ _› ?_ ?_ ?_ <;> (simp only [lnE, put_length] <;> omega)) | (refine Fit.range0 ?_ ?_ <;> (simp only [lnE, put_length] <;> omega)) | (refine ArOk.mono ‹ArOk _ _ _ _ _› ?_ <;> (simp only [lnE, put_length] <;> omega)) | (refine ArOk.hid ‹ArOk _ _ _ _ _› ?_ ?_ <;> (simp only [lnE, put_length] <;> omega)) | (refine ArOk.hid0 ‹ArOk _ _ _ _ _› ?_ ?_ <;> (simp only [lnE, put_length] <;> omega)) | ((intro xr hxr; simp [AM.refs, refsF, refsC] at hxr) <;> (simp only [lnE, put_length] <;> omega)) | fail)) only [syA, syB, argFr, D, E, T, C, undefv, eqF, aeq, sheqs, sheq, rdCells, cellsOf, fill, putAt, if_true, if_false, reduceIte, ↓reduceIte, reduceCtorEq, eq_self, Nat.reduceEqDiff, Nat.reduceAdd, Nat.reduceSub, Nat.reduceMul, Nat.reduceLT, Nat.reduceLeDiff, Nat.reducePow, Nat.reduceDiv, Nat.reduceMod, Int.reduceLT, Int.reduceLE, Int.reduceGT, Int.reduceGE, Int.reduceToNat, Int.reducePow, Int.reduceNeg, Int.reduceBEq, Int.reduceBNe, Int.reduceEq, Int.reduceAdd, Int.reduceSub, Int.reduceMul, cellv, sc, flatv, refs, refsF, refsC, syR, Int.le_refl, hF.not0, hF.not1, hF.up0, hF.up1, k0.hr, k0.hq, hr', hq', nx0, c1, c2, a1, small]
      have hg := gcFr_put_one (hp := hqB) (L := L) (H := H) (r := r) (q := q) (A := A) hr' hq' (nw := [.cells 0 true [.int .u8 (x : Int)], .cells 1 true [.int .u8 (x : Int)]]) (fr := [(4, wkP w), (7, .int .i64 170), (9, .int .i64 170), (11, .int .i64 2), (13, .int .i64 2), (14, wkP w2), (17, .int .i64 (i + 1 : Nat)), (16, .slice (some ⟨hqB.length + 1, 0, some 1⟩) 1 1)]) 1 rfl
          (by have := k.wn; simp [refs, refsF, refsC, wkP]; omega) (by simp [refs, refsF, refsC])
      simp only [List.map_cons, List.map_nil, ren, renF, renC, one_new, hon, hon2, wkP] at hg
      rw [ir1, hg]
      simp (disch := (first | omega | (simp only [lnE, put_length] <;> omega) | (refine Fit.mono ‹Fit _ _ _› ?_ <;> (simp only [lnE, put_length] <;> omega)) | (refine Fit.draw ‹Fit _ _ _› ?_ ?_ <;> (simp only [lnE, put_length] <;> omega)) | (refine Fit.hid1 ‹Fit _ _ _› ?_ ?_ <;> (simp only [lnE, put_length] <;> omega)) | (refine Fit.draw1 ‹Fit _ _ _› ?_ ?_ ?_ <;> (simp only [lnE, put_length] <;> omega)) | (refine Fit.range0 ?_ ?_ <;> (simp only [lnE, put_length] <;> omega)) | (refine ArOk.mono ‹ArOk _ _ _ _ _› ?_ <;> (simp only [lnE, put_length] <;> omega)) | (refine ArOk.hid ‹ArOk _ _ _ _ _› ?_ ?_ <;> (simp only [lnE, put_length] <;> omega)) | (refine ArOk.hid0 ‹ArOk _ _ _ _ _› ?_ ?_ <;> (simp only [lnE, put_length] <;> omega)) | ((intro xr hxr; simp [AM.refs, refsF, refsC] at hxr) <;> (simp only [lnE, put_length] <;> omega)) | fail)) only [syA, syB, argFr, D, E, T, C, undefv, eqF, aeq, sheqs, sheq, rdCells, cellsOf, fill, putAt, if_true, if_false, reduceIte, ↓reduceIte, reduceCtorEq, eq_self, Nat.reduceEqDiff, Nat.reduceAdd, Nat.reduceSub, Nat.reduceMul, Nat.reduceLT, Nat.reduceLeDiff, Nat.reducePow, Nat.reduceDiv, Nat.reduceMod, Int.reduceLT, Int.reduceLE, Int.reduceGT, Int.reduceGE, Int.reduceToNat, Int.reducePow, Int.reduceNeg, Int.reduceBEq, Int.reduceBNe, Int.reduceEq, Int.reduceAdd, Int.reduceSub, Int.reduceMul, cellv, sc, flatv, refs, refsF, refsC, syR, Int.le_refl]
      rw [hlenB]
      exact ⟨fr, f1, f2⟩
    · simp only [bv_ne hc, bb_ne hc] at f1 ⊢
      rw [bv_ne (by simp), bb_ne (by simp)] at f1
      have nx0 := nx' [.cells c.length true (u8s c)]
      have a1 := append_full (hp := put (hqB ++ [.cells c.length true (u8s c), .cells 0 true [.int .u8 (x : Int)]]) r q A) (L := L) (b := hqB.length) (H := H) (d := []) (l0 := c) (l := [x]) (by rw [put_o (by omega) (by omega), get_new0]) (by have := hF.1; omega) hF.not0 (by simp; omega)
      rw [put_set_o (by omega) (by omega)] at a1
      simp only [u8s_cons, u8s_nil, List.length_cons, List.length_nil, Nat.zero_add, List.append_assoc, List.cons_append, List.nil_append, List.length_append, set_new0, List.set_cons_zero] at a1 f1
      rw [← hlenB]
      simp (disch := (first | omega | (simp only [lnE, put_length] <;> omega) | (refine Fit.mono ‹Fit _ _ _› ?_ <;> (simp only [lnE, put_length] <;> omega)) | (refine Fit.draw ‹Fit _ _ _› ?_ ?_ <;> (simp only [lnE, put_length] <;> omega)) | (refine Fit.hid1 ‹Fit _ _ _› ?_ ?_ <;> (simp only [lnE, put_length] <;> omega)) | (refine Fit.draw1 ‹Fit _ _ _› ?_ ?_ ?_ <;> (simp only [lnE, put_length] <;> omega)) | (refine Fit.range0 ?_ ?_ <;> (simp only [lnE, put_length] <;> omega)) | (refine ArOk.mono ‹ArOk _ _ _ _ _› ?_ <;> (simp only [lnE, put_length] <;> omega)) | (refine ArOk.hid ‹ArOk _ _ _ _ _› ?_ ?_ <;> (simp only [lnE, put_length] <;> omega)) | (refine ArOk.hid0 ‹ArOk _ _ _ _ _› ?_ ?_ <;> (simp only [lnE, put_length] <;> omega)) | ((intro xr hxr; simp [AM.refs, refsF, refsC] at hxr) <;> (simp only [lnE, put_length] <;> omega)) | fail)) only [syA, syB, argFr, D, E, T, C, undefv, eqF, aeq, sheqs, sheq, rdCells, cellsOf, fill, putAt, if_true, if_false, reduceIte, ↓reduceIte, reduceCtorEq, eq_self, Nat.reduceEqDiff, Nat.reduceAdd, Nat.reduceSub, Nat.reduceMul, Nat.reduceLT, Nat.reduceLeDiff, Nat.reducePow, Nat.reduceDiv, Nat.reduceMod, Int.reduceLT, Int.reduceLE, Int.reduceGT, Int.reduceGE, Int.reduceToNat, Int.reducePow, Int.reduceNeg, Int.reduceBEq, Int.reduceBNe, Int.reduceEq, Int.reduceAdd, Int.reduceSub, Int.reduceMul, cellv, sc, flatv, refs, refsF, refsC, syR, Int.le_refl, hF.not0, hF.not1, hF.up0, hF.up1, k0.hr, k0.hq, hr', hq', nx0, c1, c2, a1, small]
      have hg := gcFr_put_one (hp := hqB) (L := L) (H := H) (r := r) (q := q) (A := A) hr' hq' (nw := [.cells (c.length + 1) true (u8s (c ++ [x])), .cells 0 true [.int .u8 (x : Int)]]) (fr := [(4, wkP w), (7, .int .i64 170), (9, .int .i64 170), (11, .int .i64 2), (13, .int .i64 2), (14, wkP w2), (17, .int .i64 (i + 1 : Nat)), (16, .slice (some ⟨hqB.length, 0, some (c.length + 1)⟩) (c.length + 1) 1)]) 0 rfl
          (by have := k.wn; simp [refs, refsF, refsC, wkP]; omega) (by simp [refs, refsF, refsC])
      simp only [List.map_cons, List.map_nil, ren, renF, renC, one_new0, hon, hon2, wkP, Nat.add_zero] at hg
      rw [ir1, hg]
      simp (disch := (first | omega | (simp only [lnE, put_length] <;> omega) | (refine Fit.mono ‹Fit _ _ _› ?_ <;> (simp only [lnE, put_length] <;> omega)) | (refine Fit.draw ‹Fit _ _ _› ?_ ?_ <;> (simp only [lnE, put_length] <;> omega)) | (refine Fit.hid1 ‹Fit _ _ _› ?_ ?_ <;> (simp only [lnE, put_length] <;> omega)) | (refine Fit.draw1 ‹Fit _ _ _› ?_ ?_ ?_ <;> (simp only [lnE, put_length] <;> omega)) | (refine Fit.range0 ?_ ?_ <;> (simp only [lnE, put_length] <;> omega)) | (refine ArOk.mono ‹ArOk _ _ _ _ _› ?_ <;> (simp only [lnE, put_length] <;> omega)) | (refine ArOk.hid ‹ArOk _ _ _ _ _› ?_ ?_ <;> (simp only [lnE, put_length] <;> omega)) | (refine ArOk.hid0 ‹ArOk _ _ _ _ _› ?_ ?_ <;> (simp only [lnE, put_length] <;> omega)) | ((intro xr hxr; simp [AM.refs, refsF, refsC] at hxr) <;> (simp only [lnE, put_length] <;> omega)) | fail)) only [syA, syB, argFr, D, E, T, C, undefv, eqF, aeq, sheqs, sheq, rdCells, cellsOf, fill, putAt, if_true, if_false, reduceIte, ↓reduceIte, reduceCtorEq, eq_self, Nat.reduceEqDiff, Nat.reduceAdd, Nat.reduceSub, Nat.reduceMul, Nat.reduceLT, Nat.reduceLeDiff, Nat.reducePow, Nat.reduceDiv, Nat.reduceMod, Int.reduceLT, Int.reduceLE, Int.reduceGT, Int.reduceGE, Int.reduceToNat, Int.reducePow, Int.reduceNeg, Int.reduceBEq, Int.reduceBNe, Int.reduceEq, Int.reduceAdd, Int.reduceSub, Int.reduceMul, cellv, sc, flatv, refs, refsF, refsC, syR, Int.le_refl]
      rw [hlenB]
      exact ⟨fr, f1, f2⟩
end
theorem WkOk.mono {n m r q w : Nat} {L : Nat} {H : List Nat} {A : Arn} {s t z kk ix : Nat} {x : List Nat} (k : WkOk n r q w L H A s t z kk ix x) (h : n ≤ m) : WkOk m r q w L H A s t z kk ix x :=
  ⟨k.ok.mono h, k.holds, k.valid, k.kk1, k.ixm, k.rank, k.wr, k.wq, Nat.lt_of_lt_of_le k.wn h, k.wL, k.hid, k.small, k.by_⟩
section
variable {hp : List Blk} {L : Nat} {H d : List Nat}
theorem rreset_nil (hF : Fit hp.length L H) : Lrun env (.func 41) [.pointer none] ⟨hp, L, H, d⟩ = some (.tuple #[], ⟨hp, L, H, d⟩) := by
  rw [Lrun_sym 41 _ _ fn41]
  simp (disch := (first | omega | (simp only [lnE] <;> omega) | (refine Fit.mono ‹Fit _ _ _› ?_ <;> (simp only [lnE] <;> omega)) | (refine Fit.draw ‹Fit _ _ _› ?_ ?_ <;> (simp only [lnE] <;> omega)) | (refine Fit.hid1 ‹Fit _ _ _› ?_ ?_ <;> (simp only [lnE] <;> omega)) | (refine Fit.draw1 ‹Fit _ _ _› ?_ ?_ ?_ <;> (simp only [lnE] <;> omega)) | (refine Fit.range0 ?_ ?_ <;> (simp only [lnE] <;> omega)) | fail)) only [syA, syB, argFr, D, E, T, C, undefv, eqF, aeq, sheqs, sheq, rdCells, cellsOf, fill, putAt, if_true, if_false, reduceIte, ↓reduceIte, reduceCtorEq, eq_self, Nat.reduceEqDiff, Nat.reduceAdd, Nat.reduceSub, Nat.reduceMul, Nat.reduceLT, Nat.reduceLeDiff, Nat.reducePow, Nat.reduceDiv, Nat.reduceMod, Int.reduceLT, Int.reduceLE, Int.reduceGT, Int.reduceGE, Int.reduceToNat, Int.reducePow, Int.reduceNeg, Int.reduceBEq, Int.reduceBNe, Int.reduceEq, Int.reduceAdd, Int.reduceSub, Int.reduceMul, cellv, sc, flatv, refs, refsF, refsC, hF.not0, hF.not1, hF.up0, hF.up1, ac41]
theorem rnext_nil (hF : Fit hp.length L H) : Lrun env (.func 37) [.pointer none] ⟨hp, L, H, d⟩ = some (.tuple #[.int .u8 0, .bool false], ⟨hp, L, H, d⟩) := by
  rw [Lrun_sym 37 _ _ fn37]
  simp (disch := (first | omega | (simp only [lnE] <;> omega) | (refine Fit.mono ‹Fit _ _ _› ?_ <;> (simp only [lnE] <;> omega)) | (refine Fit.draw ‹Fit _ _ _› ?_ ?_ <;> (simp only [lnE] <;> omega)) | (refine Fit.hid1 ‹Fit _ _ _› ?_ ?_ <;> (simp only [lnE] <;> omega)) | (refine Fit.draw1 ‹Fit _ _ _› ?_ ?_ ?_ <;> (simp only [lnE] <;> omega)) | (refine Fit.range0 ?_ ?_ <;> (simp only [lnE] <;> omega)) | fail)) only [syA, syB, argFr, D, E, T, C, undefv, eqF, aeq, sheqs, sheq, rdCells, cellsOf, fill, putAt, if_true, if_false, reduceIte, ↓reduceIte, reduceCtorEq, eq_self, Nat.reduceEqDiff, Nat.reduceAdd, Nat.reduceSub, Nat.reduceMul, Nat.reduceLT, Nat.reduceLeDiff, Nat.reducePow, Nat.reduceDiv, Nat.reduceMod, Int.reduceLT, Int.reduceLE, Int.reduceGT, Int.reduceGE, Int.reduceToNat, Int.reducePow, Int.reduceNeg, Int.reduceBEq, Int.reduceBNe, Int.reduceEq, Int.reduceAdd, Int.reduceSub, Int.reduceMul, cellv, sc, flatv, refs, refsF, refsC, hF.not0, hF.not1, hF.up0, hF.up1, ac37]
theorem rwvalid_nil (hF : Fit hp.length L H) : Lrun env (.func 35) [.pointer none] ⟨hp, L, H, d⟩ = some (.bool false, ⟨hp, L, H, d⟩) := by
  rw [Lrun_sym 35 _ _ fn35]
  simp (disch := (first | omega | (simp only [lnE] <;> omega) | (refine Fit.mono ‹Fit _ _ _› ?_ <;> (simp only [lnE] <;> omega)) | (refine Fit.draw ‹Fit _ _ _› ?_ ?_ <;> (simp only [lnE] <;> omega)) | (refine Fit.hid1 ‹Fit _ _ _› ?_ ?_ <;> (simp only [lnE] <;> omega)) | (refine Fit.draw1 ‹Fit _ _ _› ?_ ?_ ?_ <;> (simp only [lnE] <;> omega)) | (refine Fit.range0 ?_ ?_ <;> (simp only [lnE] <;> omega)) | fail)) only [syA, syB, argFr, D, E, T, C, undefv, eqF, aeq, sheqs, sheq, rdCells, cellsOf, fill, putAt, if_true, if_false, reduceIte, ↓reduceIte, reduceCtorEq, eq_self, Nat.reduceEqDiff, Nat.reduceAdd, Nat.reduceSub, Nat.reduceMul, Nat.reduceLT, Nat.reduceLeDiff, Nat.reducePow, Nat.reduceDiv, Nat.reduceMod, Int.reduceLT, Int.reduceLE, Int.reduceGT, Int.reduceGE, Int.reduceToNat, Int.reducePow, Int.reduceNeg, Int.reduceBEq, Int.reduceBNe, Int.reduceEq, Int.reduceAdd, Int.reduceSub, Int.reduceMul, cellv, sc, flatv, refs, refsF, refsC, hF.not0, hF.not1, hF.up0, hF.up1, ac35]
theorem rsteps_nil (hF : Fit hp.length L H) : Lrun env (.func 36) [.pointer none] ⟨hp, L, H, d⟩ = some (.int .i64 0, ⟨hp, L, H, d⟩) := by
  rw [Lrun_sym 36 _ _ fn36]
  simp (disch := (first | omega | (simp only [lnE] <;> omega) | (refine Fit.mono ‹Fit _ _ _› ?_ <;> (simp only [lnE] <;> omega)) | (refine Fit.draw ‹Fit _ _ _› ?_ ?_ <;> (simp only [lnE] <;> omega)) | (refine Fit.hid1 ‹Fit _ _ _› ?_ ?_ <;> (simp only [lnE] <;> omega)) | (refine Fit.draw1 ‹Fit _ _ _› ?_ ?_ ?_ <;> (simp only [lnE] <;> omega)) | (refine Fit.range0 ?_ ?_ <;> (simp only [lnE] <;> omega)) | fail)) only [syA, syB, argFr, D, E, T, C, undefv, eqF, aeq, sheqs, sheq, rdCells, cellsOf, fill, putAt, if_true, if_false, reduceIte, ↓reduceIte, reduceCtorEq, eq_self, Nat.reduceEqDiff, Nat.reduceAdd, Nat.reduceSub, Nat.reduceMul, Nat.reduceLT, Nat.reduceLeDiff, Nat.reducePow, Nat.reduceDiv, Nat.reduceMod, Int.reduceLT, Int.reduceLE, Int.reduceGT, Int.reduceGE, Int.reduceToNat, Int.reducePow, Int.reduceNeg, Int.reduceBEq, Int.reduceBNe, Int.reduceEq, Int.reduceAdd, Int.reduceSub, Int.reduceMul, cellv, sc, flatv, refs, refsF, refsC, hF.not0, hF.not1, hF.up0, hF.up1, ac36]
set_option maxRecDepth 100000 in
theorem wakes21_walk (hF : Fit hp.length L H) : Lrun env (.func 32) [] ⟨hp, L, H, d⟩ = some (.bool true, ⟨hp, L, H, d⟩) := by
  have hby : By ann := by unfold By; decide
  have hw : L ≤ hp.length + 1 ∧ L ≤ hp.length + 1 + 1 := by have := hF.1; omega
  have hh1 := hF.not1 1
  have hh2 : H.contains (hp.length + 1 + 1) = false := hF.not1 2
  have hs : rSize ann.length 2 = (3072 : Nat) := by decide
  have hrd : ∀ d, Rd ⟨hp ++ [.cells 0 true (u8s ann)], L, H, d⟩ (.slice (some ⟨hp.length, 0, some 0⟩) 6 1) ann := fun d => Rd.whole (hp := hp ++ [.cells 0 true (u8s ann)]) (b := hp.length) (g := 0) (e := 1) (l := ann) (by rw [get_new0]) hF.not0 hby (.inr rfl)
  have ld := laid21_walk (d := []) (kk := 2) (sz := 3072) (e := 0) (hp := hp ++ [.cells 0 true (u8s ann)]) (L := L) (H := H) (hF.mono (by simp)) (hrd []) (by decide) (by decide) (by omega) (by omega)
  have k0 : ArOk (hp.length + 3) (hp.length + 1) (hp.length + 1 + 1) H (rl ann 3072) := rl_ok (by omega) (by omega) (by omega) hh1 hh2 hby (by decide)
  have hv0 : rValid (rl ann 3072) (0 : Nat) ann.length (6 : Nat) (3072 : Nat) (2 : Nat) = true := rl_valid (by decide) (by decide) (by decide) hs
  obtain ⟨B1, n1, m1, rk1, h1, k1⟩ := rnew_walk (ix := 4) (hp := hp ++ [.cells 0 true (u8s ann), default, default, .cells 0 true [.int .i64 0, .int .i64 6], .cells 0 true [.int .i64 6, .int .i64 3072]]) (L := L) (H := H) (r := hp.length + 1) (q := hp.length + 1 + 1) (hF.mono (by simp)) (k0.mono (by simp)) hw (rl_holds ann 3072) hv0 (by decide)
  have v1 : rValid B1 (0 : Nat) ann.length (6 : Nat) (3072 : Nat) (2 : Nat) = true := by rw [rValid_live m1.live]; exact hv0
  obtain ⟨W1, hW1⟩ : ∃ W1, W1 = Blk.cells 0 false (wkC (hp.length + 1) 0 6 6 3072 4 2 ann 256 0 0 0) := ⟨_, rfl⟩
  have e6 : ∀ (nw : List Blk), hp.length + 3 ≤ (hp ++ (.cells 0 true (u8s ann) :: default :: default :: nw)).length := fun _ => by simp
  obtain ⟨B2, n2, m2, h2, k2⟩ := rnew_index (ix := 0) (hp := hp ++ [.cells 0 true (u8s ann), default, default, .cells 0 true [.int .i64 0, .int .i64 6], .cells 0 true [.int .i64 6, .int .i64 3072], W1]) (L := L) (H := H) (r := hp.length + 1) (q := hp.length + 1 + 1) (hF.mono (by simp)) ((m1.ok k0).mono (e6 _)) hw h1 v1 (by decide)
  have v2 : rValid B2 (0 : Nat) ann.length (6 : Nat) (3072 : Nat) (2 : Nat) = true := by rw [rValid_live m2.live]; exact v1
  obtain ⟨B3, n3, m3, h3, k3⟩ := rnew_index (ix := 7) (hp := hp ++ [.cells 0 true (u8s ann), default, default, .cells 0 true [.int .i64 0, .int .i64 6], .cells 0 true [.int .i64 6, .int .i64 3072], W1]) (L := L) (H := H) (r := hp.length + 1) (q := hp.length + 1 + 1) (hF.mono (by simp)) k2 hw h2 v2 (by decide)
  have v3 : rValid B3 (0 : Nat) ann.length (6 : Nat) (3072 : Nat) (2 : Nat) = true := by rw [rValid_live m3.live]; exact v2
  have n4 := fun d => rnew_bad (d := d) (ix := 4) (hp := hp ++ [.cells 0 true (u8s ann), default, default, .cells 0 true [.int .i64 0, .int .i64 6], .cells 0 true [.int .i64 6, .int .i64 3072], W1]) (L := L) (H := H) (r := hp.length + 1) (q := hp.length + 1 + 1) (A := B3) (s := 0) (m := 6) (t := 6) (z := 3072) (kk := 0) (hF.mono (by simp)) k3 (by simp [rValid])
  obtain ⟨B, n5, m5, rk5, h5, k5⟩ := rnew_walk (ix := 3) (hp := hp ++ [.cells 0 true (u8s ann), default, default, .cells 0 true [.int .i64 0, .int .i64 6], .cells 0 true [.int .i64 6, .int .i64 3072], W1]) (L := L) (H := H) (r := hp.length + 1) (q := hp.length + 1 + 1) (hF.mono (by simp)) k3 hw h3 v3 (by decide)
  have v5 : rValid B (0 : Nat) ann.length (6 : Nat) (3072 : Nat) (2 : Nat) = true := by rw [rValid_live m5.live]; exact v3
  have kB : ArOk (hp.length + 3) (hp.length + 1) (hp.length + 1 + 1) H B := m5.ok (m3.ok (m2.ok (m1.ok k0)))
  have hL0 := hF.1
  have kW : WkOk (hp.length + 7) (hp.length + 1) (hp.length + 1 + 1) (hp.length + 5) L H B 0 6 3072 2 4 ann := ⟨kB.mono (by omega), h5, v5, by omega, by decide, rk5, by omega, by omega, by omega, by omega, hF.not1 5, by decide, hby⟩
  have kV : WkOk (hp.length + 7) (hp.length + 1) (hp.length + 1 + 1) (hp.length + 6) L H B 0 6 3072 2 3 ann := ⟨kB.mono (by omega), h5, v5, by omega, by decide, rk5, by omega, by omega, by omega, by omega, hF.not1 6, by decide, hby⟩
  obtain ⟨W2, hW2⟩ : ∃ W2, W2 = Blk.cells 0 false (wkC (hp.length + 1) 0 6 6 3072 3 2 ann 256 0 0 0) := ⟨_, rfl⟩
  obtain ⟨fr, lp, f4, f7, f9, f11, f13, f14, f16⟩ := wk21_loop (L := L) (H := H) (r := hp.length + 1) (q := hp.length + 1 + 1) (w := hp.length + 5) (w2 := hp.length + 6) (A := B) (hF.not1 6) 6 0 rfl (hp ++ [.cells 0 true (u8s ann), default, default, .cells 0 true [.int .i64 0, .int .i64 6], .cells 0 true [.int .i64 6, .int .i64 3072], W1, W2]) (hF.mono (by simp)) (kW.mono (by simp)) (by rw [get_new]; exact congrArg some hW1) (by simp)
  have bv0 : ∀ n, bv n (anb.take 0) = .slice none 0 0 := fun n => rfl
  have bb0 : bb (anb.take 0) = [] := rfl
  rw [bv0, bb0, List.append_nil] at lp
  have s9 := fun d => rsteps_walk (d := d) (hp := hp ++ [.cells 0 true (u8s ann), default, default, .cells 0 true [.int .i64 0, .int .i64 6], .cells 0 true [.int .i64 6, .int .i64 3072], .cells 0 false (wkC (hp.length + 1) 0 6 6 3072 4 2 ann 256 4 6 9), W2, .cells 6 true (u8s anb)]) (L := L) (H := H) (r := hp.length + 1) (q := hp.length + 1 + 1) (A := B) (w := hp.length + 5) (s := 0) (t := 6) (z := 3072) (kk := 2) (ix := 4) (x := ann) (row := 4) (told := 6) (steps := 9) (hF.mono (by simp)) (kW.mono (by simp)) (by rw [get_new]; rfl)
  have t6 := fun d => rtold_walk (d := d) (hp := hp ++ [.cells 0 true (u8s ann), default, default, .cells 0 true [.int .i64 0, .int .i64 6], .cells 0 true [.int .i64 6, .int .i64 3072], .cells 0 false (wkC (hp.length + 1) 0 6 6 3072 4 2 ann 256 4 6 9), W2, .cells 6 true (u8s anb)]) (L := L) (H := H) (r := hp.length + 1) (q := hp.length + 1 + 1) (A := B) (w := hp.length + 5) (s := 0) (t := 6) (z := 3072) (kk := 2) (ix := 4) (x := ann) (row := 4) (told := 6) (steps := 9) (hF.mono (by simp)) (kW.mono (by simp)) (by rw [get_new]; rfl)
  have v9 := fun d => rwvalid_walk (d := d) (hp := hp ++ [.cells 0 true (u8s ann), default, default, .cells 0 true [.int .i64 0, .int .i64 6], .cells 0 true [.int .i64 6, .int .i64 3072], .cells 0 false (wkC (hp.length + 1) 0 6 6 3072 4 2 ann 256 4 6 9), W2, .cells 6 true (u8s anb)]) (L := L) (H := H) (r := hp.length + 1) (q := hp.length + 1 + 1) (A := B) (w := hp.length + 5) (s := 0) (t := 6) (z := 3072) (kk := 2) (ix := 4) (x := ann) (r0 := 4) (told := 6) (steps := 9) (hF.mono (by simp)) (kW.mono (by simp)) (by rw [get_new]; rfl) (by omega) (by decide)
  have vv1 : decide ((vw (fun a => a % 2) ann 4 ann.length 0 9).1 = some 4) = true := by decide
  have vv2 : (vw (fun a => a % 2) ann 4 ann.length 0 9).2 = 18 := by decide
  simp only [vv1, vv2] at v9
  have s18 := fun d => rsteps_walk (d := d) (hp := hp ++ [.cells 0 true (u8s ann), default, default, .cells 0 true [.int .i64 0, .int .i64 6], .cells 0 true [.int .i64 6, .int .i64 3072], .cells 0 false (wkC (hp.length + 1) 0 6 6 3072 4 2 ann 256 4 6 18), W2, .cells 6 true (u8s anb)]) (L := L) (H := H) (r := hp.length + 1) (q := hp.length + 1 + 1) (A := B) (w := hp.length + 5) (s := 0) (t := 6) (z := 3072) (kk := 2) (ix := 4) (x := ann) (row := 4) (told := 6) (steps := 18) (hF.mono (by simp)) (kW.mono (by simp)) (by rw [get_new]; rfl)
  have r18 := fun d => rreset_walk (d := d) (hp := hp ++ [.cells 0 true (u8s ann), default, default, .cells 0 true [.int .i64 0, .int .i64 6], .cells 0 true [.int .i64 6, .int .i64 3072], .cells 0 false (wkC (hp.length + 1) 0 6 6 3072 4 2 ann 256 4 6 18), W2, .cells 6 true (u8s anb)]) (L := L) (H := H) (r := hp.length + 1) (q := hp.length + 1 + 1) (A := B) (w := hp.length + 5) (s := 0) (t := 6) (z := 3072) (kk := 2) (ix := 4) (x := ann) (row := 4) (told := 6) (steps := 18) (hF.mono (by simp)) (kW.mono (by simp)) (by rw [get_new]; rfl)
  have x18 := fun d => rnext_walk (d := d) (hp := hp ++ [.cells 0 true (u8s ann), default, default, .cells 0 true [.int .i64 0, .int .i64 6], .cells 0 true [.int .i64 6, .int .i64 3072], .cells 0 false (wkC (hp.length + 1) 0 6 6 3072 4 2 ann 256 0 0 18), W2, .cells 6 true (u8s anb)]) (L := L) (H := H) (r := hp.length + 1) (q := hp.length + 1 + 1) (A := B) (w := hp.length + 5) (s := 0) (t := 6) (z := 3072) (kk := 2) (ix := 4) (x := ann) (row := 0) (told := 0) (steps := 18) (hF.mono (by simp)) (kW.mono (by simp)) (by rw [get_new]; rfl) (by decide) (by decide) (by decide) (by decide) (by decide)
  have xx1 : nxR ann 4 0 = 1 := by decide
  have xx2 : ∀ h, ann[atR 4 0]'h = 97 := fun h => rfl
  have xx3 : atR 4 0 % 2 = 0 := by decide
  simp only [xx1, xx2, xx3, Nat.zero_add, Nat.reduceAdd, Nat.add_zero] at x18
  have t19 := fun d => rtold_walk (d := d) (hp := hp ++ [.cells 0 true (u8s ann), default, default, .cells 0 true [.int .i64 0, .int .i64 6], .cells 0 true [.int .i64 6, .int .i64 3072], .cells 0 false (wkC (hp.length + 1) 0 6 6 3072 4 2 ann 256 1 1 19), W2, .cells 6 true (u8s anb)]) (L := L) (H := H) (r := hp.length + 1) (q := hp.length + 1 + 1) (A := B) (w := hp.length + 5) (s := 0) (t := 6) (z := 3072) (kk := 2) (ix := 4) (x := ann) (row := 1) (told := 1) (steps := 19) (hF.mono (by simp)) (kW.mono (by simp)) (by rw [get_new]; rfl)
  have hbv := fun d => rwvalid_walk (d := d) (hp := hp ++ [.cells 0 true (u8s ann), default, default, .cells 0 true [.int .i64 0, .int .i64 6], .cells 0 true [.int .i64 6, .int .i64 3072], .cells 0 false (wkC (hp.length + 1) 0 6 6 3072 4 2 ann 256 1 1 19), W2, .cells 6 true (u8s anb)]) (L := L) (H := H) (r := hp.length + 1) (q := hp.length + 1 + 1) (A := B) (w := hp.length + 6) (s := 0) (t := 6) (z := 3072) (kk := 2) (ix := 3) (x := ann) (r0 := 0) (told := 0) (steps := 0) (hF.mono (by simp)) (kV.mono (by simp)) (by rw [get_new]; exact congrArg some hW2) (by omega) (by decide)
  have vb1 : decide ((vw (fun a => a % 2) ann 3 ann.length 0 0).1 = some 3) = false := by decide
  simp only [vb1] at hbv
  generalize (vw (fun a => a % 2) ann 3 ann.length 0 0).2 = sb at hbv
  have hal : ann.length = 6 := rfl
  simp only [hal, set_new, List.set_cons_succ, List.set_cons_zero, ← hW1, ← hW2, List.length_append, List.length_cons, List.length_nil, Nat.reduceAdd, Nat.zero_add, List.append_assoc, List.cons_append, List.nil_append, Int.natCast_zero, Int.natCast_one, Int.cast_ofNat_Int] at s9 t6 v9 s18 r18 x18 t19 hbv lp ld n1 n2 n3 n4 n5 f16
  have hrd2 : ∀ (W W' : Blk), Rd ⟨put (hp ++ [.cells 0 true (u8s ann), default, default, .cells 0 true [.int .i64 0, .int .i64 6], .cells 0 true [.int .i64 6, .int .i64 3072], W, W', .cells 6 true (u8s anb)]) (hp.length + 1) (hp.length + 1 + 1) B, L, H, []⟩ (.slice (some ⟨hp.length + 7, 0, some 6⟩) 6 1) anb := fun W W' => Rd.whole (l := anb) (by rw [put_o (by omega) (by omega), get_new]; rfl) (hF.not1 7) (by unfold By; decide) (.inr rfl)
  have hst := (hrd2 (.cells 0 false (wkC (hp.length + 1) 0 6 6 3072 4 2 ann 256 1 1 19)) W2).str
  have hC : Value.string ⟨#[97, 110, 97, 110, 97, 98]⟩ = .string ⟨(b8 anb).toArray⟩ := rfl
  have hann : [Value.int .u8 97, .int .u8 110, .int .u8 110, .int .u8 98, .int .u8 97, .int .u8 97] = u8s ann := rfl
  have up := hF.up1
  have sm6 : small 6 = true := by decide
  have mkx := markX_some (σ := ⟨hp ++ [.cells 0 true (u8s ann)], L, H, []⟩) hp.length 0 0 6 1 hF.up0 (by simp)
  have hr6 : List.replicate 6 (Value.int .u8 0) = [.int .u8 0, .int .u8 0, .int .u8 0, .int .u8 0, .int .u8 0, .int .u8 0] := rfl
  rw [Lrun_sym 32 _ _ fn32]
  simp (disch := (first | omega | (simp only [lnE, put_length] <;> omega) | (refine Fit.mono ‹Fit _ _ _› ?_ <;> (simp only [lnE, put_length] <;> omega)) | (refine Fit.draw ‹Fit _ _ _› ?_ ?_ <;> (simp only [lnE, put_length] <;> omega)) | (refine Fit.hid1 ‹Fit _ _ _› ?_ ?_ <;> (simp only [lnE, put_length] <;> omega)) | (refine Fit.draw1 ‹Fit _ _ _› ?_ ?_ ?_ <;> (simp only [lnE, put_length] <;> omega)) | (refine Fit.range0 ?_ ?_ <;> (simp only [lnE, put_length] <;> omega)) | (refine ArOk.mono ‹ArOk _ _ _ _ _› ?_ <;> (simp only [lnE, put_length] <;> omega)) | (refine ArOk.hid ‹ArOk _ _ _ _ _› ?_ ?_ <;> (simp only [lnE, put_length] <;> omega)) | (refine ArOk.hid0 ‹ArOk _ _ _ _ _› ?_ ?_ <;> (simp only [lnE, put_length] <;> omega)) | ((intro xr hxr; simp [AM.refs, refsF, refsC] at hxr) <;> (simp only [lnE, put_length] <;> omega)) | fail)) only [syA, syB, argFr, D, E, T, C, undefv, eqF, aeq, sheqs, sheq, rdCells, cellsOf, fill, putAt, if_true, if_false, reduceIte, ↓reduceIte, reduceCtorEq, eq_self, Nat.reduceEqDiff, Nat.reduceAdd, Nat.reduceSub, Nat.reduceMul, Nat.reduceLT, Nat.reduceLeDiff, Nat.reducePow, Nat.reduceDiv, Nat.reduceMod, Int.reduceLT, Int.reduceLE, Int.reduceGT, Int.reduceGE, Int.reduceToNat, Int.reducePow, Int.reduceNeg, Int.reduceBEq, Int.reduceBNe, Int.reduceEq, Int.reduceAdd, Int.reduceSub, Int.reduceMul, cellv, sc, flatv, refs, refsF, refsC, syR, Int.le_refl, hF.not0, hF.not1, hF.up0, hF.up1, ac32, hr6, hal, u8s_sc, mkx, sm6, hann, ld, n1, n2, n3, n4, n5, rnew_nil, lp, f4, f7, f9, f11, f13, f14, f16, s9, t6, v9, s18, r18, x18, t19, hbv, rreset_nil, rnext_nil, rwvalid_nil, rsteps_nil, hst, hC]
  rw [gc_bool_new (by omega) (by omega) (by simp)]
  simp (disch := (first | omega | (simp only [lnE, put_length] <;> omega) | (refine Fit.mono ‹Fit _ _ _› ?_ <;> (simp only [lnE, put_length] <;> omega)) | (refine Fit.draw ‹Fit _ _ _› ?_ ?_ <;> (simp only [lnE, put_length] <;> omega)) | (refine Fit.hid1 ‹Fit _ _ _› ?_ ?_ <;> (simp only [lnE, put_length] <;> omega)) | (refine Fit.draw1 ‹Fit _ _ _› ?_ ?_ ?_ <;> (simp only [lnE, put_length] <;> omega)) | (refine Fit.range0 ?_ ?_ <;> (simp only [lnE, put_length] <;> omega)) | (refine ArOk.mono ‹ArOk _ _ _ _ _› ?_ <;> (simp only [lnE, put_length] <;> omega)) | (refine ArOk.hid ‹ArOk _ _ _ _ _› ?_ ?_ <;> (simp only [lnE, put_length] <;> omega)) | (refine ArOk.hid0 ‹ArOk _ _ _ _ _› ?_ ?_ <;> (simp only [lnE, put_length] <;> omega)) | ((intro xr hxr; simp [AM.refs, refsF, refsC] at hxr) <;> (simp only [lnE, put_length] <;> omega)) | fail)) only [syA, syB, argFr, D, E, T, C, undefv, eqF, aeq, sheqs, sheq, rdCells, cellsOf, fill, putAt, if_true, if_false, reduceIte, ↓reduceIte, reduceCtorEq, eq_self, Nat.reduceEqDiff, Nat.reduceAdd, Nat.reduceSub, Nat.reduceMul, Nat.reduceLT, Nat.reduceLeDiff, Nat.reducePow, Nat.reduceDiv, Nat.reduceMod, Int.reduceLT, Int.reduceLE, Int.reduceGT, Int.reduceGE, Int.reduceToNat, Int.reducePow, Int.reduceNeg, Int.reduceBEq, Int.reduceBNe, Int.reduceEq, Int.reduceAdd, Int.reduceSub, Int.reduceMul, cellv, sc, flatv, refs, refsF, refsC, syR, Int.le_refl]
end
end ArA
end Go.Proofs.Ytlbdgbfblgjjgaa
