/-
  THE WAY BACK: walks of the reference's Back and Valid. Conditions: none.
-/
import Derived.Test.YtlphmnhkkhcjfaaBk17
set_option linter.all false
namespace Go.Proofs.Ytlphmnhkkhcjfaa
namespace ArA
open Go Go.RowKit AM ArEnv
section
variable {L : Nat} {H d : List Nat}
theorem after_walk {hq : List Blk} (hF : Fit hq.length L H) {v : Value} {x : List Nat} (hr : Rd ⟨hq, L, H, []⟩ v x) (hl : x.length ≤ 65536) (h0 : x ≠ []) :
    Lrun env (.func 68) [v] ⟨hq, L, H, d⟩ = some (.slice (some ⟨hq.length, 0, some x.length⟩) x.length 1, ⟨hq ++ [.cells x.length true (i64n (aftR x x.length))], L, H, d⟩) := by
  obtain ⟨fr, f1, f2, f3, f4⟩ := af_less hF hr (Cb := .cells 0 true (c256 [])) (by omega) x.length 0 (by omega)
  obtain ⟨fr2, g1, g2⟩ := af_out hF hr hl x.length 0 (by omega)
  have z1 : aftR x 0 = [] := rfl
  have hne : aftR x x.length ≠ [] := by intro h; have := aftR_len x x.length; rw [h] at this; cases x; exact h0 rfl; simp at this
  rw [z1, iv_nil, ib_nil, List.take_zero] at g1
  rw [iv_ne hne, aftR_len] at g2
  rw [ib_ne hne, aftR_len] at g1
  rw [List.take_zero, ← aL_zero] at f1
  simp only [Int.natCast_zero] at f1 g1
  rw [Lrun_sym 68 _ _ fn68]
  simp (disch := (first | omega | (simp only [lnE] <;> omega) | (refine Fit.mono ‹Fit _ _ _› ?_ <;> (simp only [lnE] <;> omega)) | (refine Fit.draw ‹Fit _ _ _› ?_ ?_ <;> (simp only [lnE] <;> omega)) | (refine Fit.hid1 ‹Fit _ _ _› ?_ ?_ <;> (simp only [lnE] <;> omega)) | (refine Fit.draw1 ‹Fit _ _ _› ?_ ?_ ?_ <;> (simp only [lnE] <;> omega)) | (refine Fit.range0 ?_ ?_ <;> (simp only [lnE] <;> omega)) | fail)) only [syA, syB, argFr, D, E, T, C, undefv, eqF, aeq, sheqs, sheq, rdCells, cellsOf, fill, putAt, if_true, if_false, reduceIte, ↓reduceIte, reduceCtorEq, eq_self, Nat.reduceEqDiff, Nat.reduceAdd, Nat.reduceSub, Nat.reduceMul, Nat.reduceLT, Nat.reduceLeDiff, Nat.reducePow, Nat.reduceDiv, Nat.reduceMod, Int.reduceLT, Int.reduceLE, Int.reduceGT, Int.reduceGE, Int.reduceToNat, Int.reducePow, Int.reduceNeg, Int.reduceBEq, Int.reduceBNe, Int.reduceEq, Int.reduceAdd, Int.reduceSub, Int.reduceMul, cellv, sc, flatv, refs, refsF, refsC, hF.not0, hF.not1, hF.up0, hF.up1, ac68, c256_nil, f1, f2, f3, f4, g1, g2]
  rw [gc_keep 2 rfl (by simp [refs, refsF, refsC]) (by simp [refs, refsF, refsC])]
  simp (disch := (first | omega | (simp only [lnE] <;> omega) | (refine Fit.mono ‹Fit _ _ _› ?_ <;> (simp only [lnE] <;> omega)) | (refine Fit.draw ‹Fit _ _ _› ?_ ?_ <;> (simp only [lnE] <;> omega)) | (refine Fit.hid1 ‹Fit _ _ _› ?_ ?_ <;> (simp only [lnE] <;> omega)) | (refine Fit.draw1 ‹Fit _ _ _› ?_ ?_ ?_ <;> (simp only [lnE] <;> omega)) | (refine Fit.range0 ?_ ?_ <;> (simp only [lnE] <;> omega)) | fail)) only [syA, syB, argFr, D, E, T, C, undefv, eqF, aeq, sheqs, sheq, rdCells, cellsOf, fill, putAt, if_true, if_false, reduceIte, ↓reduceIte, reduceCtorEq, eq_self, Nat.reduceEqDiff, Nat.reduceAdd, Nat.reduceSub, Nat.reduceMul, Nat.reduceLT, Nat.reduceLeDiff, Nat.reducePow, Nat.reduceDiv, Nat.reduceMod, Int.reduceLT, Int.reduceLE, Int.reduceGT, Int.reduceGE, Int.reduceToNat, Int.reducePow, Int.reduceNeg, Int.reduceBEq, Int.reduceBNe, Int.reduceEq, Int.reduceAdd, Int.reduceSub, Int.reduceMul, cellv, sc, flatv, refs, refsF, refsC, hF.not0, hF.not1, hF.up0, hF.up1, ren, renF, renC, one_new, List.map_cons, List.map_nil]
theorem turned17_loop {hq : List Blk} (hF : Fit hq.length L H) {v : Value} {t : List Nat} (hr : Rd ⟨hq, L, H, []⟩ v t) (hm : t.length ≤ 65536) :
    ∀ n : Nat, n ≤ t.length → ∃ fr,
    Liter env lb69_0 [3, 4, 0] hq.length [(3, bv hq.length (t.drop n).reverse), (4, .int .i64 ((n : Int) - 1)), (0, v)] ⟨hq ++ bb (t.drop n).reverse, L, H, []⟩ =
      some (.exit 0, fr, ⟨hq ++ bb t.reverse, L, H, []⟩) ∧ fr.get 3 = some (bv hq.length t.reverse)
  | 0, hn => by
    rw [iter_by lb69_0.eq_1, List.drop_zero]
    simp (disch := (first | omega | (simp only [lnE] <;> omega) | (refine Fit.mono ‹Fit _ _ _› ?_ <;> (simp only [lnE] <;> omega)) | (refine Fit.draw ‹Fit _ _ _› ?_ ?_ <;> (simp only [lnE] <;> omega)) | (refine Fit.hid1 ‹Fit _ _ _› ?_ ?_ <;> (simp only [lnE] <;> omega)) | (refine Fit.draw1 ‹Fit _ _ _› ?_ ?_ ?_ <;> (simp only [lnE] <;> omega)) | (refine Fit.range0 ?_ ?_ <;> (simp only [lnE] <;> omega)) | fail)) only [syA, syB, argFr, D, E, T, C, undefv, eqF, aeq, sheqs, sheq, rdCells, cellsOf, fill, putAt, if_true, if_false, reduceIte, ↓reduceIte, reduceCtorEq, eq_self, Nat.reduceEqDiff, Nat.reduceAdd, Nat.reduceSub, Nat.reduceMul, Nat.reduceLT, Nat.reduceLeDiff, Nat.reducePow, Nat.reduceDiv, Nat.reduceMod, Int.reduceLT, Int.reduceLE, Int.reduceGT, Int.reduceGE, Int.reduceToNat, Int.reducePow, Int.reduceNeg, Int.reduceBEq, Int.reduceBNe, Int.reduceEq, Int.reduceAdd, Int.reduceSub, Int.reduceMul, cellv, sc, flatv, refs, refsF, refsC, hF.not0, hF.not1, hF.up0, hF.up1]
    exact ⟨_, rfl, rfl⟩
  | n + 1, hn => by
    obtain ⟨a, e, rfl⟩ := hr.len
    obtain ⟨fr, e1, e2⟩ := turned17_loop hF hr hm n (by omega)
    have ht : n < t.length := by omega
    have hx256 := hr.by_.get ht
    obtain ⟨b, of, g, pl, cs, rfl, _, hh, hb, hcell2⟩ := hr.at_ ht
    simp only [] at hb hh
    have hbl : b < hq.length := (List.getElem?_eq_some_iff.1 hb).1
    have hb2 : ∀ nw, (hq ++ nw)[b]? = some (.cells g pl cs) := fun nw => by rw [List.getElem?_append_left hbl]; exact hb
    have hd : (t.drop n).reverse = (t.drop (n + 1)).reverse ++ [t[n]] := by rw [List.drop_eq_getElem_cons ht, List.reverse_cons]
    rw [hd] at e1
    have hcl : (t.drop (n + 1)).reverse.length ≤ 65536 := by simp; omega
    generalize (t.drop (n + 1)).reverse = c at *
    generalize t[n] = x at *
    have c1 : ((n + 1 : Nat) : Int) - 1 = n := by omega
    have c2 : (n : Int) ≥ 0 := by omega
    have c3 : 0 ≤ (n : Int) ∧ (n : Int) < t.length := by omega
    have hobn : ∀ m, AM.one hq.length m b = b := fun m => one_old hbl
    rw [iter_by lb69_0.eq_1]
    by_cases hc : c = []
    · subst hc
      simp only [bv_nil, bb_nil, List.append_nil, List.nil_append] at e1 ⊢
      rw [bv_ne (by simp), bb_ne (by simp)] at e1
      have hb0 := hb2 []
      rw [List.append_nil] at hb0
      have a1 := append_nil1 (hp := hq ++ [.cells 0 true [.int .u8 (x : Int)]]) (L := L) (H := H) (d := []) (l := [x]) (by simp) (by simp)
      simp only [u8s_cons, u8s_nil, List.length_cons, List.length_nil, Nat.zero_add, List.append_assoc, List.cons_append, List.nil_append, List.length_append] at a1 e1
      simp (disch := (first | omega | (simp only [lnE] <;> omega) | (refine Fit.mono ‹Fit _ _ _› ?_ <;> (simp only [lnE] <;> omega)) | (refine Fit.draw ‹Fit _ _ _› ?_ ?_ <;> (simp only [lnE] <;> omega)) | (refine Fit.hid1 ‹Fit _ _ _› ?_ ?_ <;> (simp only [lnE] <;> omega)) | (refine Fit.draw1 ‹Fit _ _ _› ?_ ?_ ?_ <;> (simp only [lnE] <;> omega)) | (refine Fit.range0 ?_ ?_ <;> (simp only [lnE] <;> omega)) | fail)) only [syA, syB, argFr, D, E, T, C, undefv, eqF, aeq, sheqs, sheq, rdCells, cellsOf, fill, putAt, if_true, if_false, reduceIte, ↓reduceIte, reduceCtorEq, eq_self, Nat.reduceEqDiff, Nat.reduceAdd, Nat.reduceSub, Nat.reduceMul, Nat.reduceLT, Nat.reduceLeDiff, Nat.reducePow, Nat.reduceDiv, Nat.reduceMod, Int.reduceLT, Int.reduceLE, Int.reduceGT, Int.reduceGE, Int.reduceToNat, Int.reducePow, Int.reduceNeg, Int.reduceBEq, Int.reduceBNe, Int.reduceEq, Int.reduceAdd, Int.reduceSub, Int.reduceMul, cellv, sc, flatv, refs, refsF, refsC, hF.not0, hF.not1, hF.up0, hF.up1, c1, c2, c3, hb0, hh, hcell2, a1, small]
      have hg := gcFr_one (hp := hq) (L := L) (H := H) (nw := [.cells 0 true [.int .u8 (x : Int)], .cells 1 true [.int .u8 (x : Int)]]) (fr := [(3, .slice (some ⟨hq.length + 1, 0, some 1⟩) 1 1), (4, .int .i64 ((n : Int) - 1)), (0, .slice (some ⟨b, of, some g⟩) t.length e)]) 1 rfl
          (by simp [refs, refsF, refsC, hbl]) (by simp [refs, refsF, refsC])
      simp only [List.map_cons, List.map_nil, ren, renF, renC, one_new, hobn] at hg
      rw [hg]
      simp (disch := (first | omega | (simp only [lnE] <;> omega) | (refine Fit.mono ‹Fit _ _ _› ?_ <;> (simp only [lnE] <;> omega)) | (refine Fit.draw ‹Fit _ _ _› ?_ ?_ <;> (simp only [lnE] <;> omega)) | (refine Fit.hid1 ‹Fit _ _ _› ?_ ?_ <;> (simp only [lnE] <;> omega)) | (refine Fit.draw1 ‹Fit _ _ _› ?_ ?_ ?_ <;> (simp only [lnE] <;> omega)) | (refine Fit.range0 ?_ ?_ <;> (simp only [lnE] <;> omega)) | fail)) only [syA, syB, argFr, D, E, T, C, undefv, eqF, aeq, sheqs, sheq, rdCells, cellsOf, fill, putAt, if_true, if_false, reduceIte, ↓reduceIte, reduceCtorEq, eq_self, Nat.reduceEqDiff, Nat.reduceAdd, Nat.reduceSub, Nat.reduceMul, Nat.reduceLT, Nat.reduceLeDiff, Nat.reducePow, Nat.reduceDiv, Nat.reduceMod, Int.reduceLT, Int.reduceLE, Int.reduceGT, Int.reduceGE, Int.reduceToNat, Int.reducePow, Int.reduceNeg, Int.reduceBEq, Int.reduceBNe, Int.reduceEq, Int.reduceAdd, Int.reduceSub, Int.reduceMul, cellv, sc, flatv, refs, refsF, refsC, hF.not0, hF.not1, hF.up0, hF.up1]
      exact ⟨fr, e1, e2⟩
    · simp only [bv_ne hc, bb_ne hc] at e1 ⊢
      rw [bv_ne (by simp), bb_ne (by simp)] at e1
      have a1 := append_full (hp := hq ++ [.cells c.length true (u8s c), .cells 0 true [.int .u8 (x : Int)]]) (L := L) (b := hq.length) (H := H) (d := []) (l0 := c) (l := [x]) (by rw [get_new0]) (by have := hF.1; omega) hF.not0 (by simp; omega)
      simp only [u8s_cons, u8s_nil, List.length_cons, List.length_nil, Nat.zero_add, List.append_assoc, List.cons_append, List.nil_append, List.length_append, set_new0, List.set_cons_zero] at a1 e1
      simp (disch := (first | omega | (simp only [lnE] <;> omega) | (refine Fit.mono ‹Fit _ _ _› ?_ <;> (simp only [lnE] <;> omega)) | (refine Fit.draw ‹Fit _ _ _› ?_ ?_ <;> (simp only [lnE] <;> omega)) | (refine Fit.hid1 ‹Fit _ _ _› ?_ ?_ <;> (simp only [lnE] <;> omega)) | (refine Fit.draw1 ‹Fit _ _ _› ?_ ?_ ?_ <;> (simp only [lnE] <;> omega)) | (refine Fit.range0 ?_ ?_ <;> (simp only [lnE] <;> omega)) | fail)) only [syA, syB, argFr, D, E, T, C, undefv, eqF, aeq, sheqs, sheq, rdCells, cellsOf, fill, putAt, if_true, if_false, reduceIte, ↓reduceIte, reduceCtorEq, eq_self, Nat.reduceEqDiff, Nat.reduceAdd, Nat.reduceSub, Nat.reduceMul, Nat.reduceLT, Nat.reduceLeDiff, Nat.reducePow, Nat.reduceDiv, Nat.reduceMod, Int.reduceLT, Int.reduceLE, Int.reduceGT, Int.reduceGE, Int.reduceToNat, Int.reducePow, Int.reduceNeg, Int.reduceBEq, Int.reduceBNe, Int.reduceEq, Int.reduceAdd, Int.reduceSub, Int.reduceMul, cellv, sc, flatv, refs, refsF, refsC, hF.not0, hF.not1, hF.up0, hF.up1, c1, c2, c3, hb2, hh, hcell2, a1, small]
      have hg := gcFr_one (hp := hq) (L := L) (H := H) (nw := [.cells (c.length + 1) true (u8s (c ++ [x])), .cells 0 true [.int .u8 (x : Int)]]) (fr := [(3, .slice (some ⟨hq.length, 0, some (c.length + 1)⟩) (c.length + 1) 1), (4, .int .i64 ((n : Int) - 1)), (0, .slice (some ⟨b, of, some g⟩) t.length e)]) 0 rfl
          (by simp [refs, refsF, refsC, hbl]) (by simp [refs, refsF, refsC])
      simp only [List.map_cons, List.map_nil, ren, renF, renC, one_new0, hobn, Nat.add_zero] at hg
      rw [hg]
      simp (disch := (first | omega | (simp only [lnE] <;> omega) | (refine Fit.mono ‹Fit _ _ _› ?_ <;> (simp only [lnE] <;> omega)) | (refine Fit.draw ‹Fit _ _ _› ?_ ?_ <;> (simp only [lnE] <;> omega)) | (refine Fit.hid1 ‹Fit _ _ _› ?_ ?_ <;> (simp only [lnE] <;> omega)) | (refine Fit.draw1 ‹Fit _ _ _› ?_ ?_ ?_ <;> (simp only [lnE] <;> omega)) | (refine Fit.range0 ?_ ?_ <;> (simp only [lnE] <;> omega)) | fail)) only [syA, syB, argFr, D, E, T, C, undefv, eqF, aeq, sheqs, sheq, rdCells, cellsOf, fill, putAt, if_true, if_false, reduceIte, ↓reduceIte, reduceCtorEq, eq_self, Nat.reduceEqDiff, Nat.reduceAdd, Nat.reduceSub, Nat.reduceMul, Nat.reduceLT, Nat.reduceLeDiff, Nat.reducePow, Nat.reduceDiv, Nat.reduceMod, Int.reduceLT, Int.reduceLE, Int.reduceGT, Int.reduceGE, Int.reduceToNat, Int.reducePow, Int.reduceNeg, Int.reduceBEq, Int.reduceBNe, Int.reduceEq, Int.reduceAdd, Int.reduceSub, Int.reduceMul, cellv, sc, flatv, refs, refsF, refsC, hF.not0, hF.not1, hF.up0, hF.up1]
      exact ⟨fr, e1, e2⟩
theorem turned17_walk {hq : List Blk} (hF : Fit hq.length L H) {v : Value} {t : List Nat} (hr : Rd ⟨hq, L, H, []⟩ v t) (hm : t.length ≤ 65536) :
    Lrun env (.func 69) [v] ⟨hq, L, H, d⟩ = some (bv hq.length t.reverse, ⟨hq ++ bb t.reverse, L, H, d⟩) := by
  have hlen := hr.lenF
  obtain ⟨fr, e1, e2⟩ := turned17_loop hF hr hm t.length (Nat.le_refl _)
  rw [List.drop_length, List.reverse_nil, bv_nil, bb_nil, List.append_nil] at e1
  rw [Lrun_sym 69 _ _ fn69]
  generalize t.reverse = c at *
  by_cases hc : c = []
  · subst hc
    simp only [bv_nil, bb_nil, List.append_nil] at e1 e2 ⊢
    simp (disch := (first | omega | (simp only [lnE] <;> omega) | (refine Fit.mono ‹Fit _ _ _› ?_ <;> (simp only [lnE] <;> omega)) | (refine Fit.draw ‹Fit _ _ _› ?_ ?_ <;> (simp only [lnE] <;> omega)) | (refine Fit.hid1 ‹Fit _ _ _› ?_ ?_ <;> (simp only [lnE] <;> omega)) | (refine Fit.draw1 ‹Fit _ _ _› ?_ ?_ ?_ <;> (simp only [lnE] <;> omega)) | (refine Fit.range0 ?_ ?_ <;> (simp only [lnE] <;> omega)) | fail)) only [syA, syB, argFr, D, E, T, C, undefv, eqF, aeq, sheqs, sheq, rdCells, cellsOf, fill, putAt, if_true, if_false, reduceIte, ↓reduceIte, reduceCtorEq, eq_self, Nat.reduceEqDiff, Nat.reduceAdd, Nat.reduceSub, Nat.reduceMul, Nat.reduceLT, Nat.reduceLeDiff, Nat.reducePow, Nat.reduceDiv, Nat.reduceMod, Int.reduceLT, Int.reduceLE, Int.reduceGT, Int.reduceGE, Int.reduceToNat, Int.reducePow, Int.reduceNeg, Int.reduceBEq, Int.reduceBNe, Int.reduceEq, Int.reduceAdd, Int.reduceSub, Int.reduceMul, cellv, sc, flatv, refs, refsF, refsC, hF.not0, hF.not1, hF.up0, hF.up1, ac69, hlen, e1, e2]
  · simp only [bv_ne hc, bb_ne hc] at e1 e2 ⊢
    simp (disch := (first | omega | (simp only [lnE] <;> omega) | (refine Fit.mono ‹Fit _ _ _› ?_ <;> (simp only [lnE] <;> omega)) | (refine Fit.draw ‹Fit _ _ _› ?_ ?_ <;> (simp only [lnE] <;> omega)) | (refine Fit.hid1 ‹Fit _ _ _› ?_ ?_ <;> (simp only [lnE] <;> omega)) | (refine Fit.draw1 ‹Fit _ _ _› ?_ ?_ ?_ <;> (simp only [lnE] <;> omega)) | (refine Fit.range0 ?_ ?_ <;> (simp only [lnE] <;> omega)) | fail)) only [syA, syB, argFr, D, E, T, C, undefv, eqF, aeq, sheqs, sheq, rdCells, cellsOf, fill, putAt, if_true, if_false, reduceIte, ↓reduceIte, reduceCtorEq, eq_self, Nat.reduceEqDiff, Nat.reduceAdd, Nat.reduceSub, Nat.reduceMul, Nat.reduceLT, Nat.reduceLeDiff, Nat.reducePow, Nat.reduceDiv, Nat.reduceMod, Int.reduceLT, Int.reduceLE, Int.reduceGT, Int.reduceGE, Int.reduceToNat, Int.reducePow, Int.reduceNeg, Int.reduceBEq, Int.reduceBNe, Int.reduceEq, Int.reduceAdd, Int.reduceSub, Int.reduceMul, cellv, sc, flatv, refs, refsF, refsC, hF.not0, hF.not1, hF.up0, hF.up1, ac69, hlen, e1, e2]
    rw [gc_keep 0 rfl (by simp [refs, refsF, refsC]) (by simp [refs, refsF, refsC])]
    simp (disch := (first | omega | (simp only [lnE] <;> omega) | (refine Fit.mono ‹Fit _ _ _› ?_ <;> (simp only [lnE] <;> omega)) | (refine Fit.draw ‹Fit _ _ _› ?_ ?_ <;> (simp only [lnE] <;> omega)) | (refine Fit.hid1 ‹Fit _ _ _› ?_ ?_ <;> (simp only [lnE] <;> omega)) | (refine Fit.draw1 ‹Fit _ _ _› ?_ ?_ ?_ <;> (simp only [lnE] <;> omega)) | (refine Fit.range0 ?_ ?_ <;> (simp only [lnE] <;> omega)) | fail)) only [syA, syB, argFr, D, E, T, C, undefv, eqF, aeq, sheqs, sheq, rdCells, cellsOf, fill, putAt, if_true, if_false, reduceIte, ↓reduceIte, reduceCtorEq, eq_self, Nat.reduceEqDiff, Nat.reduceAdd, Nat.reduceSub, Nat.reduceMul, Nat.reduceLT, Nat.reduceLeDiff, Nat.reducePow, Nat.reduceDiv, Nat.reduceMod, Int.reduceLT, Int.reduceLE, Int.reduceGT, Int.reduceGE, Int.reduceToNat, Int.reducePow, Int.reduceNeg, Int.reduceBEq, Int.reduceBNe, Int.reduceEq, Int.reduceAdd, Int.reduceSub, Int.reduceMul, cellv, sc, flatv, refs, refsF, refsC, hF.not0, hF.not1, hF.up0, hF.up1, ren, renF, renC, one_new0, Nat.add_zero, List.map_cons, List.map_nil]
theorem vw_fst {f g : Nat → Nat} {x : List Nat} {ix : Nat} : ∀ (n r st st' : Nat), (vw f x ix n r st).1 = (vw g x ix n r st').1
  | 0, r, st, st' => rfl
  | n + 1, r, st, st' => by
    unfold vw
    split
    · rfl
    · exact vw_fst n _ _ _
/-- The bytes on the way. -/
def wayB (x : List Nat) (ix : Nat) : Nat → Nat → List Nat
  | 0, _ => []
  | n + 1, row => x.getD (atR ix row) 0 :: wayB x ix n (nxR x ix row)
theorem back17_loop {hq : List Blk} (hF : Fit hq.length L H) {v : Value} {x : List Nat} (hr : Rd ⟨hq, L, H, []⟩ v x) (hm : x.length ≤ 65536) {ix b6 : Nat} (hix : ix ≤ x.length) (h6 : hq[b6]? = some (.cells x.length true (i64n (aftR x x.length)))) (hh6 : H.contains b6 = false) :
    ∀ (n i : Nat), i + n = x.length → ∀ (row : Nat) (c : List Nat), row ≤ x.length → By c → c.length = i → ∃ e fr c', By c' ∧ c'.length ≤ x.length ∧
    Liter env lb30_0 [1, 0, 6, 9, 7, 8] hq.length [(1, .int .i64 ix), (0, v), (6, .slice (some ⟨b6, 0, some x.length⟩) x.length 1), (9, .int .i64 i), (7, bv hq.length c), (8, .int .i64 row)] ⟨hq ++ bb c, L, H, []⟩ =
      some (e, fr, ⟨hq ++ bb c', L, H, []⟩) ∧
      ((vw (fun _ => 0) x ix n row 0).1 ≠ none → c' = c ++ wayB x ix n row) ∧
      match (vw (fun _ => 0) x ix n row 0).1 with
      | some r' => e = .exit 0 ∧ fr.get 8 = some (.int .i64 (r' : Nat)) ∧ fr.get 1 = some (.int .i64 ix) ∧ fr.get 7 = some (bv hq.length c')
      | none => e = .ret ∧ fr.get 4 = some (.slice none 0 0) ∧ fr.get 5 = some (.int .i64 170)
  | 0, i, hn, row, c, hrow, hc, hcl => by
    obtain rfl : i = x.length := by omega
    have hlen := hr.lenF
    simp only [vw]
    rw [iter_by lb30_0.eq_1]
    simp (disch := (first | omega | (simp only [lnE] <;> omega) | (refine Fit.mono ‹Fit _ _ _› ?_ <;> (simp only [lnE] <;> omega)) | (refine Fit.draw ‹Fit _ _ _› ?_ ?_ <;> (simp only [lnE] <;> omega)) | (refine Fit.hid1 ‹Fit _ _ _› ?_ ?_ <;> (simp only [lnE] <;> omega)) | (refine Fit.draw1 ‹Fit _ _ _› ?_ ?_ ?_ <;> (simp only [lnE] <;> omega)) | (refine Fit.range0 ?_ ?_ <;> (simp only [lnE] <;> omega)) | fail)) only [syA, syB, argFr, D, E, T, C, undefv, eqF, aeq, sheqs, sheq, rdCells, cellsOf, fill, putAt, if_true, if_false, reduceIte, ↓reduceIte, reduceCtorEq, eq_self, Nat.reduceEqDiff, Nat.reduceAdd, Nat.reduceSub, Nat.reduceMul, Nat.reduceLT, Nat.reduceLeDiff, Nat.reducePow, Nat.reduceDiv, Nat.reduceMod, Int.reduceLT, Int.reduceLE, Int.reduceGT, Int.reduceGE, Int.reduceToNat, Int.reducePow, Int.reduceNeg, Int.reduceBEq, Int.reduceBNe, Int.reduceEq, Int.reduceAdd, Int.reduceSub, Int.reduceMul, cellv, sc, flatv, refs, refsF, refsC, hF.not0, hF.not1, hF.up0, hF.up1, hlen]
    exact ⟨_, _, c, hc, by omega, rfl, fun _ => (List.append_nil c).symm, rfl, rfl, rfl, rfl⟩
  | n + 1, i, hn, row, c, hrow, hcb, hcl => by
    have hlen := hr.lenF
    have c1 : (i : Int) < x.length := by omega
    by_cases hri : row = ix
    · subst hri
      simp only [vw, if_true]
      rw [iter_by lb30_0.eq_1]
      simp (disch := (first | omega | (simp only [lnE] <;> omega) | (refine Fit.mono ‹Fit _ _ _› ?_ <;> (simp only [lnE] <;> omega)) | (refine Fit.draw ‹Fit _ _ _› ?_ ?_ <;> (simp only [lnE] <;> omega)) | (refine Fit.hid1 ‹Fit _ _ _› ?_ ?_ <;> (simp only [lnE] <;> omega)) | (refine Fit.draw1 ‹Fit _ _ _› ?_ ?_ ?_ <;> (simp only [lnE] <;> omega)) | (refine Fit.range0 ?_ ?_ <;> (simp only [lnE] <;> omega)) | fail)) only [syA, syB, argFr, D, E, T, C, undefv, eqF, aeq, sheqs, sheq, rdCells, cellsOf, fill, putAt, if_true, if_false, reduceIte, ↓reduceIte, reduceCtorEq, eq_self, Nat.reduceEqDiff, Nat.reduceAdd, Nat.reduceSub, Nat.reduceMul, Nat.reduceLT, Nat.reduceLeDiff, Nat.reducePow, Nat.reduceDiv, Nat.reduceMod, Int.reduceLT, Int.reduceLE, Int.reduceGT, Int.reduceGE, Int.reduceToNat, Int.reducePow, Int.reduceNeg, Int.reduceBEq, Int.reduceBNe, Int.reduceEq, Int.reduceAdd, Int.reduceSub, Int.reduceMul, cellv, sc, flatv, refs, refsF, refsC, hF.not0, hF.not1, hF.up0, hF.up1, hlen, c1]
      exact ⟨_, _, c, hcb, by omega, rfl, fun h => (by first | exact absurd rfl h | exact h.elim), rfl, rfl, rfl⟩
    · have hx := atR_lt' hrow hix hri
      have hnx := nxR_le hrow hix hri
      obtain ⟨a, e, rfl⟩ := hr.len
      have hx256 := hr.by_.get hx
      obtain ⟨ex, fr, c', k1, k2, e1, e3, e2⟩ := back17_loop hF hr hm hix h6 hh6 n (i + 1) (by omega) (nxR x ix row) (c ++ [x[atR ix row]]) hnx (hcb.append (By.cons hx256 By.nil)) (by simp [hcl])
      have hvw : (vw (fun _ => 0) x ix (n + 1) row 0).1 = (vw (fun _ => 0) x ix n (nxR x ix row) 0).1 := by
        conv => lhs; unfold vw
        rw [if_neg hri]; exact vw_fst n _ _ _
      rw [hvw]
      have hwy : wayB x ix (n + 1) row = x[atR ix row] :: wayB x ix n (nxR x ix row) := by
        show x.getD _ 0 :: _ = _
        rw [List.getD_eq_getElem?_getD, List.getElem?_eq_getElem hx, Option.getD_some]
      rw [hwy]
      have e4 : (vw (fun _ => 0) x ix n (nxR x ix row) 0).1 ≠ none → c' = c ++ x[atR ix row] :: wayB x ix n (nxR x ix row) := fun h => by rw [e3 h]; simp
      clear e3 hwy
      obtain ⟨b, of, g, pl, cs, rfl, _, hh, hb, hcell2⟩ := hr.at_ hx
      simp only [] at hb hh
      have hbl : b < hq.length := (List.getElem?_eq_some_iff.1 hb).1
      have hb2 : ∀ nw, (hq ++ nw)[b]? = some (.cells g pl cs) := fun nw => by rw [List.getElem?_append_left hbl]; exact hb
      have h6l : b6 < hq.length := (List.getElem?_eq_some_iff.1 h6).1
      have h62 : ∀ nw, (hq ++ nw)[b6]? = some (.cells x.length true (i64n (aftR x x.length))) := fun nw => by rw [List.getElem?_append_left h6l]; exact h6
      have haft := aftR_at x hx
      have hnxe : 1 + (less (x.getD (atR ix row) 0) x + same (x.getD (atR ix row) 0) (x.take (atR ix row))) = nxR x ix row := rfl
      rw [hnxe] at haft
      have c2 : ¬ ((row : Int) = ix) := by omega
      have c3 : 0 ≤ ((atR ix row : Nat) : Int) ∧ ((atR ix row : Nat) : Int) < x.length := by omega
      have hobn : ∀ m, AM.one hq.length m b = b := fun m => one_old hbl
      have hob6 : ∀ m, AM.one hq.length m b6 = b6 := fun m => one_old h6l
      have hcl2 : c.length ≤ 65536 := by omega
      have ir1 : ((i : Nat) : Int) + 1 = ((i + 1 : Nat) : Int) := by omega
      have hrow2 : ((if (row : Int) > ix then (row : Int) - 1 else row) : Int) = (atR ix row : Nat) := by unfold atR; split <;> split <;> omega
      rw [iter_by lb30_0.eq_1]
      generalize x[atR ix row] = y at *
      have main : ∀ (nv : Nat), nv = nxR x ix row → True := fun _ _ => trivial
      by_cases h5 : (row : Int) > ix
      · rw [if_pos h5] at hrow2
        generalize nxR x ix row = nx at *
        generalize atR ix row = p at *
        by_cases hc : c = []
        · subst hc
          simp only [bv_nil, bb_nil, List.append_nil, List.nil_append] at e1 ⊢
          rw [bv_ne (by simp), bb_ne (by simp)] at e1
          have hb0 := hb2 []
          have h60 := h62 []
          rw [List.append_nil] at hb0 h60
          have a1 := append_nil1 (hp := hq ++ [.cells 0 true [.int .u8 (y : Int)]]) (L := L) (H := H) (d := []) (l := [y]) (by simp) (by simp)
          simp only [u8s_cons, u8s_nil, List.length_cons, List.length_nil, Nat.zero_add, List.append_assoc, List.cons_append, List.nil_append, List.length_append] at a1 e1
          simp (disch := (first | omega | (simp only [lnE] <;> omega) | (refine Fit.mono ‹Fit _ _ _› ?_ <;> (simp only [lnE] <;> omega)) | (refine Fit.draw ‹Fit _ _ _› ?_ ?_ <;> (simp only [lnE] <;> omega)) | (refine Fit.hid1 ‹Fit _ _ _› ?_ ?_ <;> (simp only [lnE] <;> omega)) | (refine Fit.draw1 ‹Fit _ _ _› ?_ ?_ ?_ <;> (simp only [lnE] <;> omega)) | (refine Fit.range0 ?_ ?_ <;> (simp only [lnE] <;> omega)) | fail)) only [syA, syB, argFr, D, E, T, C, undefv, eqF, aeq, sheqs, sheq, rdCells, cellsOf, fill, putAt, if_true, if_false, reduceIte, ↓reduceIte, reduceCtorEq, eq_self, Nat.reduceEqDiff, Nat.reduceAdd, Nat.reduceSub, Nat.reduceMul, Nat.reduceLT, Nat.reduceLeDiff, Nat.reducePow, Nat.reduceDiv, Nat.reduceMod, Int.reduceLT, Int.reduceLE, Int.reduceGT, Int.reduceGE, Int.reduceToNat, Int.reducePow, Int.reduceNeg, Int.reduceBEq, Int.reduceBNe, Int.reduceEq, Int.reduceAdd, Int.reduceSub, Int.reduceMul, cellv, sc, flatv, refs, refsF, refsC, hF.not0, hF.not1, hF.up0, hF.up1, c1, c2, c3, h5, hrow2, hb0, hb2, h60, h62, hh, hh6, hcell2, haft, a1, small]
          have hg := gcFr_one (hp := hq) (L := L) (H := H) (nw := [.cells 0 true [.int .u8 (y : Int)], .cells 1 true [.int .u8 (y : Int)]]) (fr := [(1, .int .i64 ix), (0, .slice (some ⟨b, of, some g⟩) x.length e), (6, .slice (some ⟨b6, 0, some x.length⟩) x.length 1), (9, .int .i64 (i + 1 : Nat)), (7, .slice (some ⟨hq.length + 1, 0, some 1⟩) 1 1), (8, .int .i64 nx)]) 1 rfl
            (by simp [refs, refsF, refsC, hbl, h6l]) (by simp [refs, refsF, refsC])
          simp only [List.map_cons, List.map_nil, ren, renF, renC, one_new, hobn, hob6] at hg
          rw [ir1, hg]
          simp (disch := (first | omega | (simp only [lnE] <;> omega) | (refine Fit.mono ‹Fit _ _ _› ?_ <;> (simp only [lnE] <;> omega)) | (refine Fit.draw ‹Fit _ _ _› ?_ ?_ <;> (simp only [lnE] <;> omega)) | (refine Fit.hid1 ‹Fit _ _ _› ?_ ?_ <;> (simp only [lnE] <;> omega)) | (refine Fit.draw1 ‹Fit _ _ _› ?_ ?_ ?_ <;> (simp only [lnE] <;> omega)) | (refine Fit.range0 ?_ ?_ <;> (simp only [lnE] <;> omega)) | fail)) only [syA, syB, argFr, D, E, T, C, undefv, eqF, aeq, sheqs, sheq, rdCells, cellsOf, fill, putAt, if_true, if_false, reduceIte, ↓reduceIte, reduceCtorEq, eq_self, Nat.reduceEqDiff, Nat.reduceAdd, Nat.reduceSub, Nat.reduceMul, Nat.reduceLT, Nat.reduceLeDiff, Nat.reducePow, Nat.reduceDiv, Nat.reduceMod, Int.reduceLT, Int.reduceLE, Int.reduceGT, Int.reduceGE, Int.reduceToNat, Int.reducePow, Int.reduceNeg, Int.reduceBEq, Int.reduceBNe, Int.reduceEq, Int.reduceAdd, Int.reduceSub, Int.reduceMul, cellv, sc, flatv, refs, refsF, refsC, hF.not0, hF.not1, hF.up0, hF.up1]
          exact ⟨ex, fr, c', k1, k2, e1, e4, e2⟩
        · simp only [bv_ne hc, bb_ne hc] at e1 ⊢
          rw [bv_ne (by simp), bb_ne (by simp)] at e1
          have a1 := append_full (hp := hq ++ [.cells c.length true (u8s c), .cells 0 true [.int .u8 (y : Int)]]) (L := L) (b := hq.length) (H := H) (d := []) (l0 := c) (l := [y]) (by rw [get_new0]) (by have := hF.1; omega) hF.not0 (by simp; omega)
          simp only [u8s_cons, u8s_nil, List.length_cons, List.length_nil, Nat.zero_add, List.append_assoc, List.cons_append, List.nil_append, List.length_append, set_new0, List.set_cons_zero] at a1 e1
          simp (disch := (first | omega | (simp only [lnE] <;> omega) | (refine Fit.mono ‹Fit _ _ _› ?_ <;> (simp only [lnE] <;> omega)) | (refine Fit.draw ‹Fit _ _ _› ?_ ?_ <;> (simp only [lnE] <;> omega)) | (refine Fit.hid1 ‹Fit _ _ _› ?_ ?_ <;> (simp only [lnE] <;> omega)) | (refine Fit.draw1 ‹Fit _ _ _› ?_ ?_ ?_ <;> (simp only [lnE] <;> omega)) | (refine Fit.range0 ?_ ?_ <;> (simp only [lnE] <;> omega)) | fail)) only [syA, syB, argFr, D, E, T, C, undefv, eqF, aeq, sheqs, sheq, rdCells, cellsOf, fill, putAt, if_true, if_false, reduceIte, ↓reduceIte, reduceCtorEq, eq_self, Nat.reduceEqDiff, Nat.reduceAdd, Nat.reduceSub, Nat.reduceMul, Nat.reduceLT, Nat.reduceLeDiff, Nat.reducePow, Nat.reduceDiv, Nat.reduceMod, Int.reduceLT, Int.reduceLE, Int.reduceGT, Int.reduceGE, Int.reduceToNat, Int.reducePow, Int.reduceNeg, Int.reduceBEq, Int.reduceBNe, Int.reduceEq, Int.reduceAdd, Int.reduceSub, Int.reduceMul, cellv, sc, flatv, refs, refsF, refsC, hF.not0, hF.not1, hF.up0, hF.up1, c1, c2, c3, h5, hrow2, hb2, h62, hh, hh6, hcell2, haft, a1, small]
          have hg := gcFr_one (hp := hq) (L := L) (H := H) (nw := [.cells (c.length + 1) true (u8s (c ++ [y])), .cells 0 true [.int .u8 (y : Int)]]) (fr := [(1, .int .i64 ix), (0, .slice (some ⟨b, of, some g⟩) x.length e), (6, .slice (some ⟨b6, 0, some x.length⟩) x.length 1), (9, .int .i64 (i + 1 : Nat)), (7, .slice (some ⟨hq.length, 0, some (c.length + 1)⟩) (c.length + 1) 1), (8, .int .i64 nx)]) 0 rfl
            (by simp [refs, refsF, refsC, hbl, h6l]) (by simp [refs, refsF, refsC])
          simp only [List.map_cons, List.map_nil, ren, renF, renC, one_new0, hobn, hob6, Nat.add_zero] at hg
          rw [ir1, hg]
          simp (disch := (first | omega | (simp only [lnE] <;> omega) | (refine Fit.mono ‹Fit _ _ _› ?_ <;> (simp only [lnE] <;> omega)) | (refine Fit.draw ‹Fit _ _ _› ?_ ?_ <;> (simp only [lnE] <;> omega)) | (refine Fit.hid1 ‹Fit _ _ _› ?_ ?_ <;> (simp only [lnE] <;> omega)) | (refine Fit.draw1 ‹Fit _ _ _› ?_ ?_ ?_ <;> (simp only [lnE] <;> omega)) | (refine Fit.range0 ?_ ?_ <;> (simp only [lnE] <;> omega)) | fail)) only [syA, syB, argFr, D, E, T, C, undefv, eqF, aeq, sheqs, sheq, rdCells, cellsOf, fill, putAt, if_true, if_false, reduceIte, ↓reduceIte, reduceCtorEq, eq_self, Nat.reduceEqDiff, Nat.reduceAdd, Nat.reduceSub, Nat.reduceMul, Nat.reduceLT, Nat.reduceLeDiff, Nat.reducePow, Nat.reduceDiv, Nat.reduceMod, Int.reduceLT, Int.reduceLE, Int.reduceGT, Int.reduceGE, Int.reduceToNat, Int.reducePow, Int.reduceNeg, Int.reduceBEq, Int.reduceBNe, Int.reduceEq, Int.reduceAdd, Int.reduceSub, Int.reduceMul, cellv, sc, flatv, refs, refsF, refsC, hF.not0, hF.not1, hF.up0, hF.up1]
          exact ⟨ex, fr, c', k1, k2, e1, e4, e2⟩
      · rw [if_neg h5] at hrow2
        generalize nxR x ix row = nx at *
        generalize atR ix row = p at *
        have hpr : p = row := by omega
        subst hpr
        by_cases hc : c = []
        · subst hc
          simp only [bv_nil, bb_nil, List.append_nil, List.nil_append] at e1 ⊢
          rw [bv_ne (by simp), bb_ne (by simp)] at e1
          have hb0 := hb2 []
          have h60 := h62 []
          rw [List.append_nil] at hb0 h60
          have a1 := append_nil1 (hp := hq ++ [.cells 0 true [.int .u8 (y : Int)]]) (L := L) (H := H) (d := []) (l := [y]) (by simp) (by simp)
          simp only [u8s_cons, u8s_nil, List.length_cons, List.length_nil, Nat.zero_add, List.append_assoc, List.cons_append, List.nil_append, List.length_append] at a1 e1
          simp (disch := (first | omega | (simp only [lnE] <;> omega) | (refine Fit.mono ‹Fit _ _ _› ?_ <;> (simp only [lnE] <;> omega)) | (refine Fit.draw ‹Fit _ _ _› ?_ ?_ <;> (simp only [lnE] <;> omega)) | (refine Fit.hid1 ‹Fit _ _ _› ?_ ?_ <;> (simp only [lnE] <;> omega)) | (refine Fit.draw1 ‹Fit _ _ _› ?_ ?_ ?_ <;> (simp only [lnE] <;> omega)) | (refine Fit.range0 ?_ ?_ <;> (simp only [lnE] <;> omega)) | fail)) only [syA, syB, argFr, D, E, T, C, undefv, eqF, aeq, sheqs, sheq, rdCells, cellsOf, fill, putAt, if_true, if_false, reduceIte, ↓reduceIte, reduceCtorEq, eq_self, Nat.reduceEqDiff, Nat.reduceAdd, Nat.reduceSub, Nat.reduceMul, Nat.reduceLT, Nat.reduceLeDiff, Nat.reducePow, Nat.reduceDiv, Nat.reduceMod, Int.reduceLT, Int.reduceLE, Int.reduceGT, Int.reduceGE, Int.reduceToNat, Int.reducePow, Int.reduceNeg, Int.reduceBEq, Int.reduceBNe, Int.reduceEq, Int.reduceAdd, Int.reduceSub, Int.reduceMul, cellv, sc, flatv, refs, refsF, refsC, hF.not0, hF.not1, hF.up0, hF.up1, c1, c2, c3, h5, hb0, hb2, h60, h62, hh, hh6, hcell2, haft, a1, small]
          have hg := gcFr_one (hp := hq) (L := L) (H := H) (nw := [.cells 0 true [.int .u8 (y : Int)], .cells 1 true [.int .u8 (y : Int)]]) (fr := [(1, .int .i64 ix), (0, .slice (some ⟨b, of, some g⟩) x.length e), (6, .slice (some ⟨b6, 0, some x.length⟩) x.length 1), (9, .int .i64 (i + 1 : Nat)), (7, .slice (some ⟨hq.length + 1, 0, some 1⟩) 1 1), (8, .int .i64 nx)]) 1 rfl
            (by simp [refs, refsF, refsC, hbl, h6l]) (by simp [refs, refsF, refsC])
          simp only [List.map_cons, List.map_nil, ren, renF, renC, one_new, hobn, hob6] at hg
          rw [ir1, hg]
          simp (disch := (first | omega | (simp only [lnE] <;> omega) | (refine Fit.mono ‹Fit _ _ _› ?_ <;> (simp only [lnE] <;> omega)) | (refine Fit.draw ‹Fit _ _ _› ?_ ?_ <;> (simp only [lnE] <;> omega)) | (refine Fit.hid1 ‹Fit _ _ _› ?_ ?_ <;> (simp only [lnE] <;> omega)) | (refine Fit.draw1 ‹Fit _ _ _› ?_ ?_ ?_ <;> (simp only [lnE] <;> omega)) | (refine Fit.range0 ?_ ?_ <;> (simp only [lnE] <;> omega)) | fail)) only [syA, syB, argFr, D, E, T, C, undefv, eqF, aeq, sheqs, sheq, rdCells, cellsOf, fill, putAt, if_true, if_false, reduceIte, ↓reduceIte, reduceCtorEq, eq_self, Nat.reduceEqDiff, Nat.reduceAdd, Nat.reduceSub, Nat.reduceMul, Nat.reduceLT, Nat.reduceLeDiff, Nat.reducePow, Nat.reduceDiv, Nat.reduceMod, Int.reduceLT, Int.reduceLE, Int.reduceGT, Int.reduceGE, Int.reduceToNat, Int.reducePow, Int.reduceNeg, Int.reduceBEq, Int.reduceBNe, Int.reduceEq, Int.reduceAdd, Int.reduceSub, Int.reduceMul, cellv, sc, flatv, refs, refsF, refsC, hF.not0, hF.not1, hF.up0, hF.up1]
          exact ⟨ex, fr, c', k1, k2, e1, e4, e2⟩
        · simp only [bv_ne hc, bb_ne hc] at e1 ⊢
          rw [bv_ne (by simp), bb_ne (by simp)] at e1
          have a1 := append_full (hp := hq ++ [.cells c.length true (u8s c), .cells 0 true [.int .u8 (y : Int)]]) (L := L) (b := hq.length) (H := H) (d := []) (l0 := c) (l := [y]) (by rw [get_new0]) (by have := hF.1; omega) hF.not0 (by simp; omega)
          simp only [u8s_cons, u8s_nil, List.length_cons, List.length_nil, Nat.zero_add, List.append_assoc, List.cons_append, List.nil_append, List.length_append, set_new0, List.set_cons_zero] at a1 e1
          simp (disch := (first | omega | (simp only [lnE] <;> omega) | (refine Fit.mono ‹Fit _ _ _› ?_ <;> (simp only [lnE] <;> omega)) | (refine Fit.draw ‹Fit _ _ _› ?_ ?_ <;> (simp only [lnE] <;> omega)) | (refine Fit.hid1 ‹Fit _ _ _› ?_ ?_ <;> (simp only [lnE] <;> omega)) | (refine Fit.draw1 ‹Fit _ _ _› ?_ ?_ ?_ <;> (simp only [lnE] <;> omega)) | (refine Fit.range0 ?_ ?_ <;> (simp only [lnE] <;> omega)) | fail)) only [syA, syB, argFr, D, E, T, C, undefv, eqF, aeq, sheqs, sheq, rdCells, cellsOf, fill, putAt, if_true, if_false, reduceIte, ↓reduceIte, reduceCtorEq, eq_self, Nat.reduceEqDiff, Nat.reduceAdd, Nat.reduceSub, Nat.reduceMul, Nat.reduceLT, Nat.reduceLeDiff, Nat.reducePow, Nat.reduceDiv, Nat.reduceMod, Int.reduceLT, Int.reduceLE, Int.reduceGT, Int.reduceGE, Int.reduceToNat, Int.reducePow, Int.reduceNeg, Int.reduceBEq, Int.reduceBNe, Int.reduceEq, Int.reduceAdd, Int.reduceSub, Int.reduceMul, cellv, sc, flatv, refs, refsF, refsC, hF.not0, hF.not1, hF.up0, hF.up1, c1, c2, c3, h5, hb2, h62, hh, hh6, hcell2, haft, a1, small]
          have hg := gcFr_one (hp := hq) (L := L) (H := H) (nw := [.cells (c.length + 1) true (u8s (c ++ [y])), .cells 0 true [.int .u8 (y : Int)]]) (fr := [(1, .int .i64 ix), (0, .slice (some ⟨b, of, some g⟩) x.length e), (6, .slice (some ⟨b6, 0, some x.length⟩) x.length 1), (9, .int .i64 (i + 1 : Nat)), (7, .slice (some ⟨hq.length, 0, some (c.length + 1)⟩) (c.length + 1) 1), (8, .int .i64 nx)]) 0 rfl
            (by simp [refs, refsF, refsC, hbl, h6l]) (by simp [refs, refsF, refsC])
          simp only [List.map_cons, List.map_nil, ren, renF, renC, one_new0, hobn, hob6, Nat.add_zero] at hg
          rw [ir1, hg]
          simp (disch := (first | omega | (simp only [lnE] <;> omega) | (refine Fit.mono ‹Fit _ _ _› ?_ <;> (simp only [lnE] <;> omega)) | (refine Fit.draw ‹Fit _ _ _› ?_ ?_ <;> (simp only [lnE] <;> omega)) | (refine Fit.hid1 ‹Fit _ _ _› ?_ ?_ <;> (simp only [lnE] <;> omega)) | (refine Fit.draw1 ‹Fit _ _ _› ?_ ?_ ?_ <;> (simp only [lnE] <;> omega)) | (refine Fit.range0 ?_ ?_ <;> (simp only [lnE] <;> omega)) | fail)) only [syA, syB, argFr, D, E, T, C, undefv, eqF, aeq, sheqs, sheq, rdCells, cellsOf, fill, putAt, if_true, if_false, reduceIte, ↓reduceIte, reduceCtorEq, eq_self, Nat.reduceEqDiff, Nat.reduceAdd, Nat.reduceSub, Nat.reduceMul, Nat.reduceLT, Nat.reduceLeDiff, Nat.reducePow, Nat.reduceDiv, Nat.reduceMod, Int.reduceLT, Int.reduceLE, Int.reduceGT, Int.reduceGE, Int.reduceToNat, Int.reducePow, Int.reduceNeg, Int.reduceBEq, Int.reduceBNe, Int.reduceEq, Int.reduceAdd, Int.reduceSub, Int.reduceMul, cellv, sc, flatv, refs, refsF, refsC, hF.not0, hF.not1, hF.up0, hF.up1]
          exact ⟨ex, fr, c', k1, k2, e1, e4, e2⟩
end
end ArA
end Go.Proofs.Ytlphmnhkkhcjfaa
