/-
  SORTED SUFFIXES: walk of the reference's Turn. Conditions: none.
-/
import Derived.Test.YtlphmnhkkhcjfaaSufWalk2
set_option linter.all false
namespace Go.Proofs.Ytlphmnhkkhcjfaa
namespace AM
open Go Go.RowKit
/-- Bytes: none, or one block that is theirs. -/
def bv (b : Nat) (l : List Nat) : Value := if l = [] then .slice none 0 0 else .slice (some ⟨b, 0, some l.length⟩) l.length 1
def bb (l : List Nat) : List Blk := if l = [] then [] else [.cells l.length true (u8s l)]
theorem bv_nil (b : Nat) : bv b [] = .slice none 0 0 := rfl
theorem bv_ne {b : Nat} {l : List Nat} (h : l ≠ []) : bv b l = .slice (some ⟨b, 0, some l.length⟩) l.length 1 := if_neg h
theorem bb_nil : bb [] = [] := rfl
theorem bb_ne {l : List Nat} (h : l ≠ []) : bb l = [.cells l.length true (u8s l)] := if_neg h
theorem colO_succ {t o : List Nat} {r : Nat} (hr : r < o.length) : colO t (o.take (r + 1)) = colO t (o.take r) ++ if o[r] = 0 then [] else [t.getD (o[r] - 1) 0] := by
  rw [List.take_add_one, List.getElem?_eq_getElem hr]
  unfold colO
  rw [List.filter_append, List.map_append]
  congr 1
  by_cases h : o[r] = 0
  · simp [h]
  · simp [h]
theorem colO_by {t o : List Nat} (h : By t) : By (colO t o) := by
  intro x hx
  unfold colO at hx
  obtain ⟨j, -, rfl⟩ := List.mem_map.1 hx
  rw [List.getD_eq_getElem?_getD]
  cases hj : t[j - 1]? with
  | none => simp
  | some y => exact h y (List.mem_of_getElem? hj)
end AM
namespace ArA
open Go Go.RowKit AM ArEnv
section
variable {L : Nat} {H d : List Nat}
theorem turn17_loop {hq : List Blk} (hF : Fit hq.length L H) {v : Value} {t o : List Nat} {q : Nat} (ho : Ord t o) (hr : Rd ⟨hq, L, H, []⟩ v t) (hm : t.length ≤ 1000) (hq1 : hq[q]? = some (.cells o.length true (i64n o))) (hq2 : H.contains q = false) :
    ∀ n r : Nat, r + n = o.length → ∃ fr,
    Liter env lb36_0 [5, 7, 6, 0, 4] hq.length [(5, .int .i64 ((if o.idxOf 0 < r then o.idxOf 0 else 0 : Nat) : Int)), (7, .int .i64 r), (6, .slice (some ⟨q, 0, some o.length⟩) o.length 1), (0, v), (4, bv hq.length (colO t (o.take r)))] ⟨hq ++ bb (colO t (o.take r)), L, H, []⟩ =
      some (.exit 0, fr, ⟨hq ++ bb (colO t o), L, H, []⟩) ∧ fr.get 4 = some (bv hq.length (colO t o)) ∧ fr.get 5 = some (.int .i64 (o.idxOf 0 : Nat))
  | 0, r, hn => by
    obtain rfl : r = o.length := by omega
    have hx : o.idxOf 0 < o.length := List.idxOf_lt_length_iff.2 (ho.mem.2 (Nat.zero_le _))
    rw [iter_by lb36_0.eq_1, List.take_length, if_pos hx]
    simp (disch := (first | omega | (simp only [lnE] <;> omega) | (refine Fit.mono ‹Fit _ _ _› ?_ <;> (simp only [lnE] <;> omega)) | (refine Fit.draw ‹Fit _ _ _› ?_ ?_ <;> (simp only [lnE] <;> omega)) | (refine Fit.hid1 ‹Fit _ _ _› ?_ ?_ <;> (simp only [lnE] <;> omega)) | (refine Fit.draw1 ‹Fit _ _ _› ?_ ?_ ?_ <;> (simp only [lnE] <;> omega)) | (refine Fit.range0 ?_ ?_ <;> (simp only [lnE] <;> omega)) | fail)) only [syA, syB, argFr, D, E, T, C, undefv, eqF, aeq, sheqs, sheq, rdCells, cellsOf, fill, putAt, if_true, if_false, reduceIte, ↓reduceIte, reduceCtorEq, eq_self, Nat.reduceEqDiff, Nat.reduceAdd, Nat.reduceSub, Nat.reduceMul, Nat.reduceLT, Nat.reduceLeDiff, Nat.reducePow, Nat.reduceDiv, Nat.reduceMod, Int.reduceLT, Int.reduceLE, Int.reduceGT, Int.reduceGE, Int.reduceToNat, Int.reducePow, Int.reduceNeg, Int.reduceBEq, Int.reduceBNe, Int.reduceEq, Int.reduceAdd, Int.reduceSub, Int.reduceMul, cellv, sc, flatv, refs, refsF, refsC, hF.not0, hF.not1, hF.up0, hF.up1]
    exact ⟨_, rfl, rfl, rfl⟩
  | n + 1, r, hn => by
    have hrl : r < o.length := by omega
    obtain ⟨fr, e1, e2⟩ := turn17_loop hF ho hr hm hq1 hq2 n (r + 1) (by omega)
    have hol := ho.len
    have hx : o.idxOf 0 < o.length := List.idxOf_lt_length_iff.2 (ho.mem.2 (Nat.zero_le _))
    have hz : o[o.idxOf 0] = 0 := List.getElem_idxOf hx
    have hql : q < hq.length := (List.getElem?_eq_some_iff.1 hq1).1
    have hcell := i64n_get (l := o) hrl
    have c1 : (r : Int) < o.length := by omega
    have c2 : 0 ≤ (r : Int) ∧ (r : Int) < o.length := by omega
    have hrf := fun m (r : Nat) (h : r ∈ refs v) => hr.refs_lt (n := hq.length + m) (Nat.le_add_right _ _) r h
    have hrn := fun m => hr.ren_one (n := hq.length) (m := m) (Nat.le_refl _)
    have hon : ∀ m, AM.one hq.length m q = q := fun m => one_old hql
    have hcl : (colO t (o.take r)).length ≤ 2000 := by
      unfold colO
      rw [List.length_map]
      exact Nat.le_trans (List.length_filter_le _ _) (by simp; omega)
    have hcs := colO_succ (t := t) hrl
    have hcb : By (colO t (o.take r)) := colO_by hr.by_
    have hg1 : (hq ++ bb (colO t (o.take r)))[q]? = some (.cells o.length true (i64n o)) := by rw [List.getElem?_append_left hql]; exact hq1
    rw [iter_by lb36_0.eq_1]
    rw [hcs] at e1
    have ir1 : ((r : Nat) : Int) + 1 = ((r + 1 : Nat) : Int) := by omega
    by_cases h0 : o[r] = 0
    · have hrx : r = o.idxOf 0 := by
        have hpw := List.pairwise_iff_getElem.1 ho.nodup
        rcases Nat.lt_trichotomy r (o.idxOf 0) with h | h | h
        · exact absurd (by rw [h0, hz]) (hpw r _ hrl hx h)
        · exact h
        · exact absurd (by rw [h0, hz]) (hpw _ r hx hrl h)
      rw [if_pos (by omega), if_pos h0, List.append_nil] at e1
      rw [if_neg (by omega)]
      rw [h0] at hcell
      rw [← hrx] at e1 e2 ⊢
      generalize colO t (o.take r) = c at *
      by_cases hc : c = []
      · subst hc
        simp only [bv_nil, bb_nil, List.append_nil] at e1 hg1 ⊢
        simp (disch := (first | omega | (simp only [lnE] <;> omega) | (refine Fit.mono ‹Fit _ _ _› ?_ <;> (simp only [lnE] <;> omega)) | (refine Fit.draw ‹Fit _ _ _› ?_ ?_ <;> (simp only [lnE] <;> omega)) | (refine Fit.hid1 ‹Fit _ _ _› ?_ ?_ <;> (simp only [lnE] <;> omega)) | (refine Fit.draw1 ‹Fit _ _ _› ?_ ?_ ?_ <;> (simp only [lnE] <;> omega)) | (refine Fit.range0 ?_ ?_ <;> (simp only [lnE] <;> omega)) | fail)) only [syA, syB, argFr, D, E, T, C, undefv, eqF, aeq, sheqs, sheq, rdCells, cellsOf, fill, putAt, if_true, if_false, reduceIte, ↓reduceIte, reduceCtorEq, eq_self, Nat.reduceEqDiff, Nat.reduceAdd, Nat.reduceSub, Nat.reduceMul, Nat.reduceLT, Nat.reduceLeDiff, Nat.reducePow, Nat.reduceDiv, Nat.reduceMod, Int.reduceLT, Int.reduceLE, Int.reduceGT, Int.reduceGE, Int.reduceToNat, Int.reducePow, Int.reduceNeg, Int.reduceBEq, Int.reduceBNe, Int.reduceEq, Int.reduceAdd, Int.reduceSub, Int.reduceMul, cellv, sc, flatv, refs, refsF, refsC, hF.not0, hF.not1, hF.up0, hF.up1, c1, c2, hg1, hq2, hcell, ir1, e1]
        exact ⟨fr, rfl, e2⟩
      · simp only [bv_ne hc, bb_ne hc] at e1 hg1 ⊢
        simp (disch := (first | omega | (simp only [lnE] <;> omega) | (refine Fit.mono ‹Fit _ _ _› ?_ <;> (simp only [lnE] <;> omega)) | (refine Fit.draw ‹Fit _ _ _› ?_ ?_ <;> (simp only [lnE] <;> omega)) | (refine Fit.hid1 ‹Fit _ _ _› ?_ ?_ <;> (simp only [lnE] <;> omega)) | (refine Fit.draw1 ‹Fit _ _ _› ?_ ?_ ?_ <;> (simp only [lnE] <;> omega)) | (refine Fit.range0 ?_ ?_ <;> (simp only [lnE] <;> omega)) | fail)) only [syA, syB, argFr, D, E, T, C, undefv, eqF, aeq, sheqs, sheq, rdCells, cellsOf, fill, putAt, if_true, if_false, reduceIte, ↓reduceIte, reduceCtorEq, eq_self, Nat.reduceEqDiff, Nat.reduceAdd, Nat.reduceSub, Nat.reduceMul, Nat.reduceLT, Nat.reduceLeDiff, Nat.reducePow, Nat.reduceDiv, Nat.reduceMod, Int.reduceLT, Int.reduceLE, Int.reduceGT, Int.reduceGE, Int.reduceToNat, Int.reducePow, Int.reduceNeg, Int.reduceBEq, Int.reduceBNe, Int.reduceEq, Int.reduceAdd, Int.reduceSub, Int.reduceMul, cellv, sc, flatv, refs, refsF, refsC, hF.not0, hF.not1, hF.up0, hF.up1, c1, c2, hg1, hq2, hcell, ir1]
        have hg := gcFr_one (hp := hq) (L := L) (H := H) (nw := [.cells c.length true (u8s c)]) (fr := [(5, .int .i64 r), (7, .int .i64 (r + 1 : Nat)), (6, .slice (some ⟨q, 0, some o.length⟩) o.length 1), (0, v), (4, .slice (some ⟨hq.length, 0, some c.length⟩) c.length 1)]) 0 rfl
          (by simp [refs, refsF, refsC, hql]; exact fun r h => .inl (hrf 0 r h)) (by simp [refs, refsF, refsC])
        simp only [List.map_cons, List.map_nil, hrn] at hg
        simp only [ren, renF, renC, one_new0, hon, Nat.add_zero] at hg
        rw [hg]
        simp (disch := (first | omega | (simp only [lnE] <;> omega) | (refine Fit.mono ‹Fit _ _ _› ?_ <;> (simp only [lnE] <;> omega)) | (refine Fit.draw ‹Fit _ _ _› ?_ ?_ <;> (simp only [lnE] <;> omega)) | (refine Fit.hid1 ‹Fit _ _ _› ?_ ?_ <;> (simp only [lnE] <;> omega)) | (refine Fit.draw1 ‹Fit _ _ _› ?_ ?_ ?_ <;> (simp only [lnE] <;> omega)) | (refine Fit.range0 ?_ ?_ <;> (simp only [lnE] <;> omega)) | fail)) only [syA, syB, argFr, D, E, T, C, undefv, eqF, aeq, sheqs, sheq, rdCells, cellsOf, fill, putAt, if_true, if_false, reduceIte, ↓reduceIte, reduceCtorEq, eq_self, Nat.reduceEqDiff, Nat.reduceAdd, Nat.reduceSub, Nat.reduceMul, Nat.reduceLT, Nat.reduceLeDiff, Nat.reducePow, Nat.reduceDiv, Nat.reduceMod, Int.reduceLT, Int.reduceLE, Int.reduceGT, Int.reduceGE, Int.reduceToNat, Int.reducePow, Int.reduceNeg, Int.reduceBEq, Int.reduceBNe, Int.reduceEq, Int.reduceAdd, Int.reduceSub, Int.reduceMul, cellv, sc, flatv, refs, refsF, refsC, hF.not0, hF.not1, hF.up0, hF.up1]
        exact ⟨fr, e1, e2⟩
    · have hrx : r ≠ o.idxOf 0 := by
        intro h
        have : o[r] = 0 := by simp only [h, hz]
        exact h0 this
      have hif : (if o.idxOf 0 < r + 1 then o.idxOf 0 else 0) = (if o.idxOf 0 < r then o.idxOf 0 else 0) := by
        split <;> split <;> omega
      rw [hif, if_neg h0] at e1
      have hor : o[r] ≤ t.length := ho.mem.1 (List.getElem_mem _)
      have ht : o[r] - 1 < t.length := by omega
      have hgd : t.getD (o[r] - 1) 0 = t[o[r] - 1] := by rw [List.getD_eq_getElem?_getD, List.getElem?_eq_getElem ht, Option.getD_some]
      rw [hgd] at e1
      obtain ⟨a, e, rfl⟩ := hr.len
      have hx256 : t[o[r] - 1] < 256 := hr.by_.get ht
      obtain ⟨b, of, g, pl, cs, rfl, _, hh, hb, hcell2⟩ := hr.at_ ht
      simp only [] at hb hh
      have hbl : b < hq.length := (List.getElem?_eq_some_iff.1 hb).1
      have hb2 : (hq ++ bb (colO t (o.take r)))[b]? = some (.cells g pl cs) := by rw [List.getElem?_append_left hbl]; exact hb
      generalize t[o[r] - 1] = x at *
      have c3 : ((o[r] : Nat) : Int) - 1 = (o[r] - 1 : Nat) := by omega
      have c4 : 0 ≤ ((o[r] - 1 : Nat) : Int) ∧ ((o[r] - 1 : Nat) : Int) < t.length := by omega
      have c5 : ¬ ((o[r] : Nat) : Int) = 0 := by omega
      have hobn : ∀ m, AM.one hq.length m b = b := fun m => one_old hbl
      generalize hw : o[r] = w at *
      generalize colO t (o.take r) = c at *
      generalize (if o.idxOf 0 < r then o.idxOf 0 else 0) = y at *
      have hlen : ∀ n, lenF (.slice (some ⟨q, 0, some o.length⟩) n 1) = some (.int .i64 n) := fun _ => rfl
      by_cases hc : c = []
      · subst hc
        simp only [bv_nil, bb_nil, List.append_nil, List.nil_append] at e1 hg1 hb2 ⊢
        rw [bv_ne (by simp), bb_ne (by simp)] at e1
        simp only [List.length_cons, List.length_nil, Nat.zero_add] at e1
        have a1 := append_nil1 (hp := hq ++ [.cells 0 true [.int .u8 (x : Int)]]) (L := L) (H := H) (d := []) (l := [x]) (by simp) (by simp)
        simp only [u8s_cons, u8s_nil, List.length_cons, List.length_nil, Nat.zero_add, List.append_assoc, List.cons_append, List.nil_append, List.length_append] at a1 e1
        simp (disch := (first | omega | (simp only [lnE] <;> omega) | (refine Fit.mono ‹Fit _ _ _› ?_ <;> (simp only [lnE] <;> omega)) | (refine Fit.draw ‹Fit _ _ _› ?_ ?_ <;> (simp only [lnE] <;> omega)) | (refine Fit.hid1 ‹Fit _ _ _› ?_ ?_ <;> (simp only [lnE] <;> omega)) | (refine Fit.draw1 ‹Fit _ _ _› ?_ ?_ ?_ <;> (simp only [lnE] <;> omega)) | (refine Fit.range0 ?_ ?_ <;> (simp only [lnE] <;> omega)) | fail)) only [syA, syB, argFr, D, E, T, C, undefv, eqF, aeq, sheqs, sheq, rdCells, cellsOf, fill, putAt, if_true, if_false, reduceIte, ↓reduceIte, reduceCtorEq, eq_self, Nat.reduceEqDiff, Nat.reduceAdd, Nat.reduceSub, Nat.reduceMul, Nat.reduceLT, Nat.reduceLeDiff, Nat.reducePow, Nat.reduceDiv, Nat.reduceMod, Int.reduceLT, Int.reduceLE, Int.reduceGT, Int.reduceGE, Int.reduceToNat, Int.reducePow, Int.reduceNeg, Int.reduceBEq, Int.reduceBNe, Int.reduceEq, Int.reduceAdd, Int.reduceSub, Int.reduceMul, cellv, sc, flatv, refs, refsF, refsC, hF.not0, hF.not1, hF.up0, hF.up1, c1, c2, c3, c4, c5, hg1, hq2, hcell, hb2, hh, hcell2, a1, small]
        have hg := gcFr_one (hp := hq) (L := L) (H := H) (nw := [.cells 0 true [.int .u8 (x : Int)], .cells 1 true [.int .u8 (x : Int)]]) (fr := [(5, .int .i64 y), (7, .int .i64 (r + 1 : Nat)), (6, .slice (some ⟨q, 0, some o.length⟩) o.length 1), (0, .slice (some ⟨b, of, some g⟩) t.length e), (4, .slice (some ⟨hq.length + 1, 0, some 1⟩) 1 1)]) 1 rfl
          (by simp [refs, refsF, refsC, hql, hbl]) (by simp [refs, refsF, refsC])
        simp only [List.map_cons, List.map_nil, ren, renF, renC, one_new, hon, hobn] at hg
        rw [ir1, hg]
        simp (disch := (first | omega | (simp only [lnE] <;> omega) | (refine Fit.mono ‹Fit _ _ _› ?_ <;> (simp only [lnE] <;> omega)) | (refine Fit.draw ‹Fit _ _ _› ?_ ?_ <;> (simp only [lnE] <;> omega)) | (refine Fit.hid1 ‹Fit _ _ _› ?_ ?_ <;> (simp only [lnE] <;> omega)) | (refine Fit.draw1 ‹Fit _ _ _› ?_ ?_ ?_ <;> (simp only [lnE] <;> omega)) | (refine Fit.range0 ?_ ?_ <;> (simp only [lnE] <;> omega)) | fail)) only [syA, syB, argFr, D, E, T, C, undefv, eqF, aeq, sheqs, sheq, rdCells, cellsOf, fill, putAt, if_true, if_false, reduceIte, ↓reduceIte, reduceCtorEq, eq_self, Nat.reduceEqDiff, Nat.reduceAdd, Nat.reduceSub, Nat.reduceMul, Nat.reduceLT, Nat.reduceLeDiff, Nat.reducePow, Nat.reduceDiv, Nat.reduceMod, Int.reduceLT, Int.reduceLE, Int.reduceGT, Int.reduceGE, Int.reduceToNat, Int.reducePow, Int.reduceNeg, Int.reduceBEq, Int.reduceBNe, Int.reduceEq, Int.reduceAdd, Int.reduceSub, Int.reduceMul, cellv, sc, flatv, refs, refsF, refsC, hF.not0, hF.not1, hF.up0, hF.up1]
        exact ⟨fr, e1, e2⟩
      · simp only [bv_ne hc, bb_ne hc] at e1 hg1 hb2 ⊢
        rw [bv_ne (by simp), bb_ne (by simp)] at e1
        have a1 := append_full (hp := hq ++ [.cells c.length true (u8s c), .cells 0 true [.int .u8 (x : Int)]]) (L := L) (b := hq.length) (H := H) (d := []) (l0 := c) (l := [x]) (by rw [get_new0]) (by have := hF.1; omega) hF.not0 (by simp; omega)
        have hg3 : (hq ++ [.cells c.length true (u8s c)])[b]? = some (.cells g pl cs) := hb2
        simp only [u8s_cons, u8s_nil, List.length_cons, List.length_nil, Nat.zero_add, List.append_assoc, List.cons_append, List.nil_append, List.length_append, set_new0, List.set_cons_zero] at a1 e1
        simp (disch := (first | omega | (simp only [lnE] <;> omega) | (refine Fit.mono ‹Fit _ _ _› ?_ <;> (simp only [lnE] <;> omega)) | (refine Fit.draw ‹Fit _ _ _› ?_ ?_ <;> (simp only [lnE] <;> omega)) | (refine Fit.hid1 ‹Fit _ _ _› ?_ ?_ <;> (simp only [lnE] <;> omega)) | (refine Fit.draw1 ‹Fit _ _ _› ?_ ?_ ?_ <;> (simp only [lnE] <;> omega)) | (refine Fit.range0 ?_ ?_ <;> (simp only [lnE] <;> omega)) | fail)) only [syA, syB, argFr, D, E, T, C, undefv, eqF, aeq, sheqs, sheq, rdCells, cellsOf, fill, putAt, if_true, if_false, reduceIte, ↓reduceIte, reduceCtorEq, eq_self, Nat.reduceEqDiff, Nat.reduceAdd, Nat.reduceSub, Nat.reduceMul, Nat.reduceLT, Nat.reduceLeDiff, Nat.reducePow, Nat.reduceDiv, Nat.reduceMod, Int.reduceLT, Int.reduceLE, Int.reduceGT, Int.reduceGE, Int.reduceToNat, Int.reducePow, Int.reduceNeg, Int.reduceBEq, Int.reduceBNe, Int.reduceEq, Int.reduceAdd, Int.reduceSub, Int.reduceMul, cellv, sc, flatv, refs, refsF, refsC, hF.not0, hF.not1, hF.up0, hF.up1, c1, c2, c3, c4, c5, hg1, hq2, hcell, hb2, hh, hcell2, a1, small]
        have hg := gcFr_one (hp := hq) (L := L) (H := H) (nw := [.cells (c.length + 1) true (u8s (c ++ [x])), .cells 0 true [.int .u8 (x : Int)]]) (fr := [(5, .int .i64 y), (7, .int .i64 (r + 1 : Nat)), (6, .slice (some ⟨q, 0, some o.length⟩) o.length 1), (0, .slice (some ⟨b, of, some g⟩) t.length e), (4, .slice (some ⟨hq.length, 0, some (c.length + 1)⟩) (c.length + 1) 1)]) 0 rfl
          (by simp [refs, refsF, refsC, hql, hbl]) (by simp [refs, refsF, refsC])
        simp only [List.map_cons, List.map_nil, ren, renF, renC, one_new0, hon, hobn, Nat.add_zero] at hg
        rw [ir1, hg]
        simp (disch := (first | omega | (simp only [lnE] <;> omega) | (refine Fit.mono ‹Fit _ _ _› ?_ <;> (simp only [lnE] <;> omega)) | (refine Fit.draw ‹Fit _ _ _› ?_ ?_ <;> (simp only [lnE] <;> omega)) | (refine Fit.hid1 ‹Fit _ _ _› ?_ ?_ <;> (simp only [lnE] <;> omega)) | (refine Fit.draw1 ‹Fit _ _ _› ?_ ?_ ?_ <;> (simp only [lnE] <;> omega)) | (refine Fit.range0 ?_ ?_ <;> (simp only [lnE] <;> omega)) | fail)) only [syA, syB, argFr, D, E, T, C, undefv, eqF, aeq, sheqs, sheq, rdCells, cellsOf, fill, putAt, if_true, if_false, reduceIte, ↓reduceIte, reduceCtorEq, eq_self, Nat.reduceEqDiff, Nat.reduceAdd, Nat.reduceSub, Nat.reduceMul, Nat.reduceLT, Nat.reduceLeDiff, Nat.reducePow, Nat.reduceDiv, Nat.reduceMod, Int.reduceLT, Int.reduceLE, Int.reduceGT, Int.reduceGE, Int.reduceToNat, Int.reducePow, Int.reduceNeg, Int.reduceBEq, Int.reduceBNe, Int.reduceEq, Int.reduceAdd, Int.reduceSub, Int.reduceMul, cellv, sc, flatv, refs, refsF, refsC, hF.not0, hF.not1, hF.up0, hF.up1]
        exact ⟨fr, e1, e2⟩
/-- The reference's last column and index. -/
theorem turn17_walk {hq : List Blk} (hF : Fit hq.length L H) {v : Value} {t : List Nat} (hr : Rd ⟨hq, L, H, []⟩ v t) (hm : t.length ≤ 1000) :
    Lrun env (.func 36) [v] ⟨hq, L, H, d⟩ = some (.tuple #[bv hq.length (turnR t).1, .int .i64 ((turnR t).2.1 : Nat)], ⟨hq ++ bb (turnR t).1, L, H, d⟩) := by
  have ho := ordR_ord t
  have hl := ho.len
  rw [(turnR_is t).1, (turnR_is t).2]
  have ow := fun d => order_walk (L := L) (H := H) (d := d) hF hr hm
  generalize ordR t (t.length + 1) = o at *
  obtain ⟨fr, e1, e2, e3⟩ := turn17_loop (hq := hq ++ [.cells o.length true (i64n o)]) (L := L) (H := H) (q := hq.length) (hF.mono (by simp)) ho hr.app hm (by rw [get_new0]) hF.not0 o.length 0 (by omega)
  have z : colO t [] = [] := rfl
  rw [List.take_zero, z, bv_nil, bb_nil, List.append_nil, if_neg (Nat.not_lt_zero _)] at e1
  simp only [List.length_append, List.length_cons, List.length_nil, Nat.zero_add, Int.natCast_zero, List.append_assoc, List.cons_append, List.nil_append] at e1 e2
  rw [← hl] at ow
  rw [Lrun_sym 36 _ _ fn36]
  generalize colO t o = c at *
  by_cases hc : c = []
  · subst hc
    simp only [bv_nil, bb_nil, List.append_nil] at e1 e2 ⊢
    simp (disch := (first | omega | (simp only [lnE] <;> omega) | (refine Fit.mono ‹Fit _ _ _› ?_ <;> (simp only [lnE] <;> omega)) | (refine Fit.draw ‹Fit _ _ _› ?_ ?_ <;> (simp only [lnE] <;> omega)) | (refine Fit.hid1 ‹Fit _ _ _› ?_ ?_ <;> (simp only [lnE] <;> omega)) | (refine Fit.draw1 ‹Fit _ _ _› ?_ ?_ ?_ <;> (simp only [lnE] <;> omega)) | (refine Fit.range0 ?_ ?_ <;> (simp only [lnE] <;> omega)) | fail)) only [syA, syB, argFr, D, E, T, C, undefv, eqF, aeq, sheqs, sheq, rdCells, cellsOf, fill, putAt, if_true, if_false, reduceIte, ↓reduceIte, reduceCtorEq, eq_self, Nat.reduceEqDiff, Nat.reduceAdd, Nat.reduceSub, Nat.reduceMul, Nat.reduceLT, Nat.reduceLeDiff, Nat.reducePow, Nat.reduceDiv, Nat.reduceMod, Int.reduceLT, Int.reduceLE, Int.reduceGT, Int.reduceGE, Int.reduceToNat, Int.reducePow, Int.reduceNeg, Int.reduceBEq, Int.reduceBNe, Int.reduceEq, Int.reduceAdd, Int.reduceSub, Int.reduceMul, cellv, sc, flatv, refs, refsF, refsC, hF.not0, hF.not1, hF.up0, hF.up1, ac36, ow, e1, e2, e3]
  · simp only [bv_ne hc, bb_ne hc] at e1 e2 ⊢
    simp (disch := (first | omega | (simp only [lnE] <;> omega) | (refine Fit.mono ‹Fit _ _ _› ?_ <;> (simp only [lnE] <;> omega)) | (refine Fit.draw ‹Fit _ _ _› ?_ ?_ <;> (simp only [lnE] <;> omega)) | (refine Fit.hid1 ‹Fit _ _ _› ?_ ?_ <;> (simp only [lnE] <;> omega)) | (refine Fit.draw1 ‹Fit _ _ _› ?_ ?_ ?_ <;> (simp only [lnE] <;> omega)) | (refine Fit.range0 ?_ ?_ <;> (simp only [lnE] <;> omega)) | fail)) only [syA, syB, argFr, D, E, T, C, undefv, eqF, aeq, sheqs, sheq, rdCells, cellsOf, fill, putAt, if_true, if_false, reduceIte, ↓reduceIte, reduceCtorEq, eq_self, Nat.reduceEqDiff, Nat.reduceAdd, Nat.reduceSub, Nat.reduceMul, Nat.reduceLT, Nat.reduceLeDiff, Nat.reducePow, Nat.reduceDiv, Nat.reduceMod, Int.reduceLT, Int.reduceLE, Int.reduceGT, Int.reduceGE, Int.reduceToNat, Int.reducePow, Int.reduceNeg, Int.reduceBEq, Int.reduceBNe, Int.reduceEq, Int.reduceAdd, Int.reduceSub, Int.reduceMul, cellv, sc, flatv, refs, refsF, refsC, hF.not0, hF.not1, hF.up0, hF.up1, ac36, ow, e1, e2, e3]
    rw [gc_keep 1 rfl (by simp [refs, refsF, refsC]) (by simp [refs, refsF, refsC])]
    simp (disch := (first | omega | (simp only [lnE] <;> omega) | (refine Fit.mono ‹Fit _ _ _› ?_ <;> (simp only [lnE] <;> omega)) | (refine Fit.draw ‹Fit _ _ _› ?_ ?_ <;> (simp only [lnE] <;> omega)) | (refine Fit.hid1 ‹Fit _ _ _› ?_ ?_ <;> (simp only [lnE] <;> omega)) | (refine Fit.draw1 ‹Fit _ _ _› ?_ ?_ ?_ <;> (simp only [lnE] <;> omega)) | (refine Fit.range0 ?_ ?_ <;> (simp only [lnE] <;> omega)) | fail)) only [syA, syB, argFr, D, E, T, C, undefv, eqF, aeq, sheqs, sheq, rdCells, cellsOf, fill, putAt, if_true, if_false, reduceIte, ↓reduceIte, reduceCtorEq, eq_self, Nat.reduceEqDiff, Nat.reduceAdd, Nat.reduceSub, Nat.reduceMul, Nat.reduceLT, Nat.reduceLeDiff, Nat.reducePow, Nat.reduceDiv, Nat.reduceMod, Int.reduceLT, Int.reduceLE, Int.reduceGT, Int.reduceGE, Int.reduceToNat, Int.reducePow, Int.reduceNeg, Int.reduceBEq, Int.reduceBNe, Int.reduceEq, Int.reduceAdd, Int.reduceSub, Int.reduceMul, cellv, sc, flatv, refs, refsF, refsC, hF.not0, hF.not1, hF.up0, hF.up1, ren, renF, renC, one_new, List.map_cons, List.map_nil]
end
end ArA
end Go.Proofs.Ytlphmnhkkhcjfaa
