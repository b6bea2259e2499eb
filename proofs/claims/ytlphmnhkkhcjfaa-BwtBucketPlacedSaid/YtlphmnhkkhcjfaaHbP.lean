/-
  THE WAY BACK from a right column: the reference's Back. Conditions: none.
-/
import Derived.Test.YtlphmnhkkhcjfaaBk17b
import Derived.Test.YtlphmnhkkhcjfaaHbO
set_option linter.all false
namespace Go.Proofs.Ytlphmnhkkhcjfaa
namespace ArA
open Go Go.RowKit AM ArEnv
section
variable {L : Nat} {H d : List Nat}
theorem wayB_right {t o : List Nat} (ho : Ord t o) : ∀ (n k : Nat), n + k = t.length → wayB (colO t o) (o.idxOf 0) n (rowK (colO t o) (o.idxOf 0) k) = (t.take n).reverse
  | 0, k, h => by simp [wayB]
  | n + 1, k, h => by
    have hb := (way_byte ho (k := k) (by omega)).2
    have e1 : nxR (colO t o) (o.idxOf 0) (rowK (colO t o) (o.idxOf 0) k) = rowK (colO t o) (o.idxOf 0) (k + 1) := rfl
    have hn : n < t.length := by omega
    show List.getD _ _ 0 :: wayB _ _ n (nxR _ _ _) = _
    rw [e1, wayB_right ho n (k + 1) (by omega), List.getD_eq_getElem?_getD, hb, Option.getD_some, show t.length - k - 1 = n by omega, List.getD_eq_getElem?_getD, List.getElem?_eq_getElem hn, Option.getD_some]
    have h1 : t.take (n + 1) = t.take n ++ [t[n]] := by rw [List.take_append_getElem hn]
    rw [h1, List.reverse_append]
    rfl
theorem back17_right {hq : List Blk} (hF : Fit hq.length L H) {v : Value} {t o : List Nat} (ho : Ord t o) (hr : Rd ⟨hq, L, H, []⟩ v (colO t o)) (hm : t.length ≤ 65536) (h0 : t ≠ []) (hbt : By t) :
    Lrun env (.func 30) [v, .int .i64 (o.idxOf 0 : Nat)] ⟨hq, L, H, d⟩ = some (.tuple #[bv hq.length t, .int .i64 0], ⟨hq ++ bb t, L, H, d⟩) := by
  have hcl := colO_len ho
  have htl : 0 < t.length := List.length_pos_iff.2 h0
  have hlen := hr.lenF
  have hne : colO t o ≠ [] := by intro h; rw [h] at hcl; simp at hcl; omega
  have hix2 : o.idxOf 0 ≤ t.length := by
    have := List.idxOf_lt_length_of_mem (ho.mem.2 (Nat.zero_le t.length)); have := ho.len; omega
  have hix1 : 1 ≤ o.idxOf 0 := by
    rcases Nat.eq_zero_or_pos (o.idxOf 0) with h | h
    · have h1 := List.getElem_idxOf (x := 0) (xs := o) (List.idxOf_lt_length_iff.2 (ho.mem.2 (Nat.zero_le _)))
      have h2 := ho.first
      simp only [h] at h1
      rw [List.getElem?_eq_getElem (by have := ho.len; omega), h1] at h2
      simp only [Option.some.injEq] at h2
      omega
    · exact h
  have aw := fun d => after_walk (d := d) hF hr (by rw [hcl]; exact hm) hne
  obtain ⟨e, fr, c', k1, k2, e1, e5, e2⟩ := back17_loop (hq := hq ++ [.cells (colO t o).length true (i64n (aftR (colO t o) (colO t o).length))]) (L := L) (H := H) (ix := o.idxOf 0) (b6 := hq.length) (hF.mono (by simp)) hr.app (by rw [hcl]; exact hm) (by rw [hcl]; exact hix2) (by rw [get_new0]) hF.not0 (colO t o).length 0 (by omega) 0 [] (Nat.zero_le _) By.nil rfl
  have hv := (vw_right (f := fun _ => 0) ho).1
  rw [hcl] at e5 e2
  rw [hv] at e2
  have hc' : c' = t.reverse := by
    rw [e5 (by rw [hv]; simp), List.nil_append]
    have := wayB_right ho t.length 0 (by omega)
    rw [List.take_length] at this
    exact this
  subst hc'
  obtain ⟨rfl, e2, e3, e4⟩ := e2
  rw [bv_nil, bb_nil, List.append_nil] at e1
  have hrn : t.reverse ≠ [] := by simpa using h0
  have tw := turned17_walk (d := []) (hq := hq ++ .cells (colO t o).length true (i64n (aftR (colO t o) (colO t o).length)) :: bb t.reverse) (L := L) (H := H) (v := bv (hq.length + 1) t.reverse) (t := t.reverse) (hF.mono (by simp)) (by
    have := bv_rd (hp := hq ++ [.cells (colO t o).length true (i64n (aftR (colO t o) (colO t o).length))]) (L := L) (H := H) (d := []) (l := t.reverse) (by rw [List.length_append]; exact hF.not1 1) k1
    simpa using this) (by simpa using hm)
  have c1 : ¬ ((o.idxOf 0 : Nat) : Int) < 0 := by omega
  have c2 : ¬ ((o.idxOf 0 : Nat) : Int) > t.length := by omega
  have c3 : (((o.idxOf 0 : Nat) : Int) == 0) = false := by rw [beq_eq_false_iff_ne]; omega
  have c4 : ¬ (((o.idxOf 0 : Nat) : Int) = 0) := by omega
  rw [hcl] at hlen
  simp only [Int.natCast_zero, hcl, List.reverse_reverse, bb_ne hrn, bv_ne hrn, bb_ne h0, bv_ne h0, List.length_append, List.length_cons, List.length_nil, Nat.zero_add, List.append_assoc, List.cons_append, List.nil_append] at e1 e2 e3 e4 tw aw ⊢
  rw [Lrun_sym 30 _ _ fn30]
  simp (disch := (first | omega | (simp only [lnE] <;> omega) | (refine Fit.mono ‹Fit _ _ _› ?_ <;> (simp only [lnE] <;> omega)) | (refine Fit.draw ‹Fit _ _ _› ?_ ?_ <;> (simp only [lnE] <;> omega)) | (refine Fit.hid1 ‹Fit _ _ _› ?_ ?_ <;> (simp only [lnE] <;> omega)) | (refine Fit.draw1 ‹Fit _ _ _› ?_ ?_ ?_ <;> (simp only [lnE] <;> omega)) | (refine Fit.range0 ?_ ?_ <;> (simp only [lnE] <;> omega)) | fail)) only [syA, syB, argFr, D, E, T, C, undefv, eqF, aeq, sheqs, sheq, rdCells, cellsOf, fill, putAt, if_true, if_false, reduceIte, ↓reduceIte, reduceCtorEq, eq_self, Nat.reduceEqDiff, Nat.reduceAdd, Nat.reduceSub, Nat.reduceMul, Nat.reduceLT, Nat.reduceLeDiff, Nat.reducePow, Nat.reduceDiv, Nat.reduceMod, Int.reduceLT, Int.reduceLE, Int.reduceGT, Int.reduceGE, Int.reduceToNat, Int.reducePow, Int.reduceNeg, Int.reduceBEq, Int.reduceBNe, Int.reduceEq, Int.reduceAdd, Int.reduceSub, Int.reduceMul, cellv, sc, flatv, refs, refsF, refsC, hF.not0, hF.not1, hF.up0, hF.up1, ac30, hlen, c1, c2, c3, c4, aw, e1, e2, e3, e4, tw]
  rw [gc_keep 2 rfl (by simp [refs, refsF, refsC]) (by simp [refs, refsF, refsC])]
  simp (disch := (first | omega | (simp only [lnE] <;> omega) | (refine Fit.mono ‹Fit _ _ _› ?_ <;> (simp only [lnE] <;> omega)) | (refine Fit.draw ‹Fit _ _ _› ?_ ?_ <;> (simp only [lnE] <;> omega)) | (refine Fit.hid1 ‹Fit _ _ _› ?_ ?_ <;> (simp only [lnE] <;> omega)) | (refine Fit.draw1 ‹Fit _ _ _› ?_ ?_ ?_ <;> (simp only [lnE] <;> omega)) | (refine Fit.range0 ?_ ?_ <;> (simp only [lnE] <;> omega)) | fail)) only [syA, syB, argFr, D, E, T, C, undefv, eqF, aeq, sheqs, sheq, rdCells, cellsOf, fill, putAt, if_true, if_false, reduceIte, ↓reduceIte, reduceCtorEq, eq_self, Nat.reduceEqDiff, Nat.reduceAdd, Nat.reduceSub, Nat.reduceMul, Nat.reduceLT, Nat.reduceLeDiff, Nat.reducePow, Nat.reduceDiv, Nat.reduceMod, Int.reduceLT, Int.reduceLE, Int.reduceGT, Int.reduceGE, Int.reduceToNat, Int.reducePow, Int.reduceNeg, Int.reduceBEq, Int.reduceBNe, Int.reduceEq, Int.reduceAdd, Int.reduceSub, Int.reduceMul, cellv, sc, flatv, refs, refsF, refsC, hF.not0, hF.not1, hF.up0, hF.up1, ren, renF, renC, one_new, List.map_cons, List.map_nil]
end
end ArA
end Go.Proofs.Ytlphmnhkkhcjfaa
