/-
  TableWalkMatches: Valid and New return and write what the reference does, a walk and the reference return the same results for every call, and all other bytes are unchanged: the run. Conditions: none.
-/
import Derived.Test.YtlbdgbfblgjjgaaTmD
set_option linter.all false
namespace Go.Proofs.Ytlbdgbfblgjjgaa
namespace ArA
open Go Go.RowKit AM ArEnv
section
variable {hp : List Blk}
abbrev xh (hp : List Blk) (s m t z : Int) (nw : List Blk) : List Blk := hp ++ (.cells 0 true [.int .i64 s, .int .i64 m] :: .cells 0 true [.int .i64 t, .int .i64 z] :: default :: default :: default :: default :: nw)
theorem xh_len (s m t z : Int) (nw : List Blk) : (xh hp s m t z nw).length = hp.length + 6 + nw.length := by simp; omega
theorem xh_app (s m t z : Int) (nw l : List Blk) : xh hp s m t z nw ++ l = xh hp s m t z (nw ++ l) := by simp
/-- Both arenas. -/
abbrev pp (hp : List Blk) (s m t z : Int) (nw : List Blk) (A O : Arn) : List Blk := put (put (xh hp s m t z nw) (hp.length + 2) (hp.length + 2 + 1) A) (hp.length + 4) (hp.length + 4 + 1) O
theorem pp_comm (s m t z : Int) (nw : List Blk) (A O : Arn) : put (put (xh hp s m t z nw) (hp.length + 4) (hp.length + 4 + 1) O) (hp.length + 2) (hp.length + 2 + 1) A = pp hp s m t z nw A O := put_comm (by omega) (by omega) (by omega) (by omega)
theorem pp_old (s m t z : Int) (nw : List Blk) (A O : Arn) {i : Nat} (h : i < hp.length) : (pp hp s m t z nw A O)[i]? = hp[i]? := by
  unfold pp xh; rw [put_o (by omega) (by omega), put_o (by omega) (by omega), List.getElem?_append_left h]
theorem pp_len (s m t z : Int) (nw : List Blk) (A O : Arn) : (pp hp s m t z nw A O).length = hp.length + 6 + nw.length := by
  unfold pp; rw [put_length, put_length, xh_len]
theorem pp_new (s m t z : Int) (nw : List Blk) (A O : Arn) (k : Nat) : (pp hp s m t z nw A O)[hp.length + 6 + k]? = nw[k]? := by
  unfold pp xh
  rw [put_o (by omega) (by omega), put_o (by omega) (by omega), List.getElem?_append_right (by omega), show hp.length + 6 + k - hp.length = k + 6 by omega]
  rfl
variable {s m t z : Int} {A O : Arn} {L : Nat} {H d : List Nat}
theorem pA (nw : List Blk) (k : ArOk (hp.length + 4) (hp.length + 2) (hp.length + 2 + 1) H A) : ArOk (put (xh hp s m t z nw) (hp.length + 4) (hp.length + 4 + 1) O).length (hp.length + 2) (hp.length + 2 + 1) H A := k.mono (by rw [put_length, xh_len]; omega)
theorem pO (nw : List Blk) (k : ArOk (hp.length + 6) (hp.length + 4) (hp.length + 4 + 1) H O) : ArOk (put (xh hp s m t z nw) (hp.length + 2) (hp.length + 2 + 1) A).length (hp.length + 4) (hp.length + 4 + 1) H O := k.mono (by rw [put_length, xh_len]; omega)
theorem pF (nw : List Blk) (r q : Nat) (hF : L ≤ hp.length + 6 + nw.length) : Fit (put (xh hp s m t z nw) r q A).length L [] := ⟨by rw [put_length, xh_len]; omega, Low.nil _⟩
end
theorem Rd_keep_hide {hp hp2 : List Blk} {L L' lo n : Nat} {d d' : List Nat} {v : Value} {l : List Nat} (k : Rd ⟨hp, L, [], d⟩ v l) (h : ∀ i, i < hp.length → hp2[i]? = hp[i]?) (hlo : hp.length ≤ lo) : Rd ⟨hp2, L', List.range' lo n, d'⟩ v l :=
  k.more fun b x hx hh => by
    have hb := (List.getElem?_eq_some_iff.1 hx).1
    refine ⟨by rw [← hx]; exact h b hb, ?_⟩
    simp only at hb
    simp only []
    cases hc : (List.range' lo n).contains b with
    | false => rfl
    | true =>
      rw [List.contains_iff_mem, List.mem_range'_1] at hc
      omega
set_option maxRecDepth 40000 in
theorem tmat_run {hp : List Blk} {v va : Value} {b : List Nat} {zs : List Int} (hr : Rd ⟨hp, hp.length, [], []⟩ v b) (hz : Ri hp va zs) (s m : Int) (hsm : -9223372036854775808 ≤ s ∧ s ≤ 9223372036854775807 ∧ -9223372036854775808 ≤ m ∧ m ≤ 9223372036854775807)
    (t z : Int) (htz : -9223372036854775808 ≤ t ∧ t ≤ 9223372036854775807 ∧ -9223372036854775808 ≤ z ∧ z ≤ 9223372036854775807) (ix : Int) (hi0 : -9223372036854775808 ≤ ix) (hi1 : ix ≤ 9223372036854775807) :
    ∃ σ', Lrun env (.func 3) [v, .agg #[.int .i64 s, .int .i64 m], .agg #[.int .i64 t, .int .i64 z], .int .i64 ix, va] ⟨hp, hp.length, [], []⟩ = some (.bool true, σ') := by
  have hF : Fit hp.length hp.length [] := ⟨Nat.le_refl _, Low.nil _⟩
  have hlen := hr.lenF
  have hlz := hz.lenF
  rw [Lrun_sym 3 _ _ fn3]
  by_cases g1 : (b.length : Int) = 0
  · simp (disch := (first | omega | (simp only [lnE] <;> omega) | (refine Fit.mono ‹Fit _ _ _› ?_ <;> (simp only [lnE] <;> omega)) | (refine Fit.draw ‹Fit _ _ _› ?_ ?_ <;> (simp only [lnE] <;> omega)) | (refine Fit.hid1 ‹Fit _ _ _› ?_ ?_ <;> (simp only [lnE] <;> omega)) | (refine Fit.draw1 ‹Fit _ _ _› ?_ ?_ ?_ <;> (simp only [lnE] <;> omega)) | (refine Fit.range0 ?_ ?_ <;> (simp only [lnE] <;> omega)) | fail)) only [syA, syB, argFr, D, E, T, C, undefv, eqF, aeq, sheqs, sheq, rdCells, cellsOf, fill, putAt, if_true, if_false, reduceIte, ↓reduceIte, reduceCtorEq, eq_self, Nat.reduceEqDiff, Nat.reduceAdd, Nat.reduceSub, Nat.reduceMul, Nat.reduceLT, Nat.reduceLeDiff, Nat.reducePow, Nat.reduceDiv, Nat.reduceMod, Int.reduceLT, Int.reduceLE, Int.reduceGT, Int.reduceGE, Int.reduceToNat, Int.reducePow, Int.reduceNeg, Int.reduceBEq, Int.reduceBNe, Int.reduceEq, Int.reduceAdd, Int.reduceSub, Int.reduceMul, cellv, sc, flatv, refs, refsF, refsC, hF.not0, hF.not1, hF.up0, hF.up1, ac3, hlen, g1, wakes22_walk]
    exact ⟨_, rfl⟩
  have g1' : ((b.length : Int) == 0) = false := by rw [beq_eq_false_iff_ne]; exact g1
  by_cases g2 : (b.length : Int) > 400
  · simp (disch := (first | omega | (simp only [lnE] <;> omega) | (refine Fit.mono ‹Fit _ _ _› ?_ <;> (simp only [lnE] <;> omega)) | (refine Fit.draw ‹Fit _ _ _› ?_ ?_ <;> (simp only [lnE] <;> omega)) | (refine Fit.hid1 ‹Fit _ _ _› ?_ ?_ <;> (simp only [lnE] <;> omega)) | (refine Fit.draw1 ‹Fit _ _ _› ?_ ?_ ?_ <;> (simp only [lnE] <;> omega)) | (refine Fit.range0 ?_ ?_ <;> (simp only [lnE] <;> omega)) | fail)) only [syA, syB, argFr, D, E, T, C, undefv, eqF, aeq, sheqs, sheq, rdCells, cellsOf, fill, putAt, if_true, if_false, reduceIte, ↓reduceIte, reduceCtorEq, eq_self, Nat.reduceEqDiff, Nat.reduceAdd, Nat.reduceSub, Nat.reduceMul, Nat.reduceLT, Nat.reduceLeDiff, Nat.reducePow, Nat.reduceDiv, Nat.reduceMod, Int.reduceLT, Int.reduceLE, Int.reduceGT, Int.reduceGE, Int.reduceToNat, Int.reducePow, Int.reduceNeg, Int.reduceBEq, Int.reduceBNe, Int.reduceEq, Int.reduceAdd, Int.reduceSub, Int.reduceMul, cellv, sc, flatv, refs, refsF, refsC, hF.not0, hF.not1, hF.up0, hF.up1, ac3, hlen, g1', g2, wakes22_walk]
    exact ⟨_, rfl⟩
  by_cases g3 : (zs.length : Int) > 100
  · simp (disch := (first | omega | (simp only [lnE] <;> omega) | (refine Fit.mono ‹Fit _ _ _› ?_ <;> (simp only [lnE] <;> omega)) | (refine Fit.draw ‹Fit _ _ _› ?_ ?_ <;> (simp only [lnE] <;> omega)) | (refine Fit.hid1 ‹Fit _ _ _› ?_ ?_ <;> (simp only [lnE] <;> omega)) | (refine Fit.draw1 ‹Fit _ _ _› ?_ ?_ ?_ <;> (simp only [lnE] <;> omega)) | (refine Fit.range0 ?_ ?_ <;> (simp only [lnE] <;> omega)) | fail)) only [syA, syB, argFr, D, E, T, C, undefv, eqF, aeq, sheqs, sheq, rdCells, cellsOf, fill, putAt, if_true, if_false, reduceIte, ↓reduceIte, reduceCtorEq, eq_self, Nat.reduceEqDiff, Nat.reduceAdd, Nat.reduceSub, Nat.reduceMul, Nat.reduceLT, Nat.reduceLeDiff, Nat.reducePow, Nat.reduceDiv, Nat.reduceMod, Int.reduceLT, Int.reduceLE, Int.reduceGT, Int.reduceGE, Int.reduceToNat, Int.reducePow, Int.reduceNeg, Int.reduceBEq, Int.reduceBNe, Int.reduceEq, Int.reduceAdd, Int.reduceSub, Int.reduceMul, cellv, sc, flatv, refs, refsF, refsC, hF.not0, hF.not1, hF.up0, hF.up1, ac3, hlen, hlz, g1', g2, g3, wakes22_walk]
    exact ⟨_, rfl⟩
  have hN : ((b.length : Nat) : Int).toNat = b.length := by omega
  have c1 : ((b.length : Nat) : Int) ≤ 1048576 := by omega
  have c3 : (1 : Int) ≤ ((b.length : Nat) : Int) := by omega
  have hzr : By (List.replicate b.length 0) := fun x hx => by rw [List.mem_replicate] at hx; omega
  have t1 := laid_taken (N := b.length) (l := []) (m := b.length) (by simp)
  simp only [List.nil_append, List.length_nil, Int.natCast_zero] at t1
  rw [← new_laid] at t1
  have p1 := laid_part (N := b.length) (l := List.replicate b.length 0) (n := b.length) (by simp)
  have p2 := laid_store (N := b.length) (l := List.replicate b.length 0) (m := b) (by simp) (by simp)
  have k0 : ArOk (hp.length + 4) (hp.length + 2) (hp.length + 2 + 1) [] (Arn.new b.length) := ArOk.new (by omega) (by omega) (by omega) (by omega) rfl rfl
  have k1 : ArOk (hp.length + 4) (hp.length + 2) (hp.length + 2 + 1) [] (Arn.laid b.length (List.replicate b.length 0)) := ArOk.laid (by omega) (by omega) (by omega) hzr (by simp) (by omega) rfl rfl
  have k2 : ArOk (hp.length + 4) (hp.length + 2) (hp.length + 2 + 1) [] (Arn.laid b.length b) := ArOk.laid (by omega) (by omega) (by omega) hr.by_ (by simp) (by omega) rfl rfl
  have o0 : ArOk (hp.length + 6) (hp.length + 4) (hp.length + 4 + 1) [] (Arn.new b.length) := ArOk.new (by omega) (by omega) (by omega) (by omega) rfl rfl
  have o1 : ArOk (hp.length + 6) (hp.length + 4) (hp.length + 4 + 1) [] (Arn.laid b.length (List.replicate b.length 0)) := ArOk.laid (by omega) (by omega) (by omega) hzr (by simp) (by omega) rfl rfl
  have nA := new_walk (d := []) (hp := hp ++ [.cells 0 true [.int .i64 s, .int .i64 m], .cells 0 true [.int .i64 t, .int .i64 z]]) (L := hp.length) (H := []) ⟨by simp, Low.nil _⟩ (b.length : Int) c3 c1
  have nO := rfnew_walk (d := []) (hp := put (hp ++ [.cells 0 true [.int .i64 s, .int .i64 m], .cells 0 true [.int .i64 t, .int .i64 z], default, default]) (hp.length + 2) (hp.length + 2 + 1) (Arn.new b.length)) (L := hp.length) (H := []) ⟨by simp [put_length], Low.nil _⟩ (b.length : Int) c3 c1
  have kA := fun nw => take_walk (d := []) (pF (hp := hp) (s := s) (m := m) (t := t) (z := z) (A := Arn.new b.length) (L := hp.length) nw (hp.length + 4) (hp.length + 4 + 1) (by omega)) (pA (s := s) (m := m) (t := t) (z := z) (O := Arn.new b.length) nw k0) (by omega) b.length
  have kO := fun nw => rftake_walk (d := []) (pF (hp := hp) (s := s) (m := m) (t := t) (z := z) (A := Arn.laid b.length (List.replicate b.length 0)) (L := hp.length) nw (hp.length + 2) (hp.length + 2 + 1) (by omega)) (pO (s := s) (m := m) (t := t) (z := z) (A := Arn.laid b.length (List.replicate b.length 0)) nw o0) (by omega) b.length
  simp only [t1] at kA kO
  have sA := fun nw => store_walk (d := []) (by omega : b.length ≤ 1048576) (pF (hp := hp) (s := s) (m := m) (t := t) (z := z) (A := Arn.laid b.length (List.replicate b.length 0)) (L := hp.length) nw (hp.length + 4) (hp.length + 4 + 1) (by omega)) (pA (s := s) (m := m) (t := t) (z := z) (O := Arn.laid b.length (List.replicate b.length 0)) nw k1) (by omega) 0 b.length 0 (v := v) (l := b) (fun nw' => Rd_keep hr (fun i hi => by
    rw [put_o (by omega) (by omega), List.getElem?_append_left (by rw [put_length, xh_len]; omega), put_o (by omega) (by omega)]
    unfold xh; rw [List.getElem?_append_left hi]))
  simp only [p1, p2] at sA
  have vO := fun nw => rfvalid22_walk (d := []) (pF (hp := hp) (s := s) (m := m) (t := t) (z := z) (A := Arn.laid b.length b) (L := hp.length) nw (hp.length + 2) (hp.length + 2 + 1) (by omega)) (pO (s := s) (m := m) (t := t) (z := z) (A := Arn.laid b.length b) nw o1) s m t z
  have hvl : tValid (Arn.laid b.length (List.replicate b.length 0)) s m t z = tValid (Arn.laid b.length b) s m t z := by
    apply tValid_live; simp [Arn.laid]
  simp only [hvl] at vO
  simp only [pp_comm] at kA sA
  have lo : (Arn.laid b.length b).loadO 0 b.length = some b := laid_load
  have hAl : (Arn.laid b.length b).live = (b.length : Int) := rfl
  have hAb : ∀ p : Nat, p < b.length → (Arn.laid b.length b).bs[p]? = b[p]? := fun p hp => by simp only [Arn.laid]; rw [List.getElem?_append_left hp]
  have hAbl : (Arn.laid b.length b).bs.length = b.length := by simp [Arn.laid]
  generalize hO : Arn.laid b.length (List.replicate b.length 0) = O at *
  generalize hA : Arn.laid b.length b = A at *
  cases hv : tValid A s m t z with
  | false =>
    have n1 := fun d nw => tnew_bad (d := d) (ix := ix) (pF (hp := hp) (s := s) (m := m) (t := t) (z := z) (A := O) (L := hp.length) nw (hp.length + 4) (hp.length + 4 + 1) (by omega)) (pA (s := s) (m := m) (t := t) (z := z) (O := O) nw k2) hv
    have vA := fun d nw => tvalid_walk (d := d) (pF (hp := hp) (s := s) (m := m) (t := t) (z := z) (A := O) (L := hp.length) nw (hp.length + 4) (hp.length + 4 + 1) (by omega)) (pA (s := s) (m := m) (t := t) (z := z) (O := O) nw k2) s m t z
    simp only [hv, pp_comm] at n1 vA vO
    have lw : ∀ nw (L' : Nat), L' ≤ hp.length + 6 + nw.length → Lrun env (.func 20) [arP (hp.length + 2), .agg #[.int .i64 0, .int .i64 b.length]] ⟨pp hp s m t z nw A O, L', [], []⟩ = some (sl (hp.length + (6 + nw.length)) b.length (some b), ⟨pp hp s m t z (nw ++ slB b.length (some b)) A O, L', [], []⟩) := fun nw L' hL' => by
      have h := load_walk (d := []) (pF (hp := hp) (s := s) (m := m) (t := t) (z := z) (A := O) (L := L') nw (hp.length + 4) (hp.length + 4 + 1) hL') (pA (s := s) (m := m) (t := t) (z := z) (O := O) nw k2) 0 b.length
      rw [lo, put_length, xh_len, put_app (by rw [xh_len]; omega) (by rw [xh_len]; omega), xh_app, pp_comm, pp_comm, Nat.add_assoc] at h
      exact h
    have rv := fun nw L' => (Rd_keep (L' := L') (d' := []) hr (fun i hi => pp_old s m t z nw A O hi)).str
    have rvh := fun nw L' lo n (hlo : hp.length ≤ lo) => (Rd_keep_hide (L' := L') (d' := []) (lo := lo) (n := n) hr (fun i hi => pp_old s m t z nw A O hi) hlo).str
    unfold pp xh at *
    simp only [put_length, List.length_append, List.length_cons, List.length_nil, Nat.zero_add, Nat.reduceAdd, List.append_assoc, List.cons_append, List.nil_append, Int.natCast_zero, Nat.add_zero, hN] at nA nO
    simp (disch := (first | omega | (simp only [lnE, put_length] <;> omega) | (refine Fit.mono ‹Fit _ _ _› ?_ <;> (simp only [lnE, put_length] <;> omega)) | (refine Fit.draw ‹Fit _ _ _› ?_ ?_ <;> (simp only [lnE, put_length] <;> omega)) | (refine Fit.hid1 ‹Fit _ _ _› ?_ ?_ <;> (simp only [lnE, put_length] <;> omega)) | (refine Fit.draw1 ‹Fit _ _ _› ?_ ?_ ?_ <;> (simp only [lnE, put_length] <;> omega)) | (refine Fit.range0 ?_ ?_ <;> (simp only [lnE, put_length] <;> omega)) | (refine ArOk.mono ‹ArOk _ _ _ _ _› ?_ <;> (simp only [lnE, put_length] <;> omega)) | (refine ArOk.hid ‹ArOk _ _ _ _ _› ?_ ?_ <;> (simp only [lnE, put_length] <;> omega)) | (refine ArOk.hid0 ‹ArOk _ _ _ _ _› ?_ ?_ <;> (simp only [lnE, put_length] <;> omega)) | ((intro xr hxr; simp [AM.refs, refsF, refsC] at hxr) <;> (simp only [lnE, put_length] <;> omega)) | fail)) only [syA, syB, argFr, D, E, T, C, undefv, eqF, aeq, sheqs, sheq, rdCells, cellsOf, fill, putAt, if_true, if_false, reduceIte, ↓reduceIte, reduceCtorEq, eq_self, Nat.reduceEqDiff, Nat.reduceAdd, Nat.reduceSub, Nat.reduceMul, Nat.reduceLT, Nat.reduceLeDiff, Nat.reducePow, Nat.reduceDiv, Nat.reduceMod, Int.reduceLT, Int.reduceLE, Int.reduceGT, Int.reduceGE, Int.reduceToNat, Int.reducePow, Int.reduceNeg, Int.reduceBEq, Int.reduceBNe, Int.reduceEq, Int.reduceAdd, Int.reduceSub, Int.reduceMul, cellv, sc, flatv, refs, refsF, refsC, syR, Int.le_refl, hF.not0, hF.not1, hF.up0, hF.up1, ac3, hlen, hlz, g1', g2, g3, nA, nO, kA, kO, sA, vO, n1, vA, lw, rv, rvh, sl_some, slB_some, wakes22_walk, gc_bool_new]
    exact AM.gc_bool _ _ _ _ _ _
  | true =>
    obtain ⟨v1, v2, v3, v4, v5⟩ := tValid_parts hv
    have b1 := Arn.has_iff.1 v1
    have b2 := Arn.has_iff.1 v2
    rw [hAl] at b1 b2
    obtain ⟨s, rfl⟩ := Int.eq_ofNat_of_zero_le (by omega : 0 ≤ s)
    obtain ⟨m, rfl⟩ := Int.eq_ofNat_of_zero_le (by omega : 0 ≤ m)
    obtain ⟨t, rfl⟩ := Int.eq_ofNat_of_zero_le (by omega : 0 ≤ t)
    obtain ⟨z, rfl⟩ := Int.eq_ofNat_of_zero_le (by omega : 0 ≤ z)
    obtain ⟨vc, hcut, hrc⟩ := hr.cut (i := s) (j := s + m) (by omega) (by omega)
    rw [Nat.add_sub_cancel_left] at hrc
    have hHx : Holds A s ((b.drop s).take m) := ⟨by rw [hAl]; simp; omega, fun i hi => by
      have hi2 : i < m := by simp at hi; omega
      rw [hAb (s + i) (by omega), List.getElem_take, List.getElem_drop, List.getElem?_eq_getElem (by omega)]⟩
    have hxb : By ((b.drop s).take m) := (hr.by_.drop s).take m
    obtain ⟨x, hxe⟩ : ∃ x, x = (b.drop s).take m := ⟨_, rfl⟩
    have hxl : x.length = m := by rw [hxe]; simp; omega
    rw [← hxe] at hrc hHx hxb
    clear hxe
    subst hxl
    have hsum : ((s : Nat) : Int) + (x.length : Nat) = ((s + x.length : Nat) : Int) := by omega
    have vA := fun d nw => tvalid_walk (d := d) (pF (hp := hp) (s := s) (m := x.length) (t := t) (z := z) (A := O) (L := hp.length) nw (hp.length + 4) (hp.length + 4 + 1) (by omega)) (pA (s := s) (m := x.length) (t := t) (z := z) (O := O) nw k2) s x.length t z
    simp only [hv, pp_comm] at vA vO
    by_cases c6 : 1 ≤ ix ∧ ix ≤ x.length
    · obtain ⟨ix, rfl⟩ := Int.eq_ofNat_of_zero_le (by omega : 0 ≤ ix)
      have hvn : tValid A (s : Int) x.length (t : Int) z = true := hv
      obtain ⟨A1, n1, m1, hA1, kA1⟩ := tnew_walk (ix := ix) (t := t) (z := z) (x := x) (s := s) (pF (hp := hp) (s := s) (m := x.length) (t := t) (z := z) (A := O) (L := hp.length) [.cells 0 true [.int .i64 0, .int .i64 b.length]] (hp.length + 4) (hp.length + 4 + 1) (by omega)) (pA (s := s) (m := x.length) (t := t) (z := z) (O := O) [.cells 0 true [.int .i64 0, .int .i64 b.length]] k2) (by omega) hHx hvn hxb (by omega)
      have k3 : ArOk (hp.length + 4) (hp.length + 2) (hp.length + 2 + 1) [] A1 := m1.ok k2
      obtain ⟨FB, hFB⟩ : ∃ FB, FB = fB (hp.length + 2) s t z ix x.length 0 0 0 := ⟨_, rfl⟩
      rw [← hFB] at n1
      have n1' : ∀ d, Lrun env (.func 18) [arP (hp.length + 2), .agg #[.int .i64 s, .int .i64 x.length], .int .i64 ix, .agg #[.int .i64 t, .int .i64 z]] ⟨pp hp s x.length t z [.cells 0 true [.int .i64 0, .int .i64 b.length]] A O, hp.length, [], d⟩ =
          some (.tuple #[fP (hp.length + 7), .int .i64 0], ⟨pp hp s x.length t z [.cells 0 true [.int .i64 0, .int .i64 b.length], FB] A1 O, hp.length, [], d⟩) := fun d => by
        have h := n1 d
        rw [put_length, xh_len, put_app (by rw [xh_len]; omega) (by rw [xh_len]; omega), xh_app, pp_comm, pp_comm] at h
        exact h
      have hvl2 : tValid A1 (s : Int) x.length (t : Int) z = true := by rw [tValid_live m1.live]; exact hvn
      have vA2 := fun d nw => tvalid_walk (d := d) (pF (hp := hp) (s := s) (m := x.length) (t := t) (z := z) (A := O) (L := hp.length) nw (hp.length + 4) (hp.length + 4 + 1) (by omega)) (pA (s := s) (m := x.length) (t := t) (z := z) (O := O) nw k3) s x.length t z
      simp only [hvl2, pp_comm] at vA2
      have ro := fun d nw => rows22_walk (d := d) (hq := pp hp s x.length t z nw A1 O) (L := hp.length) (H := []) ⟨by rw [pp_len]; omega, Low.nil _⟩ (Rd_keep hrc (fun i hi => pp_old s x.length t z nw A1 O hi)) (by omega) (ix := ix) (by omega)
      have ppa : ∀ nw l, pp hp s x.length t z nw A1 O ++ l = pp hp s x.length t z (nw ++ l) A1 O := fun nw l => by
        unfold pp; rw [put_app (by rw [put_length, xh_len]; omega) (by rw [put_length, xh_len]; omega), put_app (by rw [xh_len]; omega) (by rw [xh_len]; omega), xh_app]
      simp only [ppa, pp_len, Nat.add_assoc] at ro
      obtain ⟨TB, hTB⟩ : ∃ TB, TB = Blk.cells (x.length + 1) true (i64n (tvL x ix (x.length + 1))) := ⟨_, rfl⟩
      simp only [← hTB] at ro
      have hw : ∀ nw w, w ≤ x.length → ∀ d, Lrun env (.func 22) [arP (hp.length + 2), .agg #[.int .i64 t, .int .i64 z], .int .i64 w] ⟨pp hp s x.length t z nw A1 O, hp.length, [], d⟩ = some (.tuple #[.int .u32 (tv x ix w : Nat), .bool true], ⟨pp hp s x.length t z nw A1 O, hp.length, [], d⟩) := fun nw w hwx d => by
        have h := word_walk (d := d) (pF (hp := hp) (s := s) (m := x.length) (t := t) (z := z) (A := O) (L := hp.length) nw (hp.length + 4) (hp.length + 4 + 1) (by omega)) (pA (s := s) (m := x.length) (t := t) (z := z) (O := O) nw k3) t z w
        obtain ⟨q1, q2⟩ := m1.wordV (n := x.length + 1) (w := w) (z := z) (by rw [hAl]; omega) (by omega) (by omega) (by omega) (by omega) hwx (by omega)
        rw [q1, q2, pp_comm] at h
        exact h
      obtain ⟨fr, e1, e20, e7, e11, e14, e0, e16, e19, e3, e4⟩ := chk_loop (hs := pp hp s x.length t z [.cells 0 true [.int .i64 0, .int .i64 b.length], FB, TB] A1 O) (L := hp.length) (H := []) (r := hp.length + 2) (f := hp.length + 7) (v := v) (vc := vc) (va := va) (b7 := hp.length + 1) (b14 := hp.length + 6) (bt := hp.length + 8) (t := t) (z := z) (x := x) (ix := ix) ⟨by rw [pp_len]; omega, Low.nil _⟩ (hw _) (by unfold pp xh; rw [put_o (by omega) (by omega), put_o (by omega) (by omega), get_new]; rfl) rfl (by rw [pp_new _ _ _ _ _ _ _ 2, hTB]; rfl) rfl (by omega) (by omega) (x.length + 1) 0 (by omega)
      have lo2 : A1.loadO 0 b.length = some (A1.bs.take b.length) := by
        unfold Arn.loadO
        rw [if_pos (by rw [Arn.has_iff, m1.live, hAl]; omega)]; simp
      have hnl : (A1.bs.take b.length).length = b.length := by rw [List.length_take, m1.len, hAbl]; omega
      have lw : ∀ nw, Lrun env (.func 20) [arP (hp.length + 2), .agg #[.int .i64 0, .int .i64 b.length]] ⟨pp hp s x.length t z nw A1 O, hp.length, [], []⟩ = some (.slice (some ⟨hp.length + (6 + nw.length), 0, some b.length⟩) b.length 1, ⟨pp hp s x.length t z (nw ++ [.cells b.length true (u8s (A1.bs.take b.length))]) A1 O, hp.length, [], []⟩) := fun nw => by
        have h := load_walk (d := []) (pF (hp := hp) (s := s) (m := x.length) (t := t) (z := z) (A := O) (L := hp.length) nw (hp.length + 4) (hp.length + 4 + 1) (by omega)) (pA (s := s) (m := x.length) (t := t) (z := z) (O := O) nw k3) 0 b.length
        rw [lo2, put_length, xh_len, put_app (by rw [xh_len]; omega) (by rw [xh_len]; omega), xh_app, pp_comm, pp_comm, Nat.add_assoc] at h
        simp only [sl_some, slB_some, Option.getD_some, hnl] at h
        exact h
      have hsame : ∀ i, i < b.length → ¬ (t ≤ i ∧ i < t + 4 * (x.length + 1)) → (A1.bs.take b.length)[i]? = b[i]? := fun i hi h => by
        rw [List.getElem?_take_of_lt hi, m1.out i (by omega), hAb i hi]
      obtain ⟨NB, hNB⟩ : ∃ NB, NB = Blk.cells b.length true (u8s (A1.bs.take b.length)) := ⟨_, rfl⟩
      obtain ⟨fr2, o1', o24, o0', o16, o19, o3, o4⟩ := out_loop (hs := pp hp s x.length t z [.cells 0 true [.int .i64 0, .int .i64 b.length], FB, TB, NB] A1 O) (L := hp.length) (H := []) (f := hp.length + 7) (v := v) (vc := vc) (va := va) (b7 := hp.length + 1) (bn := hp.length + 9) (t := t) (z := z) (x := x) (ix := ix) (nb := A1.bs.take b.length) ⟨by rw [pp_len]; omega, Low.nil _⟩ (Rd_keep hr (fun i hi => pp_old s x.length t z _ A1 O hi)) (by rw [pp_new _ _ _ _ _ _ _ 3, hNB]; rfl) rfl hnl (by unfold pp xh; rw [put_o (by omega) (by omega), put_o (by omega) (by omega), get_new]; rfl) rfl hsame (by omega) (by omega) (by omega) (bt' := some ⟨hp.length + 8, 0, some (x.length + 1)⟩) b.length 0 (by omega)
      simp only [← hNB] at lw
      obtain ⟨a0, ee, rfl⟩ := hrc.len
      obtain ⟨bb, oo, gg, pl, cs, rfl, -, -, hbb, -⟩ := hrc.at_ (i := 0) (by omega)
      obtain ⟨hq, hqe⟩ : ∃ hq, hq = put (xh hp s x.length t z [.cells 0 true [.int .i64 0, .int .i64 b.length], default, TB, NB, default]) (hp.length + 4) (hp.length + 4 + 1) O := ⟨_, rfl⟩
      have hset : ∀ F G, put ((hq.set (hp.length + 7) F).set (hp.length + 10) G) (hp.length + 2) (hp.length + 2 + 1) A1 = pp hp s x.length t z [.cells 0 true [.int .i64 0, .int .i64 b.length], F, TB, NB, G] A1 O := fun F G => by
        rw [hqe, put_set_o (by omega) (by omega), put_set_o (by omega) (by omega), ← pp_comm]
        unfold xh
        simp only [set_new, List.set_cons_succ, List.set_cons_zero]
      have hql : hq.length = hp.length + 11 := by rw [hqe, put_length, xh_len]; rfl
      have T : TtOk hq (hp.length + 2) (hp.length + 2 + 1) (hp.length + 7) (hp.length + 10) hp.length [] A1 s t z ix (.slice (some ⟨bb, oo, some gg⟩) x.length ee) x := {
        fit := ⟨by omega, Low.nil _⟩
        k := ⟨k3.mono (by omega), hA1, fun w hwx => m1.wordV (n := x.length + 1) (by rw [hAl]; omega) (by omega) (by omega) (by omega) (by omega) hwx (by omega), by omega, by omega, by omega, by omega, by omega, rfl, by omega, hxb⟩
        ne := by omega
        ur := by omega
        uq := by omega
        un := by omega
        uL := by omega
        hid := rfl
        rd := fun B1 B2 => by rw [hset]; exact Rd_keep hrc (fun i hi => pp_old s x.length t z _ A1 O hi) }
      have htw : ∀ a b' c a2 b2 c2, twt hq (hp.length + 2) (hp.length + 2 + 1) (hp.length + 7) (hp.length + 10) A1 s t z ix (.slice (some ⟨bb, oo, some gg⟩) x.length ee) x a b' c a2 b2 c2 = pp hp s x.length t z [.cells 0 true [.int .i64 0, .int .i64 b.length], fB (hp.length + 2) s t z ix x.length a b' c, TB, NB, gB (.slice (some ⟨bb, oo, some gg⟩) x.length ee) ix a2 b2 c2] A1 O := fun a b' c a2 b2 c2 => by unfold twt; rw [hset]
      obtain ⟨row', told', st', ak⟩ := asked_walk T (va := va) (zs := zs) (fun a b' c => by
        rw [htw]
        rcases hz.form with h1 | ⟨b0, h1, h2⟩
        · exact ⟨.inl h1⟩
        · exact ⟨.inr ⟨b0, h1, by rw [pp_old _ _ _ _ _ _ _ (List.getElem?_eq_some_iff.1 h2).1]; exact h2⟩⟩) (fun b hb => rfl) (by omega)
      simp only [htw, ← hFB] at ak
      have hgB : gB (.slice (some ⟨bb, oo, some gg⟩) x.length ee) ix 0 0 0 = .cells 0 false [.slice (some ⟨bb, oo, some gg⟩) x.length ee, .int .i64 ix, .int .i64 0, .int .i64 0, .int .i64 0] := rfl
      simp only [hgB] at ak
      have d1 : ¬ (ix : Int) < 1 := by omega
      have d2 : ¬ (ix : Int) > x.length := by omega
      simp only [Int.natCast_add] at hcut
      simp only [pp_len, Int.natCast_zero, List.length_cons, List.length_nil, Nat.zero_add, Nat.reduceAdd] at e1 o1'
      unfold pp xh at *
      simp only [put_length, List.length_append, List.length_cons, List.length_nil, Nat.zero_add, Nat.reduceAdd, List.append_assoc, List.cons_append, List.nil_append, Int.natCast_zero, Nat.add_zero, hN] at nA nO
      simp (disch := (first | omega | (simp only [lnE, put_length] <;> omega) | (refine Fit.mono ‹Fit _ _ _› ?_ <;> (simp only [lnE, put_length] <;> omega)) | (refine Fit.draw ‹Fit _ _ _› ?_ ?_ <;> (simp only [lnE, put_length] <;> omega)) | (refine Fit.hid1 ‹Fit _ _ _› ?_ ?_ <;> (simp only [lnE, put_length] <;> omega)) | (refine Fit.draw1 ‹Fit _ _ _› ?_ ?_ ?_ <;> (simp only [lnE, put_length] <;> omega)) | (refine Fit.range0 ?_ ?_ <;> (simp only [lnE, put_length] <;> omega)) | (refine ArOk.mono ‹ArOk _ _ _ _ _› ?_ <;> (simp only [lnE, put_length] <;> omega)) | (refine ArOk.hid ‹ArOk _ _ _ _ _› ?_ ?_ <;> (simp only [lnE, put_length] <;> omega)) | (refine ArOk.hid0 ‹ArOk _ _ _ _ _› ?_ ?_ <;> (simp only [lnE, put_length] <;> omega)) | ((intro xr hxr; simp [AM.refs, refsF, refsC] at hxr) <;> (simp only [lnE, put_length] <;> omega)) | fail)) only [syA, syB, argFr, D, E, T, C, undefv, eqF, aeq, sheqs, sheq, rdCells, cellsOf, fill, putAt, if_true, if_false, reduceIte, ↓reduceIte, reduceCtorEq, eq_self, Nat.reduceEqDiff, Nat.reduceAdd, Nat.reduceSub, Nat.reduceMul, Nat.reduceLT, Nat.reduceLeDiff, Nat.reducePow, Nat.reduceDiv, Nat.reduceMod, Int.reduceLT, Int.reduceLE, Int.reduceGT, Int.reduceGE, Int.reduceToNat, Int.reducePow, Int.reduceNeg, Int.reduceBEq, Int.reduceBNe, Int.reduceEq, Int.reduceAdd, Int.reduceSub, Int.reduceMul, cellv, sc, flatv, refs, refsF, refsC, syR, Int.le_refl, hF.not0, hF.not1, hF.up0, hF.up1, ac3, hlen, hlz, g1', g2, g3, nA, nO, kA, kO, sA, vO, n1', vA2, d1, d2, hcut, ro, e1, e20, e7, e11, e14, e0, e16, e19, e3, e4, lw, o1', o24, o0', o16, o19, o3, o4, ak, wakes22_walk, gc_bool_new]
      exact AM.gc_bool _ _ _ _ _ _
    · have n1 := fun d nw => tnew_index (d := d) (ix := ix) (pF (hp := hp) (s := s) (m := x.length) (t := t) (z := z) (A := O) (L := hp.length) nw (hp.length + 4) (hp.length + 4 + 1) (by omega)) (pA (s := s) (m := x.length) (t := t) (z := z) (O := O) nw k2) hv c6
      simp only [pp_comm] at n1
      have lw : ∀ nw (L' : Nat), L' ≤ hp.length + 6 + nw.length → Lrun env (.func 20) [arP (hp.length + 2), .agg #[.int .i64 0, .int .i64 b.length]] ⟨pp hp s x.length t z nw A O, L', [], []⟩ = some (sl (hp.length + (6 + nw.length)) b.length (some b), ⟨pp hp s x.length t z (nw ++ slB b.length (some b)) A O, L', [], []⟩) := fun nw L' hL' => by
        have h := load_walk (d := []) (pF (hp := hp) (s := s) (m := x.length) (t := t) (z := z) (A := O) (L := L') nw (hp.length + 4) (hp.length + 4 + 1) hL') (pA (s := s) (m := x.length) (t := t) (z := z) (O := O) nw k2) 0 b.length
        rw [lo, put_length, xh_len, put_app (by rw [xh_len]; omega) (by rw [xh_len]; omega), xh_app, pp_comm, pp_comm, Nat.add_assoc] at h
        exact h
      have rv := fun nw L' => (Rd_keep (L' := L') (d' := []) hr (fun i hi => pp_old s x.length t z nw A O hi)).str
      have rvh := fun nw L' lo n (hlo : hp.length ≤ lo) => (Rd_keep_hide (L' := L') (d' := []) (lo := lo) (n := n) hr (fun i hi => pp_old s x.length t z nw A O hi) hlo).str
      unfold pp xh at *
      simp only [put_length, List.length_append, List.length_cons, List.length_nil, Nat.zero_add, Nat.reduceAdd, List.append_assoc, List.cons_append, List.nil_append, Int.natCast_zero, Nat.add_zero, hN] at nA nO
      by_cases d1 : ix < 1
      · simp (disch := (first | omega | (simp only [lnE, put_length] <;> omega) | (refine Fit.mono ‹Fit _ _ _› ?_ <;> (simp only [lnE, put_length] <;> omega)) | (refine Fit.draw ‹Fit _ _ _› ?_ ?_ <;> (simp only [lnE, put_length] <;> omega)) | (refine Fit.hid1 ‹Fit _ _ _› ?_ ?_ <;> (simp only [lnE, put_length] <;> omega)) | (refine Fit.draw1 ‹Fit _ _ _› ?_ ?_ ?_ <;> (simp only [lnE, put_length] <;> omega)) | (refine Fit.range0 ?_ ?_ <;> (simp only [lnE, put_length] <;> omega)) | (refine ArOk.mono ‹ArOk _ _ _ _ _› ?_ <;> (simp only [lnE, put_length] <;> omega)) | (refine ArOk.hid ‹ArOk _ _ _ _ _› ?_ ?_ <;> (simp only [lnE, put_length] <;> omega)) | (refine ArOk.hid0 ‹ArOk _ _ _ _ _› ?_ ?_ <;> (simp only [lnE, put_length] <;> omega)) | ((intro xr hxr; simp [AM.refs, refsF, refsC] at hxr) <;> (simp only [lnE, put_length] <;> omega)) | fail)) only [syA, syB, argFr, D, E, T, C, undefv, eqF, aeq, sheqs, sheq, rdCells, cellsOf, fill, putAt, if_true, if_false, reduceIte, ↓reduceIte, reduceCtorEq, eq_self, Nat.reduceEqDiff, Nat.reduceAdd, Nat.reduceSub, Nat.reduceMul, Nat.reduceLT, Nat.reduceLeDiff, Nat.reducePow, Nat.reduceDiv, Nat.reduceMod, Int.reduceLT, Int.reduceLE, Int.reduceGT, Int.reduceGE, Int.reduceToNat, Int.reducePow, Int.reduceNeg, Int.reduceBEq, Int.reduceBNe, Int.reduceEq, Int.reduceAdd, Int.reduceSub, Int.reduceMul, cellv, sc, flatv, refs, refsF, refsC, syR, Int.le_refl, hF.not0, hF.not1, hF.up0, hF.up1, ac3, hlen, hlz, g1', g2, g3, nA, nO, kA, kO, sA, vO, n1, vA, d1, lw, rv, rvh, sl_some, slB_some, wakes22_walk, gc_bool_new]
        exact AM.gc_bool _ _ _ _ _ _
      · have d2 : ix > x.length := by omega
        simp (disch := (first | omega | (simp only [lnE, put_length] <;> omega) | (refine Fit.mono ‹Fit _ _ _› ?_ <;> (simp only [lnE, put_length] <;> omega)) | (refine Fit.draw ‹Fit _ _ _› ?_ ?_ <;> (simp only [lnE, put_length] <;> omega)) | (refine Fit.hid1 ‹Fit _ _ _› ?_ ?_ <;> (simp only [lnE, put_length] <;> omega)) | (refine Fit.draw1 ‹Fit _ _ _› ?_ ?_ ?_ <;> (simp only [lnE, put_length] <;> omega)) | (refine Fit.range0 ?_ ?_ <;> (simp only [lnE, put_length] <;> omega)) | (refine ArOk.mono ‹ArOk _ _ _ _ _› ?_ <;> (simp only [lnE, put_length] <;> omega)) | (refine ArOk.hid ‹ArOk _ _ _ _ _› ?_ ?_ <;> (simp only [lnE, put_length] <;> omega)) | (refine ArOk.hid0 ‹ArOk _ _ _ _ _› ?_ ?_ <;> (simp only [lnE, put_length] <;> omega)) | ((intro xr hxr; simp [AM.refs, refsF, refsC] at hxr) <;> (simp only [lnE, put_length] <;> omega)) | fail)) only [syA, syB, argFr, D, E, T, C, undefv, eqF, aeq, sheqs, sheq, rdCells, cellsOf, fill, putAt, if_true, if_false, reduceIte, ↓reduceIte, reduceCtorEq, eq_self, Nat.reduceEqDiff, Nat.reduceAdd, Nat.reduceSub, Nat.reduceMul, Nat.reduceLT, Nat.reduceLeDiff, Nat.reducePow, Nat.reduceDiv, Nat.reduceMod, Int.reduceLT, Int.reduceLE, Int.reduceGT, Int.reduceGE, Int.reduceToNat, Int.reducePow, Int.reduceNeg, Int.reduceBEq, Int.reduceBNe, Int.reduceEq, Int.reduceAdd, Int.reduceSub, Int.reduceMul, cellv, sc, flatv, refs, refsF, refsC, syR, Int.le_refl, hF.not0, hF.not1, hF.up0, hF.up1, ac3, hlen, hlz, g1', g2, g3, nA, nO, kA, kO, sA, vO, n1, vA, d1, d2, lw, rv, rvh, sl_some, slB_some, wakes22_walk, gc_bool_new]
        exact AM.gc_bool _ _ _ _ _ _
theorem tmat_law {hp bs : List Blk} {v : Value} {b : List Nat} (hr : Rd ⟨hp, hp.length, [], []⟩ v b) (s m : Int) (hsm : -9223372036854775808 ≤ s ∧ s ≤ 9223372036854775807 ∧ -9223372036854775808 ≤ m ∧ m ≤ 9223372036854775807)
    (t z : Int) (htz : -9223372036854775808 ≤ t ∧ t ≤ 9223372036854775807 ∧ -9223372036854775808 ≤ z ∧ z ≤ 9223372036854775807) (ix : Int) (hi0 : -9223372036854775808 ≤ ix) (hi1 : ix ≤ 9223372036854775807)
    (zs : List Int) (va : Value) (R : (va = .slice none 0 0 ∧ zs.length = 0 ∧ bs = []) ∨ (va = .slice (some ⟨hp.length, 0, some 0⟩) zs.length 0 ∧ bs = [.cells 0 true (zs.map (Value.int .i64))])) :
    ∃ σ', Lrun env (.func 3) [v, .agg #[.int .i64 s, .int .i64 m], .agg #[.int .i64 t, .int .i64 z], .int .i64 ix, va] ⟨hp ++ bs, (hp ++ bs).length, [], []⟩ = some (.bool true, σ') :=
  tmat_run hr.app (Ri.of_law R) s m hsm t z htz ix hi0 hi1
end ArA
end Go.Proofs.Ytlbdgbfblgjjgaa
