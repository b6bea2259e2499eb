/-
  TableWalkWalk: the walk with a table and that with sampled ranks return the same bytes and agree on whether the column and the index are right: the run. Conditions: none.
-/
import Derived.Test.YtlbdgbfblgjjgaaTwE
import Derived.Test.YtlbdgbfblgjjgaaRwH
set_option linter.all false
namespace Go.Proofs.Ytlbdgbfblgjjgaa
namespace ArA
open Go Go.RowKit AM ArEnv
theorem vw_mono {k : Nat} {x : List Nat} {ix : Nat} : ∀ (n r a b : Nat), a ≤ b → (vw (fun _ => 0) x ix n r a).2 ≤ (vw (fun y => y % k) x ix n r b).2
  | 0, r, a, b, h => h
  | n + 1, r, a, b, h => by
    unfold vw
    split
    · exact h
    · exact vw_mono n _ _ _ (by omega)
theorem Rd_keep {hp hp2 : List Blk} {L L' : Nat} {H d d' : List Nat} {v : Value} {l : List Nat} (k : Rd ⟨hp, L, H, d⟩ v l) (h : ∀ i, i < hp.length → hp2[i]? = hp[i]?) : Rd ⟨hp2, L', H, d'⟩ v l :=
  k.more fun b x hx hh => ⟨by rw [← hx]; exact h b (List.getElem?_eq_some_iff.1 hx).1, hh⟩
section
variable {L : Nat} {H d : List Nat} {hq : List Blk} {r q r2 q2 f w : Nat} {A O : Arn} {t z z2 kk ix : Nat} {x : List Nat}
def tww (hq : List Blk) (r q r2 q2 f w : Nat) (A O : Arn) (F W : Blk) : List Blk := put (put ((hq.set f F).set w W) r q A) r2 q2 O
structure WwOk (hq : List Blk) (r q r2 q2 f w : Nat) (L : Nat) (H : List Nat) (A O : Arn) (t z z2 kk ix : Nat) (x : List Nat) : Prop where
  fit : Fit hq.length L H
  a : TbOk hq.length r q f L H A 0 t z ix x
  o : WkOk hq.length r2 q2 w L H O 0 t z2 kk ix x
  rr : r ≠ r2
  rq : r ≠ q2
  qr : q ≠ r2
  qq : q ≠ q2
  fw : f ≠ w
  rw_ : r ≠ w
  qw : q ≠ w
  fr2 : r2 ≠ f
  fq2 : q2 ≠ f
theorem tww_f (T : WwOk hq r q r2 q2 f w L H A O t z z2 kk ix x) {F W : Blk} : tww hq r q r2 q2 f w A O F W = put ((put (hq.set w W) r2 q2 O).set f F) r q A := by
  unfold tww
  rw [put_set_o T.fr2 T.fq2, List.set_comm _ _ T.fw, put_comm T.rr T.rq T.qr T.qq]
theorem tww_w (T : WwOk hq r q r2 q2 f w L H A O t z z2 kk ix x) {F W : Blk} : tww hq r q r2 q2 f w A O F W = put ((put (hq.set f F) r q A).set w W) r2 q2 O := by
  unfold tww
  rw [put_set_o T.rw_ T.qw]
theorem tww_len {F W : Blk} : (tww hq r q r2 q2 f w A O F W).length = hq.length := by unfold tww; simp [put_length]
variable {row told st row2 told2 st2 : Nat} {F W : Blk}
theorem WwOk.lf (T : WwOk hq r q r2 q2 f w L H A O t z z2 kk ix x) : (put (hq.set w W) r2 q2 O).length = hq.length := by simp [put_length]
theorem WwOk.lw (T : WwOk hq r q r2 q2 f w L H A O t z z2 kk ix x) : (put (hq.set f F) r q A).length = hq.length := by simp [put_length]
theorem xf_next (T : WwOk hq r q r2 q2 f w L H A O t z z2 kk ix x) (ht : told < x.length) (hp : row ≤ x.length) (hne : row ≠ ix) (ha : atR ix row < x.length) (hs : st ≤ 1099511627776) :
    Lrun env (.func 29) [fP f] ⟨tww hq r q r2 q2 f w A O (fB r 0 t z ix x.length row told st) W, L, H, d⟩ = some (.tuple #[.int .u8 (x[atR ix row] : Nat), .bool true], ⟨tww hq r q r2 q2 f w A O (fB r 0 t z ix x.length (nxR x ix row) (told + 1) (st + 1)) W, L, H, d⟩) := by
  rw [tww_f T, tww_f T]; exact tnext_walk (by rw [T.lf]; exact T.fit) (by rw [T.lf]; exact T.a) ht hp hne ha hs
theorem xf_done (T : WwOk hq r q r2 q2 f w L H A O t z z2 kk ix x) (h : told = x.length ∨ row = ix) :
    Lrun env (.func 29) [fP f] ⟨tww hq r q r2 q2 f w A O (fB r 0 t z ix x.length row told st) W, L, H, d⟩ = some (.tuple #[.int .u8 0, .bool false], ⟨tww hq r q r2 q2 f w A O (fB r 0 t z ix x.length row told st) W, L, H, d⟩) := by
  rw [tww_f T]; exact tnext_done (by rw [T.lf]; exact T.fit) (by rw [T.lf]; exact T.a) h
theorem xf_told (T : WwOk hq r q r2 q2 f w L H A O t z z2 kk ix x) :
    Lrun env (.func 28) [fP f] ⟨tww hq r q r2 q2 f w A O (fB r 0 t z ix x.length row told st) W, L, H, d⟩ = some (.int .i64 told, ⟨tww hq r q r2 q2 f w A O (fB r 0 t z ix x.length row told st) W, L, H, d⟩) := by
  rw [tww_f T]; exact ttold_walk (by rw [T.lf]; exact T.fit) (by rw [T.lf]; exact T.a)
theorem xf_steps (T : WwOk hq r q r2 q2 f w L H A O t z z2 kk ix x) :
    Lrun env (.func 27) [fP f] ⟨tww hq r q r2 q2 f w A O (fB r 0 t z ix x.length row told st) W, L, H, d⟩ = some (.int .i64 st, ⟨tww hq r q r2 q2 f w A O (fB r 0 t z ix x.length row told st) W, L, H, d⟩) := by
  rw [tww_f T]; exact tsteps_walk (by rw [T.lf]; exact T.fit) (by rw [T.lf]; exact T.a)
theorem xf_valid (T : WwOk hq r q r2 q2 f w L H A O t z z2 kk ix x) (hs : st + x.length ≤ 1099511627776) :
    Lrun env (.func 26) [fP f] ⟨tww hq r q r2 q2 f w A O (fB r 0 t z ix x.length row told st) W, L, H, d⟩ = some (.bool (decide ((vw (fun _ => 0) x ix x.length 0 0).1 = some ix)), ⟨tww hq r q r2 q2 f w A O (fB r 0 t z ix x.length row told (vw (fun _ => 0) x ix x.length 0 st).2) W, L, H, d⟩) := by
  rw [tww_f T, tww_f T]; exact tbvalid_walk (by rw [T.lf]; exact T.fit) (by rw [T.lf]; exact T.a) hs
theorem xw_next (T : WwOk hq r q r2 q2 f w L H A O t z z2 kk ix x) (ht : told < x.length) (hs : st ≤ 1099511627776) (hp : row ≤ x.length) (hne : row ≠ ix) (ha : atR ix row < x.length) :
    Lrun env (.func 37) [wkP w] ⟨tww hq r q r2 q2 f w A O F (wB r2 0 t z2 ix kk x row told st), L, H, d⟩ = some (.tuple #[.int .u8 (x[atR ix row] : Nat), .bool true], ⟨tww hq r q r2 q2 f w A O F (wB r2 0 t z2 ix kk x (nxR x ix row) (told + 1) (st + 1 + atR ix row % kk)), L, H, d⟩) := by
  rw [tww_w T, tww_w T]; exact wB_next (by rw [T.lw]; exact T.fit) (by rw [T.lw]; exact T.o) ht hs hp hne ha
theorem xw_done (T : WwOk hq r q r2 q2 f w L H A O t z z2 kk ix x) (h : told = x.length ∨ row = ix) :
    Lrun env (.func 37) [wkP w] ⟨tww hq r q r2 q2 f w A O F (wB r2 0 t z2 ix kk x row told st), L, H, d⟩ = some (.tuple #[.int .u8 0, .bool false], ⟨tww hq r q r2 q2 f w A O F (wB r2 0 t z2 ix kk x row told st), L, H, d⟩) := by
  rw [tww_w T]; exact wB_done (by rw [T.lw]; exact T.fit) (by rw [T.lw]; exact T.o) h
theorem xw_told (T : WwOk hq r q r2 q2 f w L H A O t z z2 kk ix x) :
    Lrun env (.func 38) [wkP w] ⟨tww hq r q r2 q2 f w A O F (wB r2 0 t z2 ix kk x row told st), L, H, d⟩ = some (.int .i64 told, ⟨tww hq r q r2 q2 f w A O F (wB r2 0 t z2 ix kk x row told st), L, H, d⟩) := by
  rw [tww_w T]; exact wB_told (by rw [T.lw]; exact T.fit) (by rw [T.lw]; exact T.o)
theorem xw_steps (T : WwOk hq r q r2 q2 f w L H A O t z z2 kk ix x) :
    Lrun env (.func 36) [wkP w] ⟨tww hq r q r2 q2 f w A O F (wB r2 0 t z2 ix kk x row told st), L, H, d⟩ = some (.int .i64 st, ⟨tww hq r q r2 q2 f w A O F (wB r2 0 t z2 ix kk x row told st), L, H, d⟩) := by
  rw [tww_w T]; exact wB_steps (by rw [T.lw]; exact T.fit) (by rw [T.lw]; exact T.o)
theorem xw_valid (T : WwOk hq r q r2 q2 f w L H A O t z z2 kk ix x) (hk : kk ≤ 65536) (hs : st + x.length * 65536 ≤ 1099511627776) :
    Lrun env (.func 35) [wkP w] ⟨tww hq r q r2 q2 f w A O F (wB r2 0 t z2 ix kk x row told st), L, H, d⟩ = some (.bool (decide ((vw (fun _ => 0) x ix x.length 0 0).1 = some ix)), ⟨tww hq r q r2 q2 f w A O F (wB r2 0 t z2 ix kk x row told (vw (fun a => a % kk) x ix x.length 0 st).2), L, H, d⟩) := by
  rw [tww_w T, tww_w T]; exact wB_valid (by rw [T.lw]; exact T.fit) (by rw [T.lw]; exact T.o) hk hs
theorem both_loop (T : WwOk hq r q r2 q2 f w L H A O t z z2 kk ix x) {v : Value} (hlen : lenF v = some (.int .i64 x.length)) (hm : x.length ≤ 60) (hkk : kk ≤ 100) :
    ∀ n i row told st st2 : Nat, i + n = x.length + 1 → row ≤ x.length → told ≤ x.length → st ≤ st2 → st2 + n * 101 ≤ 100000 → ∃ fr row' told' st' st2', st' ≤ st2' ∧ st2' ≤ 100000 ∧
    Liter env lb10_0 [18, 16, 0, 20] hq.length [(18, wkP w), (16, fP f), (0, v), (20, .int .i64 i)] ⟨tww hq r q r2 q2 f w A O (fB r 0 t z ix x.length row told st) (wB r2 0 t z2 ix kk x row told st2), L, H, []⟩ =
      some (.exit 0, fr, ⟨tww hq r q r2 q2 f w A O (fB r 0 t z ix x.length row' told' st') (wB r2 0 t z2 ix kk x row' told' st2'), L, H, []⟩) ∧ fr.get 18 = some (wkP w) ∧ fr.get 16 = some (fP f)
  | 0, i, row, told, st, st2, hi, hrow, ht, hs, hs2 => by
    have c1 : ¬ (i : Int) ≤ x.length := by omega
    rw [iter_by lb10_0.eq_1]
    simp (disch := (first | omega | (simp only [lnE, put_length] <;> omega) | (refine Fit.mono ‹Fit _ _ _› ?_ <;> (simp only [lnE, put_length] <;> omega)) | (refine Fit.draw ‹Fit _ _ _› ?_ ?_ <;> (simp only [lnE, put_length] <;> omega)) | (refine Fit.hid1 ‹Fit _ _ _› ?_ ?_ <;> (simp only [lnE, put_length] <;> omega)) | (refine Fit.draw1 ‹Fit _ _ _› ?_ ?_ ?_ <;> (simp only [lnE, put_length] <;> omega)) | (refine Fit.range0 ?_ ?_ <;> (simp only [lnE, put_length] <;> omega)) | (refine ArOk.mono ‹ArOk _ _ _ _ _› ?_ <;> (simp only [lnE, put_length] <;> omega)) | (refine ArOk.hid ‹ArOk _ _ _ _ _› ?_ ?_ <;> (simp only [lnE, put_length] <;> omega)) | (refine ArOk.hid0 ‹ArOk _ _ _ _ _› ?_ ?_ <;> (simp only [lnE, put_length] <;> omega)) | ((intro xr hxr; simp [AM.refs, refsF, refsC] at hxr) <;> (simp only [lnE, put_length] <;> omega)) | fail)) only [syA, syB, argFr, D, E, T, C, undefv, eqF, aeq, sheqs, sheq, rdCells, cellsOf, fill, putAt, if_true, if_false, reduceIte, ↓reduceIte, reduceCtorEq, eq_self, Nat.reduceEqDiff, Nat.reduceAdd, Nat.reduceSub, Nat.reduceMul, Nat.reduceLT, Nat.reduceLeDiff, Nat.reducePow, Nat.reduceDiv, Nat.reduceMod, Int.reduceLT, Int.reduceLE, Int.reduceGT, Int.reduceGE, Int.reduceToNat, Int.reducePow, Int.reduceNeg, Int.reduceBEq, Int.reduceBNe, Int.reduceEq, Int.reduceAdd, Int.reduceSub, Int.reduceMul, cellv, sc, flatv, refs, refsF, refsC, syR, Int.le_refl, hlen, c1]
    exact ⟨_, row, told, st, st2, hs, by omega, rfl, rfl, rfl⟩
  | n + 1, i, row, told, st, st2, hi, hrow, ht, hs, hs2 => by
    have c1 : (i : Int) ≤ x.length := by omega
    have ir1 : ((i : Nat) : Int) + 1 = ((i + 1 : Nat) : Int) := by omega
    have hgc := fun fr F W => gcFr_same (base := hq.length) fr (tww hq r q r2 q2 f w A O F W) L H [] (by rw [tww_len]; exact Nat.le_refl _)
    have tf := fun d a b c W => xf_told (d := d) T (row := a) (told := b) (st := c) (W := W)
    have tw := fun d a b c F => xw_told (d := d) T (row := a) (told := b) (st := c) (F := F)
    by_cases hd : told = x.length ∨ row = ix
    · obtain ⟨fr, row', told', st', st2', j1, j2, g1, g2⟩ := both_loop T hlen hm hkk n (i + 1) row told st st2 (by omega) hrow ht hs (by omega)
      have n1 := fun d W => xf_done (d := d) T (st := st) (W := W) hd
      have n2 := fun d F => xw_done (d := d) T (st := st2) (F := F) hd
      rw [iter_by lb10_0.eq_1]
      simp (disch := (first | omega | (simp only [lnE, put_length] <;> omega) | (refine Fit.mono ‹Fit _ _ _› ?_ <;> (simp only [lnE, put_length] <;> omega)) | (refine Fit.draw ‹Fit _ _ _› ?_ ?_ <;> (simp only [lnE, put_length] <;> omega)) | (refine Fit.hid1 ‹Fit _ _ _› ?_ ?_ <;> (simp only [lnE, put_length] <;> omega)) | (refine Fit.draw1 ‹Fit _ _ _› ?_ ?_ ?_ <;> (simp only [lnE, put_length] <;> omega)) | (refine Fit.range0 ?_ ?_ <;> (simp only [lnE, put_length] <;> omega)) | (refine ArOk.mono ‹ArOk _ _ _ _ _› ?_ <;> (simp only [lnE, put_length] <;> omega)) | (refine ArOk.hid ‹ArOk _ _ _ _ _› ?_ ?_ <;> (simp only [lnE, put_length] <;> omega)) | (refine ArOk.hid0 ‹ArOk _ _ _ _ _› ?_ ?_ <;> (simp only [lnE, put_length] <;> omega)) | ((intro xr hxr; simp [AM.refs, refsF, refsC] at hxr) <;> (simp only [lnE, put_length] <;> omega)) | fail)) only [syA, syB, argFr, D, E, T, C, undefv, eqF, aeq, sheqs, sheq, rdCells, cellsOf, fill, putAt, if_true, if_false, reduceIte, ↓reduceIte, reduceCtorEq, eq_self, Nat.reduceEqDiff, Nat.reduceAdd, Nat.reduceSub, Nat.reduceMul, Nat.reduceLT, Nat.reduceLeDiff, Nat.reducePow, Nat.reduceDiv, Nat.reduceMod, Int.reduceLT, Int.reduceLE, Int.reduceGT, Int.reduceGE, Int.reduceToNat, Int.reducePow, Int.reduceNeg, Int.reduceBEq, Int.reduceBNe, Int.reduceEq, Int.reduceAdd, Int.reduceSub, Int.reduceMul, cellv, sc, flatv, refs, refsF, refsC, syR, Int.le_refl, hlen, c1, ir1, n1, n2, tf, tw, hgc, g1]
      exact ⟨fr, row', told', st', st2', j1, j2, rfl, g2⟩
    · have hri : row ≠ ix := fun h => hd (.inr h)
      have hx := atR_lt' hrow T.a.ixm hri
      have hnx := nxR_le hrow T.a.ixm hri
      have htl : told < x.length := by
        rcases Nat.lt_or_ge told x.length with h | h
        · exact h
        · exact absurd (.inl (by omega)) hd
      have hmod : atR ix row % kk < kk := Nat.mod_lt _ (by have := T.o.kk1; omega)
      obtain ⟨fr, row', told', st', st2', j1, j2, g1, g2⟩ := both_loop T hlen hm hkk n (i + 1) (nxR x ix row) (told + 1) (st + 1) (st2 + 1 + atR ix row % kk) (by omega) hnx (by omega) (by omega) (by omega)
      have n1 := fun d W => xf_next (d := d) T (st := st) (W := W) htl hrow hri hx (by omega)
      have n2 := fun d F => xw_next (d := d) T (st := st2) (F := F) htl (by omega) hrow hri hx
      generalize x[atR ix row] = y at *
      generalize nxR x ix row = nx at *
      generalize st2 + 1 + atR ix row % kk = ns at *
      have hbe : ((y : Int) != y) = false := by simp
      rw [iter_by lb10_0.eq_1]
      simp (disch := (first | omega | (simp only [lnE, put_length] <;> omega) | (refine Fit.mono ‹Fit _ _ _› ?_ <;> (simp only [lnE, put_length] <;> omega)) | (refine Fit.draw ‹Fit _ _ _› ?_ ?_ <;> (simp only [lnE, put_length] <;> omega)) | (refine Fit.hid1 ‹Fit _ _ _› ?_ ?_ <;> (simp only [lnE, put_length] <;> omega)) | (refine Fit.draw1 ‹Fit _ _ _› ?_ ?_ ?_ <;> (simp only [lnE, put_length] <;> omega)) | (refine Fit.range0 ?_ ?_ <;> (simp only [lnE, put_length] <;> omega)) | (refine ArOk.mono ‹ArOk _ _ _ _ _› ?_ <;> (simp only [lnE, put_length] <;> omega)) | (refine ArOk.hid ‹ArOk _ _ _ _ _› ?_ ?_ <;> (simp only [lnE, put_length] <;> omega)) | (refine ArOk.hid0 ‹ArOk _ _ _ _ _› ?_ ?_ <;> (simp only [lnE, put_length] <;> omega)) | ((intro xr hxr; simp [AM.refs, refsF, refsC] at hxr) <;> (simp only [lnE, put_length] <;> omega)) | fail)) only [syA, syB, argFr, D, E, T, C, undefv, eqF, aeq, sheqs, sheq, rdCells, cellsOf, fill, putAt, if_true, if_false, reduceIte, ↓reduceIte, reduceCtorEq, eq_self, Nat.reduceEqDiff, Nat.reduceAdd, Nat.reduceSub, Nat.reduceMul, Nat.reduceLT, Nat.reduceLeDiff, Nat.reducePow, Nat.reduceDiv, Nat.reduceMod, Int.reduceLT, Int.reduceLE, Int.reduceGT, Int.reduceGE, Int.reduceToNat, Int.reducePow, Int.reduceNeg, Int.reduceBEq, Int.reduceBNe, Int.reduceEq, Int.reduceAdd, Int.reduceSub, Int.reduceMul, cellv, sc, flatv, refs, refsF, refsC, syR, Int.le_refl, hlen, c1, ir1, n1, n2, tf, tw, hgc, hbe, g1]
      exact ⟨fr, row', told', st', st2', j1, j2, rfl, g2⟩
end
theorem rks_taken {l : List Nat} {sz : Nat} : (Arn.laid (l.length + sz + 1) (List.replicate (l.length + sz) 0)).part 0 l.length 0 l.length = true ∧ (Arn.laid (l.length + sz + 1) (List.replicate (l.length + sz) 0)).store 0 l.length 0 l = Arn.laid (l.length + sz + 1) (l ++ List.replicate sz 0) := by
  have hp : (Arn.laid (l.length + sz + 1) (List.replicate (l.length + sz) 0)).part 0 l.length 0 l.length = true := by
    rw [Arn.part_iff]; simp [Arn.laid]; omega
  refine ⟨hp, ?_⟩
  unfold Arn.store
  rw [if_pos hp]
  unfold Arn.setAt Arn.laid
  simp only [Int.zero_add, Int.toNat_zero, List.length_replicate, List.length_append, Arn.mk.injEq]
  refine ⟨?_, by first | rfl | simp | omega, by first | rfl | simp | omega⟩
  rw [show l.length + sz + 1 - (l.length + sz) = 1 by omega, List.replicate_append_replicate]
  unfold putN
  simp only [List.take_zero, List.nil_append, Nat.zero_add, List.drop_replicate]
  rw [List.append_assoc, List.replicate_append_replicate, show l.length + sz + 1 - l.length = sz + 1 by omega]
set_option maxRecDepth 40000 in
theorem twalk_run {hp : List Blk} {v : Value} {x : List Nat} (hr : Rd ⟨hp, hp.length, [], []⟩ v x) (ix : Int) (hi0 : -9223372036854775808 ≤ ix) (hi1 : ix ≤ 9223372036854775807) (kk : Int) (hk0 : -9223372036854775808 ≤ kk) (hk1 : kk ≤ 9223372036854775807) :
    ∃ σ', Lrun env (.func 10) [v, .int .i64 ix, .int .i64 kk] ⟨hp, hp.length, [], []⟩ = some (.bool true, σ') := by
  have hF : Fit hp.length hp.length [] := ⟨Nat.le_refl _, Low.nil _⟩
  have hlen := hr.lenF
  rw [Lrun_sym 10 _ _ fn10]
  by_cases g1 : (x.length : Int) = 0
  · simp (disch := (first | omega | (simp only [lnE] <;> omega) | (refine Fit.mono ‹Fit _ _ _› ?_ <;> (simp only [lnE] <;> omega)) | (refine Fit.draw ‹Fit _ _ _› ?_ ?_ <;> (simp only [lnE] <;> omega)) | (refine Fit.hid1 ‹Fit _ _ _› ?_ ?_ <;> (simp only [lnE] <;> omega)) | (refine Fit.draw1 ‹Fit _ _ _› ?_ ?_ ?_ <;> (simp only [lnE] <;> omega)) | (refine Fit.range0 ?_ ?_ <;> (simp only [lnE] <;> omega)) | fail)) only [syA, syB, argFr, D, E, T, C, undefv, eqF, aeq, sheqs, sheq, rdCells, cellsOf, fill, putAt, if_true, if_false, reduceIte, ↓reduceIte, reduceCtorEq, eq_self, Nat.reduceEqDiff, Nat.reduceAdd, Nat.reduceSub, Nat.reduceMul, Nat.reduceLT, Nat.reduceLeDiff, Nat.reducePow, Nat.reduceDiv, Nat.reduceMod, Int.reduceLT, Int.reduceLE, Int.reduceGT, Int.reduceGE, Int.reduceToNat, Int.reducePow, Int.reduceNeg, Int.reduceBEq, Int.reduceBNe, Int.reduceEq, Int.reduceAdd, Int.reduceSub, Int.reduceMul, cellv, sc, flatv, refs, refsF, refsC, hF.not0, hF.not1, hF.up0, hF.up1, ac10, hlen, g1, wakes22_walk]
    exact ⟨_, rfl⟩
  have g1' : ((x.length : Int) == 0) = false := by rw [beq_eq_false_iff_ne]; exact g1
  by_cases g2 : (x.length : Int) > 60
  · simp (disch := (first | omega | (simp only [lnE] <;> omega) | (refine Fit.mono ‹Fit _ _ _› ?_ <;> (simp only [lnE] <;> omega)) | (refine Fit.draw ‹Fit _ _ _› ?_ ?_ <;> (simp only [lnE] <;> omega)) | (refine Fit.hid1 ‹Fit _ _ _› ?_ ?_ <;> (simp only [lnE] <;> omega)) | (refine Fit.draw1 ‹Fit _ _ _› ?_ ?_ ?_ <;> (simp only [lnE] <;> omega)) | (refine Fit.range0 ?_ ?_ <;> (simp only [lnE] <;> omega)) | fail)) only [syA, syB, argFr, D, E, T, C, undefv, eqF, aeq, sheqs, sheq, rdCells, cellsOf, fill, putAt, if_true, if_false, reduceIte, ↓reduceIte, reduceCtorEq, eq_self, Nat.reduceEqDiff, Nat.reduceAdd, Nat.reduceSub, Nat.reduceMul, Nat.reduceLT, Nat.reduceLeDiff, Nat.reducePow, Nat.reduceDiv, Nat.reduceMod, Int.reduceLT, Int.reduceLE, Int.reduceGT, Int.reduceGE, Int.reduceToNat, Int.reducePow, Int.reduceNeg, Int.reduceBEq, Int.reduceBNe, Int.reduceEq, Int.reduceAdd, Int.reduceSub, Int.reduceMul, cellv, sc, flatv, refs, refsF, refsC, hF.not0, hF.not1, hF.up0, hF.up1, ac10, hlen, g1', g2, wakes22_walk]
    exact ⟨_, rfl⟩
  by_cases g3 : ix < 1
  · simp (disch := (first | omega | (simp only [lnE] <;> omega) | (refine Fit.mono ‹Fit _ _ _› ?_ <;> (simp only [lnE] <;> omega)) | (refine Fit.draw ‹Fit _ _ _› ?_ ?_ <;> (simp only [lnE] <;> omega)) | (refine Fit.hid1 ‹Fit _ _ _› ?_ ?_ <;> (simp only [lnE] <;> omega)) | (refine Fit.draw1 ‹Fit _ _ _› ?_ ?_ ?_ <;> (simp only [lnE] <;> omega)) | (refine Fit.range0 ?_ ?_ <;> (simp only [lnE] <;> omega)) | fail)) only [syA, syB, argFr, D, E, T, C, undefv, eqF, aeq, sheqs, sheq, rdCells, cellsOf, fill, putAt, if_true, if_false, reduceIte, ↓reduceIte, reduceCtorEq, eq_self, Nat.reduceEqDiff, Nat.reduceAdd, Nat.reduceSub, Nat.reduceMul, Nat.reduceLT, Nat.reduceLeDiff, Nat.reducePow, Nat.reduceDiv, Nat.reduceMod, Int.reduceLT, Int.reduceLE, Int.reduceGT, Int.reduceGE, Int.reduceToNat, Int.reducePow, Int.reduceNeg, Int.reduceBEq, Int.reduceBNe, Int.reduceEq, Int.reduceAdd, Int.reduceSub, Int.reduceMul, cellv, sc, flatv, refs, refsF, refsC, hF.not0, hF.not1, hF.up0, hF.up1, ac10, hlen, g1', g2, g3, wakes22_walk]
    exact ⟨_, rfl⟩
  by_cases g4 : ix > x.length
  · simp (disch := (first | omega | (simp only [lnE] <;> omega) | (refine Fit.mono ‹Fit _ _ _› ?_ <;> (simp only [lnE] <;> omega)) | (refine Fit.draw ‹Fit _ _ _› ?_ ?_ <;> (simp only [lnE] <;> omega)) | (refine Fit.hid1 ‹Fit _ _ _› ?_ ?_ <;> (simp only [lnE] <;> omega)) | (refine Fit.draw1 ‹Fit _ _ _› ?_ ?_ ?_ <;> (simp only [lnE] <;> omega)) | (refine Fit.range0 ?_ ?_ <;> (simp only [lnE] <;> omega)) | fail)) only [syA, syB, argFr, D, E, T, C, undefv, eqF, aeq, sheqs, sheq, rdCells, cellsOf, fill, putAt, if_true, if_false, reduceIte, ↓reduceIte, reduceCtorEq, eq_self, Nat.reduceEqDiff, Nat.reduceAdd, Nat.reduceSub, Nat.reduceMul, Nat.reduceLT, Nat.reduceLeDiff, Nat.reducePow, Nat.reduceDiv, Nat.reduceMod, Int.reduceLT, Int.reduceLE, Int.reduceGT, Int.reduceGE, Int.reduceToNat, Int.reducePow, Int.reduceNeg, Int.reduceBEq, Int.reduceBNe, Int.reduceEq, Int.reduceAdd, Int.reduceSub, Int.reduceMul, cellv, sc, flatv, refs, refsF, refsC, hF.not0, hF.not1, hF.up0, hF.up1, ac10, hlen, g1', g2, g3, g4, wakes22_walk]
    exact ⟨_, rfl⟩
  by_cases g5 : kk < 1
  · simp (disch := (first | omega | (simp only [lnE] <;> omega) | (refine Fit.mono ‹Fit _ _ _› ?_ <;> (simp only [lnE] <;> omega)) | (refine Fit.draw ‹Fit _ _ _› ?_ ?_ <;> (simp only [lnE] <;> omega)) | (refine Fit.hid1 ‹Fit _ _ _› ?_ ?_ <;> (simp only [lnE] <;> omega)) | (refine Fit.draw1 ‹Fit _ _ _› ?_ ?_ ?_ <;> (simp only [lnE] <;> omega)) | (refine Fit.range0 ?_ ?_ <;> (simp only [lnE] <;> omega)) | fail)) only [syA, syB, argFr, D, E, T, C, undefv, eqF, aeq, sheqs, sheq, rdCells, cellsOf, fill, putAt, if_true, if_false, reduceIte, ↓reduceIte, reduceCtorEq, eq_self, Nat.reduceEqDiff, Nat.reduceAdd, Nat.reduceSub, Nat.reduceMul, Nat.reduceLT, Nat.reduceLeDiff, Nat.reducePow, Nat.reduceDiv, Nat.reduceMod, Int.reduceLT, Int.reduceLE, Int.reduceGT, Int.reduceGE, Int.reduceToNat, Int.reducePow, Int.reduceNeg, Int.reduceBEq, Int.reduceBNe, Int.reduceEq, Int.reduceAdd, Int.reduceSub, Int.reduceMul, cellv, sc, flatv, refs, refsF, refsC, hF.not0, hF.not1, hF.up0, hF.up1, ac10, hlen, g1', g2, g3, g4, g5, wakes22_walk]
    exact ⟨_, rfl⟩
  by_cases g6 : kk > 100
  · simp (disch := (first | omega | (simp only [lnE] <;> omega) | (refine Fit.mono ‹Fit _ _ _› ?_ <;> (simp only [lnE] <;> omega)) | (refine Fit.draw ‹Fit _ _ _› ?_ ?_ <;> (simp only [lnE] <;> omega)) | (refine Fit.hid1 ‹Fit _ _ _› ?_ ?_ <;> (simp only [lnE] <;> omega)) | (refine Fit.draw1 ‹Fit _ _ _› ?_ ?_ ?_ <;> (simp only [lnE] <;> omega)) | (refine Fit.range0 ?_ ?_ <;> (simp only [lnE] <;> omega)) | fail)) only [syA, syB, argFr, D, E, T, C, undefv, eqF, aeq, sheqs, sheq, rdCells, cellsOf, fill, putAt, if_true, if_false, reduceIte, ↓reduceIte, reduceCtorEq, eq_self, Nat.reduceEqDiff, Nat.reduceAdd, Nat.reduceSub, Nat.reduceMul, Nat.reduceLT, Nat.reduceLeDiff, Nat.reducePow, Nat.reduceDiv, Nat.reduceMod, Int.reduceLT, Int.reduceLE, Int.reduceGT, Int.reduceGE, Int.reduceToNat, Int.reducePow, Int.reduceNeg, Int.reduceBEq, Int.reduceBNe, Int.reduceEq, Int.reduceAdd, Int.reduceSub, Int.reduceMul, cellv, sc, flatv, refs, refsF, refsC, hF.not0, hF.not1, hF.up0, hF.up1, ac10, hlen, g1', g2, g3, g4, g5, g6, wakes22_walk]
    exact ⟨_, rfl⟩
  obtain ⟨ix, rfl⟩ := Int.eq_ofNat_of_zero_le (by omega : 0 ≤ ix)
  obtain ⟨kk, rfl⟩ := Int.eq_ofNat_of_zero_le (by omega : 0 ≤ kk)
  have hdv : x.length / kk ≤ x.length := Nat.div_le_self _ _
  obtain ⟨sz, hszn⟩ : ∃ sz, 4 * (256 * (x.length / kk)) = sz := ⟨_, rfl⟩
  have hm : 1024 * (x.length : Int).tdiv kk = (sz : Int) := by
    rw [show (x.length : Int).tdiv (kk : Int) = ((x.length / kk : Nat) : Int) from rfl]; omega
  have hbd2 : 0 ≤ (x.length : Int).tdiv kk ∧ (x.length : Int).tdiv kk ≤ 65536 := by omega
  have hsz2 : rSize x.length kk = sz := by rw [← hszn]; exact rSize_nat (by omega) (by omega)
  have hk0' : ¬ (kk : Int) = 0 := by omega
  have ld := laid22_walk (d := []) hF hr (by omega)
  have tv0 := tvalid_rl (l := x) (by omega) (by omega)
  have kA0 : ArOk (hp.length + 2) hp.length (hp.length + 1) [] (rl x (4 * x.length + 4 + 4)) := rl_ok (by omega) (by omega) (by omega) rfl rfl hr.by_ (by omega)
  have hA0 := rl_holds x (4 * x.length + 4 + 4)
  have hAl : (rl x (4 * x.length + 4 + 4)).live = ((x.length + (4 * x.length + 4 + 4) + 1 : Nat) : Int) := rl_live _ _
  obtain ⟨sa, hsa⟩ : ∃ sa, 4 * x.length + 4 = sa := ⟨_, rfl⟩
  rw [hsa] at ld tv0 kA0 hA0 hAl
  generalize rl x (sa + 4) = A0 at *
  have hN : ((x.length + sz + 1 : Nat) : Int).toNat = x.length + sz + 1 := by omega
  have hc : (x.length : Int) + sz + 1 = ((x.length + sz + 1 : Nat) : Int) := by omega
  have c1 : ((x.length + sz + 1 : Nat) : Int) ≤ 1048576 := by omega
  have c3 : (1 : Int) ≤ ((x.length + sz + 1 : Nat) : Int) := by omega
  have hz : ∀ n, By (List.replicate n 0) := fun n x hx => by rw [List.mem_replicate] at hx; omega
  have t1 := laid_taken (N := x.length + sz + 1) (l := []) (m := x.length) (by simp; omega)
  have t2 := laid_taken (N := x.length + sz + 1) (l := List.replicate x.length 0) (m := sz) (by first | (simp; done) | (simp; omega))
  rw [List.replicate_append_replicate, List.length_replicate] at t2
  simp only [List.nil_append, List.length_nil, Int.natCast_zero] at t1
  rw [← new_laid] at t1
  obtain ⟨p1, p2⟩ := rks_taken (l := x) (sz := sz)
  have k0 : ArOk (hp.length + 6) (hp.length + 4) (hp.length + 4 + 1) [] (Arn.new (x.length + sz + 1)) := ArOk.new (by omega) (by omega) (by omega) (by omega) rfl rfl
  have k1 : ArOk (hp.length + 6) (hp.length + 4) (hp.length + 4 + 1) [] (Arn.laid (x.length + sz + 1) (List.replicate x.length 0)) := ArOk.laid (by omega) (by omega) (by omega) (hz _) (by first | (simp; done) | (simp; omega)) (by omega) rfl rfl
  have k2 : ArOk (hp.length + 6) (hp.length + 4) (hp.length + 4 + 1) [] (Arn.laid (x.length + sz + 1) (List.replicate (x.length + sz) 0)) := ArOk.laid (by omega) (by omega) (by omega) (hz _) (by first | (simp; done) | (simp; omega)) (by omega) rfl rfl
  have k3 : ArOk (hp.length + 6) (hp.length + 4) (hp.length + 4 + 1) [] (Arn.laid (x.length + sz + 1) (x ++ List.replicate sz 0)) := ArOk.laid (by omega) (by omega) (by omega) (hr.by_.append (hz _)) (by first | (simp; done) | (simp; omega)) (by omega) rfl rfl
  have hO : Holds (Arn.laid (x.length + sz + 1) (x ++ List.replicate sz 0)) 0 x := ⟨by first | (simp [Arn.laid]; done) | (simp [Arn.laid]; omega), fun i hi => by
    unfold Arn.laid
    simp only [Nat.zero_add]
    rw [List.append_assoc, List.getElem?_append_left hi, List.getElem?_eq_getElem hi]⟩
  have hOv : rValid (Arn.laid (x.length + sz + 1) (x ++ List.replicate sz 0)) (0 : Nat) x.length x.length sz kk = true := by
    have a1 : (Arn.laid (x.length + sz + 1) (x ++ List.replicate sz 0)).has (0 : Nat) x.length = true := by rw [Arn.has_iff]; simp [Arn.laid]; omega
    have a2 : (Arn.laid (x.length + sz + 1) (x ++ List.replicate sz 0)).has x.length sz = true := by rw [Arn.has_iff]; simp [Arn.laid]; omega
    unfold rValid rApart
    rw [a1, a2, hsz2]
    simp; omega
  have e6 : ∀ (B0 B1 : Blk) (nw : List Blk), hp.length + 6 ≤ (put (hp ++ (default :: default :: B0 :: B1 :: default :: default :: nw)) hp.length (hp.length + 1) A0).length := fun _ _ _ => by simp [put_length]
  have f6 : ∀ (B0 B1 : Blk) (nw : List Blk), Fit (put (hp ++ (default :: default :: B0 :: B1 :: default :: default :: nw)) hp.length (hp.length + 1) A0).length hp.length [] := fun _ _ _ => ⟨by simp [put_length], Low.nil _⟩
  have tk1 := fun B0 B1 nw => take_walk (d := []) (r := hp.length + 4) (q := hp.length + 4 + 1) (f6 B0 B1 nw) (k0.mono (e6 B0 B1 nw)) (by omega) x.length
  have tk2 := fun B0 B1 nw => take_walk (d := []) (r := hp.length + 4) (q := hp.length + 4 + 1) (f6 B0 B1 nw) (k1.mono (e6 B0 B1 nw)) (by omega) sz
  have st := fun B0 B1 nw => store_walk (d := []) (r := hp.length + 4) (q := hp.length + 4 + 1) (by omega : x.length ≤ 1048576) (f6 B0 B1 nw) (k2.mono (e6 B0 B1 nw)) (by omega) 0 x.length 0 (v := v) (l := x) (fun nw' => Rd_keep hr (fun i hi => by
    rw [put_o (by omega) (by omega), List.getElem?_append_left (by first | (simp [put_length]; done) | (simp [put_length]; omega)), put_o (by omega) (by omega), List.getElem?_append_left hi]))
  simp only [t1] at tk1
  simp only [t2] at tk2
  simp only [p1, p2] at st
  generalize Arn.laid (x.length + sz + 1) (x ++ List.replicate sz 0) = O at *
  have nw := fun B0 B1 => new_walk (d := []) (hp := put (hp ++ [default, default, B0, B1]) hp.length (hp.length + 1) A0) (L := hp.length) (H := []) ⟨by simp [put_length], Low.nil _⟩ ((x.length + sz + 1 : Nat) : Int) c3 c1
  have hlz : ∀ (l : List Blk) (n : Nat), l.length = n → (put (hp ++ l) hp.length (hp.length + 1) A0).length = hp.length + n := fun l n h => by simp [put_length, h]
  -- the walk with a table
  obtain ⟨A1, n1, m1, hA1, kA1⟩ := tnew_walk (ix := ix) (t := x.length) (z := sa) (x := x) (s := 0) (hp := put (hp ++ [default, default, .cells 0 true [.int .i64 0, .int .i64 x.length], .cells 0 true [.int .i64 x.length, .int .i64 sa], default, default, .cells 0 true [.int .i64 0, .int .i64 x.length], .cells 0 true [.int .i64 x.length, .int .i64 sz]]) (hp.length + 4) (hp.length + 4 + 1) O) (L := hp.length) (H := []) (r := hp.length) (q := hp.length + 1) (A := A0) ⟨by simp [put_length], Low.nil _⟩ (kA0.mono (by simp [put_length])) (by omega) hA0 tv0 hr.by_ (by omega)
  obtain ⟨FB, hFB⟩ : ∃ FB, FB = fB hp.length 0 x.length sa ix x.length 0 0 0 := ⟨_, rfl⟩
  rw [← hFB] at n1
  have n1' : ∀ d, Lrun env (.func 18) [arP hp.length, .agg #[.int .i64 0, .int .i64 x.length], .int .i64 ix, .agg #[.int .i64 x.length, .int .i64 sa]] ⟨put (put (hp ++ [default, default, .cells 0 true [.int .i64 0, .int .i64 x.length], .cells 0 true [.int .i64 x.length, .int .i64 sa], default, default, .cells 0 true [.int .i64 0, .int .i64 x.length], .cells 0 true [.int .i64 x.length, .int .i64 sz]]) hp.length (hp.length + 1) A0) (hp.length + 4) (hp.length + 4 + 1) O, hp.length, [], d⟩ =
      some (.tuple #[fP (hp.length + 8), .int .i64 0], ⟨put (put (hp ++ [default, default, .cells 0 true [.int .i64 0, .int .i64 x.length], .cells 0 true [.int .i64 x.length, .int .i64 sa], default, default, .cells 0 true [.int .i64 0, .int .i64 x.length], .cells 0 true [.int .i64 x.length, .int .i64 sz], FB]) hp.length (hp.length + 1) A1) (hp.length + 4) (hp.length + 4 + 1) O, hp.length, [], d⟩) := fun d => by
    have h := n1 d
    have cm : ∀ (l : List Blk) (A : Arn), put (put (hp ++ l) (hp.length + 4) (hp.length + 4 + 1) O) hp.length (hp.length + 1) A = put (put (hp ++ l) hp.length (hp.length + 1) A) (hp.length + 4) (hp.length + 4 + 1) O := fun l A => put_comm (by omega) (by omega) (by omega) (by omega)
    rw [put_app (by simp) (by simp), List.append_assoc] at h
    simp only [cm, put_length, List.length_append, List.length_cons, List.length_nil, Nat.zero_add, Nat.reduceAdd, List.append_assoc, List.cons_append, List.nil_append, Int.natCast_zero] at h
    exact h
  -- the walk with ranks
  obtain ⟨O1, n2, m2, rk2, hO1, kO1⟩ := rnew_walk (ix := ix) (kk := kk) (t := x.length) (z := sz) (x := x) (s := 0) (hp := put (hp ++ [default, default, .cells 0 true [.int .i64 0, .int .i64 x.length], .cells 0 true [.int .i64 x.length, .int .i64 sa], default, default, .cells 0 true [.int .i64 0, .int .i64 x.length], .cells 0 true [.int .i64 x.length, .int .i64 sz], FB]) hp.length (hp.length + 1) A1) (L := hp.length) (H := []) (r := hp.length + 4) (q := hp.length + 4 + 1) (A := O) ⟨by simp [put_length], Low.nil _⟩ (k3.mono (by simp [put_length])) (by omega) hO hOv (by omega)
  have vO1 : rValid O1 (0 : Nat) x.length x.length sz kk = true := by rw [rValid_live m2.live]; exact hOv
  obtain ⟨WB, hWB⟩ : ∃ WB, WB = wB (hp.length + 4) 0 x.length sz ix kk x 0 0 0 := ⟨_, rfl⟩
  have n2' : ∀ d, Lrun env (.func 34) [arP (hp.length + 4), .agg #[.int .i64 0, .int .i64 x.length], .int .i64 ix, .agg #[.int .i64 x.length, .int .i64 sz], .int .i64 kk] ⟨put (put (hp ++ [default, default, .cells 0 true [.int .i64 0, .int .i64 x.length], .cells 0 true [.int .i64 x.length, .int .i64 sa], default, default, .cells 0 true [.int .i64 0, .int .i64 x.length], .cells 0 true [.int .i64 x.length, .int .i64 sz], FB]) hp.length (hp.length + 1) A1) (hp.length + 4) (hp.length + 4 + 1) O, hp.length, [], d⟩ =
      some (.tuple #[wkP (hp.length + 9), .int .i64 0], ⟨put (put (hp ++ [default, default, .cells 0 true [.int .i64 0, .int .i64 x.length], .cells 0 true [.int .i64 x.length, .int .i64 sa], default, default, .cells 0 true [.int .i64 0, .int .i64 x.length], .cells 0 true [.int .i64 x.length, .int .i64 sz], FB, WB]) hp.length (hp.length + 1) A1) (hp.length + 4) (hp.length + 4 + 1) O1, hp.length, [], d⟩) := fun d => by
    have h := n2 d
    rw [put_app (by simp) (by simp)] at h
    simp only [put_length, List.length_append, List.length_cons, List.length_nil, Nat.zero_add, Nat.reduceAdd, List.append_assoc, List.cons_append, List.nil_append, Int.natCast_zero] at h
    rw [hWB]
    exact h
  obtain ⟨hq, hqe⟩ : ∃ hq, hq = hp ++ [default, default, .cells 0 true [.int .i64 0, .int .i64 x.length], .cells 0 true [.int .i64 x.length, .int .i64 sa], default, default, .cells 0 true [.int .i64 0, .int .i64 x.length], .cells 0 true [.int .i64 x.length, .int .i64 sz], default, default] := ⟨_, rfl⟩
  have hql : hq.length = hp.length + 10 := by rw [hqe]; simp
  have hset : ∀ F W, tww hq hp.length (hp.length + 1) (hp.length + 4) (hp.length + 4 + 1) (hp.length + 8) (hp.length + 9) A1 O1 F W = put (put (hp ++ [default, default, .cells 0 true [.int .i64 0, .int .i64 x.length], .cells 0 true [.int .i64 x.length, .int .i64 sa], default, default, .cells 0 true [.int .i64 0, .int .i64 x.length], .cells 0 true [.int .i64 x.length, .int .i64 sz], F, W]) hp.length (hp.length + 1) A1) (hp.length + 4) (hp.length + 4 + 1) O1 := fun F W => by
    unfold tww; rw [hqe]; simp only [set_new, List.set_cons_succ, List.set_cons_zero]
  have kA2 : ArOk (hp.length + 2) hp.length (hp.length + 1) [] A1 := m1.ok kA0
  have kO2 : ArOk (hp.length + 6) (hp.length + 4) (hp.length + 4 + 1) [] O1 := m2.ok k3
  have T : WwOk hq hp.length (hp.length + 1) (hp.length + 4) (hp.length + 4 + 1) (hp.length + 8) (hp.length + 9) hp.length [] A1 O1 x.length sa sz kk ix x := {
    fit := ⟨by omega, Low.nil _⟩
    a := ⟨kA2.mono (by omega), hA1, fun w hw => m1.wordV (n := x.length + 1) (by rw [hAl]; omega) (by omega) (by omega) (by omega) (by omega) hw (by omega), by omega, by omega, by omega, by omega, by omega, rfl, by omega, hr.by_⟩
    o := ⟨kO2.mono (by omega), hO1, vO1, by omega, by omega, rk2, by omega, by omega, by omega, by omega, rfl, by omega, hr.by_⟩
    rr := by omega
    rq := by omega
    qr := by omega
    qq := by omega
    fw := by omega
    rw_ := by omega
    qw := by omega
    fr2 := by omega
    fq2 := by omega }
  obtain ⟨fr, row', told', st', st2', j1, j2, e1, e2, e3⟩ := both_loop T hlen (by omega) (by omega) (x.length + 1) 0 0 0 0 0 (by omega) (by omega) (by omega) (by omega) (by omega)
  have v1 := fun d W => xf_valid (d := d) T (row := row') (told := told') (st := st') (W := W) (by omega)
  have v2 := fun d F => xw_valid (d := d) T (row := row') (told := told') (st := st2') (F := F) (by omega) (by omega)
  have s1 := fun d W => xf_steps (d := d) T (row := row') (told := told') (st := (vw (fun _ => 0) x ix x.length 0 st').2) (W := W)
  have s2 := fun d F => xw_steps (d := d) T (row := row') (told := told') (st := (vw (fun a => a % kk) x ix x.length 0 st2').2) (F := F)
  have hmo := vw_mono (k := kk) (x := x) (ix := ix) x.length 0 st' st2' j1
  generalize (vw (fun _ => 0) x ix x.length 0 st').2 = S1 at *
  generalize (vw (fun a => a % kk) x ix x.length 0 st2').2 = S2 at *
  generalize (vw (fun _ => 0) x ix x.length 0 0).1 = V at *
  have hle : ((S1 : Nat) : Int) ≤ (S2 : Nat) := by omega
  rw [← hFB, ← hWB] at e1
  simp only [hset, hql] at e1 v1 v2 s1 s2
  simp only [put_length, List.length_append, List.length_cons, List.length_nil, Nat.zero_add, Nat.reduceAdd, List.append_assoc, List.cons_append, List.nil_append, Int.natCast_zero, Nat.add_zero, Int.natCast_one, hN] at e1 ld tk1 tk2 st nw
  simp (disch := (first | omega | (simp only [lnE, put_length] <;> omega) | (refine Fit.mono ‹Fit _ _ _› ?_ <;> (simp only [lnE, put_length] <;> omega)) | (refine Fit.draw ‹Fit _ _ _› ?_ ?_ <;> (simp only [lnE, put_length] <;> omega)) | (refine Fit.hid1 ‹Fit _ _ _› ?_ ?_ <;> (simp only [lnE, put_length] <;> omega)) | (refine Fit.draw1 ‹Fit _ _ _› ?_ ?_ ?_ <;> (simp only [lnE, put_length] <;> omega)) | (refine Fit.range0 ?_ ?_ <;> (simp only [lnE, put_length] <;> omega)) | (refine ArOk.mono ‹ArOk _ _ _ _ _› ?_ <;> (simp only [lnE, put_length] <;> omega)) | (refine ArOk.hid ‹ArOk _ _ _ _ _› ?_ ?_ <;> (simp only [lnE, put_length] <;> omega)) | (refine ArOk.hid0 ‹ArOk _ _ _ _ _› ?_ ?_ <;> (simp only [lnE, put_length] <;> omega)) | ((intro xr hxr; simp [AM.refs, refsF, refsC] at hxr) <;> (simp only [lnE, put_length] <;> omega)) | fail)) only [syA, syB, argFr, D, E, T, C, undefv, eqF, aeq, sheqs, sheq, rdCells, cellsOf, fill, putAt, if_true, if_false, reduceIte, ↓reduceIte, reduceCtorEq, eq_self, Nat.reduceEqDiff, Nat.reduceAdd, Nat.reduceSub, Nat.reduceMul, Nat.reduceLT, Nat.reduceLeDiff, Nat.reducePow, Nat.reduceDiv, Nat.reduceMod, Int.reduceLT, Int.reduceLE, Int.reduceGT, Int.reduceGE, Int.reduceToNat, Int.reducePow, Int.reduceNeg, Int.reduceBEq, Int.reduceBNe, Int.reduceEq, Int.reduceAdd, Int.reduceSub, Int.reduceMul, cellv, sc, flatv, refs, refsF, refsC, syR, Int.le_refl, hF.not0, hF.not1, hF.up0, hF.up1, ac10, hlen, g1', g2, g3, g4, g5, g6, ld, nw, hm, hbd2, hk0', hc, tk1, tk2, st, n1', n2', e1, e2, e3, v1, v2, s1, s2, hle, wakes22_walk]
  exact AM.gc_bool _ _ _ _ _ _
end ArA
end Go.Proofs.Ytlbdgbfblgjjgaa
