/-
  THE TRANSFORM BY BUCKETS: the passes, on the abstract machine. Conditions: none.
-/
import Derived.Test.YtlphmnhkkhcjfaaHbI
set_option linter.all false
namespace Go.Proofs.Ytlphmnhkkhcjfaa
namespace ArA
open Go Go.RowKit AM ArEnv
section
variable {L : Nat} {H d : List Nat} {r q f l g b5 b6 : Nat} {A : Arn} {s t z n room cs row pas : Nat} {x o : List Nat} {W : Nat → Nat}
def outSt (r g l b5 b6 ix row room pas at_ : Nat) : Fr := [(8, .int .i64 ix), (15, .int .i64 row), (12, .int .i64 room), (9, .int .i64 pas), (11, .pointer (some ⟨g, 0, some 0⟩)), (14, .int .i64 at_), (6, .pointer (some ⟨b6, 0, some 0⟩)), (0, arP r), (13, .pointer (some ⟨l, 0, some 0⟩)), (5, .pointer (some ⟨b5, 0, some 0⟩))]
theorem BoxOk.setf {hp : List Blk} {b : Blk} {m : Nat} (h : BoxOk hp r q f l g b5 b6 H s m cs) : BoxOk (hp.set f b) r q f l g b5 b6 H s m cs :=
  { h with h5 := by rw [List.getElem?_set_ne h.f5]; exact h.h5, h6 := by rw [List.getElem?_set_ne h.f6]; exact h.h6 }
theorem pass_step {hp : List Blk} {A1 B : Arn} {many : Nat} (hF : Fit hp.length L H) (ho : Ord x o) (hb : By x) (hlL : L ≤ l) (hwl : L ≤ r ∧ L ≤ q)
    (hcl : (cs : Int) + x.length ≤ A.live) (hcx : ∀ i p, i < x.length → p < x.length → cs + i ≠ s + p) (hct : ∀ i, i < x.length → cs + i < t ∨ t + 4 * n ≤ cs + i)
    (hrow : row < o.length) (hr1 : 1 ≤ room) (hrn : room ≤ n) (hro : room ≤ o.length) (hpas : pas ≤ 65537)
    (h : HpOk hp r q f L H A1 s t z n many x) (a : AskOk hp r q f l g H (lastO o row)) (b : BoxOk hp r q f l g b5 b6 H s x.length cs) (w : Words A1 B t n W) (cl : Cols A A1 cs (colO x (o.take row))) : ∃ A2 B2 k2 V,
    Liter env lb28_1 [8, 15, 12, 9, 11, 14, 6, 0, 13, 5] hp.length (outSt r g l b5 b6 (ixO o row) row room pas (colO x (o.take row)).length) ⟨put hp r q B, L, H, []⟩ =
    Liter env lb28_1 [8, 15, 12, 9, 11, 14, 6, 0, 13, 5] hp.length (outSt r g l b5 b6 (ixO o (min (row + room) o.length)) (min (row + room) o.length) room (pas + 1) (colO x (o.take (min (row + room) o.length))).length)
      ⟨put ((hp.set f (hB r s x.length t z k2)).set l (.cells 0 true [.int .i64 (lastO o (min (row + room) o.length))])) r q B2, L, H, []⟩ ∧
    HpOk ((hp.set f (hB r s x.length t z k2)).set l (.cells 0 true [.int .i64 (lastO o (min (row + room) o.length))])) r q f L H A2 s t z n k2 x ∧ Words A2 B2 t n V ∧ Cols A A2 cs (colO x (o.take (min (row + room) o.length))) := by
  have hm := h.hm
  have hol := ho.len
  have hlast : lastO o row < 0 ∨ lastO o row ≤ x.length := by
    unfold lastO
    split
    · left; decide
    · right
      have hv : row - 1 < o.length := by omega
      have := ho.mem.1 (List.getElem_mem hv)
      rw [List.getD_eq_getElem?_getD, List.getElem?_eq_getElem hv]
      show ((o[row - 1] : Nat) : Int) ≤ _
      omega
  obtain ⟨Z, V, k1, z1, z2, z3⟩ := gather_walk hF hlast hrn hr1 (by omega) h a w
  obtain ⟨e1, e2⟩ := pass_words ho (by omega) z3
  have hVin : ∀ i, i < k1 → V i ≤ x.length := fun i hi => by have := (z3.from_ _ ⟨i, hi, rfl⟩).1; omega
  have hF1 : Fit (hp.set f (hB r s x.length t z k1)).length L H := hF.mono (by simp)
  obtain ⟨Z2, k2, y1, y2⟩ := sort_walk hF1 (h.to (m2 := k1)) z2 (by omega) (by omega) hVin
  simp only [List.set_set] at y1
  have hF2 : Fit (hp.set f (hB r s x.length t z k2)).length L H := hF.mono (by simp)
  obtain ⟨fr, A2, B2, i1, i2, i3, i4, f8, f15, f12, f9, f11, f14, f6, f0, f13, f5⟩ := inner_loop (room := room) (pas := pas) (row0 := row) (all := k1) (W := sortW (slt x) k1 V) ho hb hlL hwl (by omega) e2 (by omega) hcl hcx hct k1 0 (hp.set f (hB r s x.length t z k2)) A1 Z2 (by omega) hF2 (h.to (m2 := k2)) a.to b.setf y2 cl
  have er : row + k1 = min (row + room) o.length := by omega
  rw [er] at i1 i3 f8 f15 f14
  rw [List.length_set] at i1
  refine ⟨A2, B2, k2, _, ?_, ?_, i2, i3⟩
  · have k := (h.words w).k
    have h1 := k.r_lt
    have h2 := k.q_lt
    have hne := k.ne
    have hl := a.hl
    have hg := a.hg
    have hll : l < hp.length := (List.getElem?_eq_some_iff.1 hl).1
    have hgl : g < hp.length := (List.getElem?_eq_some_iff.1 hg).1
    have h5 := b.h5
    have h5l : b5 < hp.length := (List.getElem?_eq_some_iff.1 h5).1
    have lr := a.lr
    have lq := a.lq
    have gr := a.gr
    have gq := a.gq
    have gf := a.gf
    have lH := a.lH
    have gH := a.gH
    have r5 := b.r5
    have q5 := b.q5
    have H5 := b.H5
    have c0 : (row : Int) ≤ x.length := by omega
    have g1 : (hp.set f (hB r s x.length t z k1))[g]? = some (.cells 0 false [.pointer (some ⟨f, 0, some 0⟩)]) := by rw [List.getElem?_set_ne gf]; exact hg
    have ep : ((pas + 1 : Nat) : Int) = (pas : Int) + 1 := by omega
    unfold outSt
    unfold inSt at i1
    unfold clo at z1
    simp only [Nat.add_zero, Int.natCast_zero] at i1
    rw [ep, iter_by lb28_1.eq_1]
    simp (disch := (first | omega | (simp only [lnE, put_length] <;> omega) | (refine Fit.mono ‹Fit _ _ _› ?_ <;> (simp only [lnE, put_length] <;> omega)) | (refine Fit.draw ‹Fit _ _ _› ?_ ?_ <;> (simp only [lnE, put_length] <;> omega)) | (refine Fit.hid1 ‹Fit _ _ _› ?_ ?_ <;> (simp only [lnE, put_length] <;> omega)) | (refine Fit.draw1 ‹Fit _ _ _› ?_ ?_ ?_ <;> (simp only [lnE, put_length] <;> omega)) | (refine Fit.range0 ?_ ?_ <;> (simp only [lnE, put_length] <;> omega)) | (refine ArOk.mono ‹ArOk _ _ _ _ _› ?_ <;> (simp only [lnE, put_length] <;> omega)) | (refine ArOk.hid ‹ArOk _ _ _ _ _› ?_ ?_ <;> (simp only [lnE, put_length] <;> omega)) | (refine ArOk.hid0 ‹ArOk _ _ _ _ _› ?_ ?_ <;> (simp only [lnE, put_length] <;> omega)) | ((intro xr hxr; simp [AM.refs, refsF, refsC] at hxr) <;> (simp only [lnE, put_length] <;> omega)) | fail)) only [syA, syB, argFr, D, E, T, C, undefv, eqF, aeq, sheqs, sheq, rdCells, cellsOf, fill, putAt, if_true, if_false, reduceIte, ↓reduceIte, reduceCtorEq, eq_self, Nat.reduceEqDiff, Nat.reduceAdd, Nat.reduceSub, Nat.reduceMul, Nat.reduceLT, Nat.reduceLeDiff, Nat.reducePow, Nat.reduceDiv, Nat.reduceMod, Int.reduceLT, Int.reduceLE, Int.reduceGT, Int.reduceGE, Int.reduceToNat, Int.reducePow, Int.reduceNeg, Int.reduceBEq, Int.reduceBNe, Int.reduceEq, Int.reduceAdd, Int.reduceSub, Int.reduceMul, cellv, sc, flatv, refs, refsF, refsC, syR, Int.le_refl, hF.not0, hF.not1, hF.up0, hF.up1, k.hr, k.hq, h5, H5, hg, g1, lH, gH, c0, z1, y1, i1, f8, f15, f12, f9, f11, f14, f6, f0, f13, f5]
  · exact { i4 with k := i4.k.mono (by simp), hf := by rw [List.getElem?_set_ne (Ne.symm a.lf)]; exact (h.to (m2 := k2)).hf }
theorem passes_loop (ho : Ord x o) (hb : By x) (hlL : L ≤ l) (hwl : L ≤ r ∧ L ≤ q)
    (hcl : (cs : Int) + x.length ≤ A.live) (hcx : ∀ i p, i < x.length → p < x.length → cs + i ≠ s + p) (hct : ∀ i, i < x.length → cs + i < t ∨ t + 4 * n ≤ cs + i)
    (hr1 : 1 ≤ room) (hrn : room ≤ n) (hro : room ≤ o.length) : ∀ (c row pas : Nat) (hp : List Blk) (A1 B : Arn) (many : Nat) (W : Nat → Nat), row + c = o.length → pas ≤ row → Fit hp.length L H →
    HpOk hp r q f L H A1 s t z n many x → AskOk hp r q f l g H (lastO o row) → BoxOk hp r q f l g b5 b6 H s x.length cs → Words A1 B t n W → Cols A A1 cs (colO x (o.take row)) → ∃ fr A2 B2 V bf bl,
    Liter env lb28_1 [8, 15, 12, 9, 11, 14, 6, 0, 13, 5] hp.length (outSt r g l b5 b6 (ixO o row) row room pas (colO x (o.take row)).length) ⟨put hp r q B, L, H, []⟩ =
      some (.exit 0, fr, ⟨put ((hp.set f bf).set l bl) r q B2, L, H, []⟩) ∧ fr.get 8 = some (.int .i64 (o.idxOf 0 : Nat)) ∧ fr.get 9 = some (.int .i64 (pas + (c + room - 1) / room : Nat)) ∧ Words A2 B2 t n V ∧ Cols A A2 cs (colO x o) := by
  intro c
  induction c using Nat.strongRecOn with
  | _ c ih =>
    intro row pas hp A1 B many W hc hpr hF h a b w cl
    have hol := ho.len
    have hm := h.hm
    by_cases c0 : c = 0
    · subst c0
      have er : row = o.length := by omega
      have k := (h.words w).k
      have h5 := b.h5
      have h5l : b5 < hp.length := (List.getElem?_eq_some_iff.1 h5).1
      have r5 := b.r5
      have q5 := b.q5
      have H5 := b.H5
      have c1 : ¬ (row : Int) ≤ x.length := by omega
      have hfr : ∃ fr, Liter env lb28_1 [8, 15, 12, 9, 11, 14, 6, 0, 13, 5] hp.length (outSt r g l b5 b6 (ixO o row) row room pas (colO x (o.take row)).length) ⟨put hp r q B, L, H, []⟩ =
          some (.exit 0, fr, ⟨put hp r q B, L, H, []⟩) ∧ fr.get 8 = some (.int .i64 (ixO o row)) ∧ fr.get 9 = some (.int .i64 pas) := by
        unfold outSt
        rw [iter_by lb28_1.eq_1]
        simp (disch := (first | omega | (simp only [lnE, put_length] <;> omega) | (refine Fit.mono ‹Fit _ _ _› ?_ <;> (simp only [lnE, put_length] <;> omega)) | (refine Fit.draw ‹Fit _ _ _› ?_ ?_ <;> (simp only [lnE, put_length] <;> omega)) | (refine Fit.hid1 ‹Fit _ _ _› ?_ ?_ <;> (simp only [lnE, put_length] <;> omega)) | (refine Fit.draw1 ‹Fit _ _ _› ?_ ?_ ?_ <;> (simp only [lnE, put_length] <;> omega)) | (refine Fit.range0 ?_ ?_ <;> (simp only [lnE, put_length] <;> omega)) | (refine ArOk.mono ‹ArOk _ _ _ _ _› ?_ <;> (simp only [lnE, put_length] <;> omega)) | (refine ArOk.hid ‹ArOk _ _ _ _ _› ?_ ?_ <;> (simp only [lnE, put_length] <;> omega)) | (refine ArOk.hid0 ‹ArOk _ _ _ _ _› ?_ ?_ <;> (simp only [lnE, put_length] <;> omega)) | ((intro xr hxr; simp [AM.refs, refsF, refsC] at hxr) <;> (simp only [lnE, put_length] <;> omega)) | fail)) only [syA, syB, argFr, D, E, T, C, undefv, eqF, aeq, sheqs, sheq, rdCells, cellsOf, fill, putAt, if_true, if_false, reduceIte, ↓reduceIte, reduceCtorEq, eq_self, Nat.reduceEqDiff, Nat.reduceAdd, Nat.reduceSub, Nat.reduceMul, Nat.reduceLT, Nat.reduceLeDiff, Nat.reducePow, Nat.reduceDiv, Nat.reduceMod, Int.reduceLT, Int.reduceLE, Int.reduceGT, Int.reduceGE, Int.reduceToNat, Int.reducePow, Int.reduceNeg, Int.reduceBEq, Int.reduceBNe, Int.reduceEq, Int.reduceAdd, Int.reduceSub, Int.reduceMul, cellv, sc, flatv, refs, refsF, refsC, syR, Int.le_refl, hF.not0, hF.not1, hF.up0, hF.up1, k.hr, k.hq, h5, H5, c1]
        exact ⟨_, rfl, rfl, rfl⟩
      obtain ⟨fr, e1, e2, e3⟩ := hfr
      have hx : o.idxOf 0 < o.length := List.idxOf_lt_length_of_mem (ho.mem.2 (by omega))
      have hix : ixO o row = o.idxOf 0 := by unfold ixO; rw [if_pos (by omega)]
      have hdiv : (0 + room - 1) / room = 0 := by rw [Nat.div_eq_of_lt (by omega)]
      rw [hix] at e2
      rw [er, List.take_length] at cl
      refine ⟨fr, A1, B, W, hB r s x.length t z many, .cells 0 true [.int .i64 (lastO o row)], ?_, e2, by rw [hdiv, Nat.add_zero]; exact e3, w, cl⟩
      rw [h.same, e1]
      have hs : hp.set l (.cells 0 true [.int .i64 (lastO o row)]) = hp := by
        apply List.ext_getElem?
        intro j
        by_cases c : l = j
        · subst c; rw [List.getElem?_set_self (List.getElem?_eq_some_iff.1 a.hl).1, a.hl]
        · rw [List.getElem?_set_ne c]
      rw [hs]
    · obtain ⟨A2, B2, k2, V, e1, e2, e3, e4⟩ := pass_step hF ho hb hlL hwl hcl hcx hct (by omega) hr1 hrn hro (by omega) h a b w cl (pas := pas)
      have hdiv : (c + room - 1) / room = 1 + (c - room + room - 1) / room := by
        by_cases c2 : room ≤ c
        · rw [show c + room - 1 = (c - room + room - 1) + room by omega, Nat.add_div_right _ (by omega)]; omega
        · rw [show c - room = 0 by omega, Nat.div_eq_of_lt (show 0 + room - 1 < room by omega), show c + room - 1 = (c - 1) + room by omega, Nat.add_div_right _ (by omega), Nat.div_eq_of_lt (by omega)]
      have hc2 : min (row + room) o.length + (c - room) = o.length := by omega
      have := ih (c - room) (by omega) (min (row + room) o.length) (pas + 1) _ A2 B2 k2 V hc2 (by omega) (hF.mono (by simp)) e2 (a.to.last' b.lg) b.setf.setl e3 e4
      rw [List.length_set, List.length_set] at this
      obtain ⟨fr, A3, B3, V3, bf, bl, i1, i2, i3, i4, i5⟩ := this
      refine ⟨fr, A3, B3, V3, bf, bl, ?_, i2, by rw [hdiv, ← Nat.add_assoc]; exact i3, i4, i5⟩
      rw [e1, i1]
      congr 5
      rw [List.set_comm _ _ a.lf, List.set_set, List.set_comm _ _ (Ne.symm a.lf), List.set_set]
end
end ArA
end Go.Proofs.Ytlphmnhkkhcjfaa
