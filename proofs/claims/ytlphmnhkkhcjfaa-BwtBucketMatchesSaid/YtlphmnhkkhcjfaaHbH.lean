/-
  THE TRANSFORM BY BUCKETS: the loop over the rows of a pass, on the abstract machine. Conditions: none.
-/
import Derived.Test.YtlphmnhkkhcjfaaHbG
import Derived.Test.YtlphmnhkkhcjfaaSufTurn
set_option linter.all false
namespace Go.Proofs.Ytlphmnhkkhcjfaa
namespace ArA
open Go Go.RowKit AM ArEnv
def ixO (o : List Nat) (row : Nat) : Nat := if o.idxOf 0 < row then o.idxOf 0 else 0
def lastO (o : List Nat) (row : Nat) : Int := if row = 0 then -1 else (o.getD (row - 1) 0 : Nat)
theorem idx_at {x o : List Nat} (ho : Ord x o) {row : Nat} (hr : row < o.length) (h0 : o[row] = 0) : o.idxOf 0 = row := by
  have hm : o.idxOf 0 < o.length := List.idxOf_lt_length_of_mem (ho.mem.2 (by omega))
  have h1 : o[o.idxOf 0] = 0 := List.getElem_idxOf hm
  exact (List.getElem_inj ho.nodup).1 (h1.trans h0.symm)
theorem ixO_zero {x o : List Nat} (ho : Ord x o) {row : Nat} (hr : row < o.length) (h0 : o[row] = 0) : ixO o (row + 1) = row := by
  unfold ixO; rw [idx_at ho hr h0, if_pos (by omega)]
theorem ixO_ne {x o : List Nat} (ho : Ord x o) {row : Nat} (hr : row < o.length) (h0 : o[row] ≠ 0) : ixO o (row + 1) = ixO o row := by
  have hm : o.idxOf 0 < o.length := List.idxOf_lt_length_of_mem (ho.mem.2 (by omega))
  have h1 : o[o.idxOf 0] = 0 := List.getElem_idxOf hm
  have h2 : o.idxOf 0 ≠ row := fun e => h0 (by simp only [e] at h1; exact h1)
  unfold ixO
  by_cases c : o.idxOf 0 < row
  · rw [if_pos c, if_pos (by omega)]
  · rw [if_neg c, if_neg (by omega)]
theorem colO_le {x o : List Nat} (ho : Ord x o) (k : Nat) : (colO x (o.take k)).length ≤ x.length := by
  rw [← colO_len ho]
  unfold colO
  rw [List.length_map, List.length_map]
  exact ((List.take_sublist k o).filter _).length_le
section
variable {L : Nat} {H d : List Nat} {r q f l g b5 b6 : Nat} {A : Arn} {s t z n room cs row0 pas all : Nat} {x o : List Nat} {W : Nat → Nat}
theorem AskOk.last' {hp : List Blk} {last v : Int} (a : AskOk hp r q f l g H last) (hlg : l ≠ g) : AskOk (hp.set l (.cells 0 true [.int .i64 v])) r q f l g H v :=
  { a with hl := by rw [List.getElem?_set_self (List.getElem?_eq_some_iff.1 a.hl).1], hg := by rw [List.getElem?_set_ne hlg]; exact a.hg }
theorem HpOk.setl {hp : List Blk} {b : Blk} {A : Arn} {many : Nat} (h : HpOk hp r q f L H A s t z n many x) (hlf : f ≠ l) : HpOk (hp.set l b) r q f L H A s t z n many x :=
  { h with k := h.k.mono (by simp), hf := by rw [List.getElem?_set_ne (Ne.symm hlf)]; exact h.hf }
theorem BoxOk.setl {hp : List Blk} {b : Blk} {m : Nat} (h : BoxOk hp r q f l g b5 b6 H s m cs) : BoxOk (hp.set l b) r q f l g b5 b6 H s m cs :=
  { h with h5 := by rw [List.getElem?_set_ne h.l5]; exact h.h5, h6 := by rw [List.getElem?_set_ne h.l6]; exact h.h6 }
theorem HpOk.col {hp : List Blk} {A1 : Arn} {many v i : Nat} (h : HpOk hp r q f L H A1 s t z n many x) (h1 : (cs : Int) + x.length ≤ A1.live) (h2 : i < x.length) (hv : v < 256) (hap : ∀ p, p < x.length → cs + i ≠ s + p) : HpOk hp r q f L H (A1.setByte cs x.length i v) s t z n many x := by
  have h3 := h.k.live1
  have e := setByte_at (v := v) h1 h2 h3
  refine { h with k := h.k.setByte hv, hx := ?_, hz := by rw [e]; exact h.hz }
  rw [e]
  exact ⟨h.hx.live, fun p hp => by
    show (A1.bs.set _ _)[_]? = _
    rw [List.getElem?_set_ne (hap p hp)]; exact h.hx.get p hp⟩
theorem inner_loop (ho : Ord x o) (hb : By x) (hlL : L ≤ l) (hwl : L ≤ r ∧ L ≤ q) (hall : row0 + all ≤ o.length) (hW : ∀ j, j < all → W j = o.getD (row0 + j) 0) (halln : all ≤ n)
    (hcl : (cs : Int) + x.length ≤ A.live) (hcx : ∀ i p, i < x.length → p < x.length → cs + i ≠ s + p) (hct : ∀ i, i < x.length → cs + i < t ∨ t + 4 * n ≤ cs + i) {many : Nat} :
    ∀ (c i : Nat) (hp : List Blk) (A1 B : Arn), i + c = all → Fit hp.length L H → HpOk hp r q f L H A1 s t z n many x → AskOk hp r q f l g H (lastO o (row0 + i)) → BoxOk hp r q f l g b5 b6 H s x.length cs → Words A1 B t n W →
    Cols A A1 cs (colO x (o.take (row0 + i))) → ∃ fr A2 B2,
    Liter env lb28_0 [8, 15, 49, 48, 12, 9, 11, 14, 6, 0, 13, 5] hp.length (inSt r g l b5 b6 (ixO o (row0 + i)) (row0 + i) i all room pas (colO x (o.take (row0 + i))).length) ⟨put hp r q B, L, H, []⟩ =
      some (.exit 2, fr, ⟨put (hp.set l (.cells 0 true [.int .i64 (lastO o (row0 + all))])) r q B2, L, H, []⟩) ∧ Words A2 B2 t n W ∧ Cols A A2 cs (colO x (o.take (row0 + all))) ∧ HpOk hp r q f L H A2 s t z n many x ∧
      fr.get 8 = some (.int .i64 (ixO o (row0 + all))) ∧ fr.get 15 = some (.int .i64 (row0 + all : Nat)) ∧ fr.get 12 = some (.int .i64 room) ∧ fr.get 9 = some (.int .i64 pas) ∧ fr.get 11 = some (.pointer (some ⟨g, 0, some 0⟩)) ∧
      fr.get 14 = some (.int .i64 (colO x (o.take (row0 + all))).length) ∧ fr.get 6 = some (.pointer (some ⟨b6, 0, some 0⟩)) ∧ fr.get 0 = some (arP r) ∧ fr.get 13 = some (.pointer (some ⟨l, 0, some 0⟩)) ∧ fr.get 5 = some (.pointer (some ⟨b5, 0, some 0⟩)) := by
  intro c
  induction c with
  | zero =>
    intro i hp A1 B hi hF h a b w cl
    have e : i = all := by omega
    subst e
    have hsame : hp.set l (.cells 0 true [.int .i64 (lastO o (row0 + i))]) = hp := by
      apply List.ext_getElem?
      intro j
      by_cases c : l = j
      · subst c; rw [List.getElem?_set_self (List.getElem?_eq_some_iff.1 a.hl).1, a.hl]
      · rw [List.getElem?_set_ne c]
    have k := (h.words w).k
    have c0 : ¬ (i : Int) < i := by omega
    rw [hsame]
    unfold inSt
    rw [iter_by lb28_0.eq_1]
    simp (disch := (first | omega | (simp only [lnE, put_length] <;> omega) | (refine Fit.mono ‹Fit _ _ _› ?_ <;> (simp only [lnE, put_length] <;> omega)) | (refine Fit.draw ‹Fit _ _ _› ?_ ?_ <;> (simp only [lnE, put_length] <;> omega)) | (refine Fit.hid1 ‹Fit _ _ _› ?_ ?_ <;> (simp only [lnE, put_length] <;> omega)) | (refine Fit.draw1 ‹Fit _ _ _› ?_ ?_ ?_ <;> (simp only [lnE, put_length] <;> omega)) | (refine Fit.range0 ?_ ?_ <;> (simp only [lnE, put_length] <;> omega)) | (refine ArOk.mono ‹ArOk _ _ _ _ _› ?_ <;> (simp only [lnE, put_length] <;> omega)) | (refine ArOk.hid ‹ArOk _ _ _ _ _› ?_ ?_ <;> (simp only [lnE, put_length] <;> omega)) | (refine ArOk.hid0 ‹ArOk _ _ _ _ _› ?_ ?_ <;> (simp only [lnE, put_length] <;> omega)) | ((intro xr hxr; simp [AM.refs, refsF, refsC] at hxr) <;> (simp only [lnE, put_length] <;> omega)) | fail)) only [syA, syB, argFr, D, E, T, C, undefv, eqF, aeq, sheqs, sheq, rdCells, cellsOf, fill, putAt, if_true, if_false, reduceIte, ↓reduceIte, reduceCtorEq, eq_self, Nat.reduceEqDiff, Nat.reduceAdd, Nat.reduceSub, Nat.reduceMul, Nat.reduceLT, Nat.reduceLeDiff, Nat.reducePow, Nat.reduceDiv, Nat.reduceMod, Int.reduceLT, Int.reduceLE, Int.reduceGT, Int.reduceGE, Int.reduceToNat, Int.reducePow, Int.reduceNeg, Int.reduceBEq, Int.reduceBNe, Int.reduceEq, Int.reduceAdd, Int.reduceSub, Int.reduceMul, cellv, sc, flatv, refs, refsF, refsC, syR, Int.le_refl, hF.not0, hF.not1, hF.up0, hF.up1, k.hr, k.hq, c0]
    exact ⟨_, A1, B, rfl, w, cl, h, rfl, rfl, rfl, rfl, rfl, rfl, rfl, rfl, rfl, rfl⟩
  | succ c ih =>
    intro i hp A1 B hi hF h a b w cl
    have hm := h.hm
    have hol := ho.len
    have hro : row0 + i < o.length := by omega
    have hoi : o[row0 + i] ≤ x.length := ho.mem.1 (List.getElem_mem hro)
    have hWi : W i = o[row0 + i] := by rw [hW i (by omega), List.getD_eq_getElem?_getD, List.getElem?_eq_getElem hro]; rfl
    have hw0 : B.wordV t z i = W i := w.get' h (by omega) (by omega) rfl
    have hlo : lastO o (row0 + i + 1) = (o[row0 + i] : Nat) := by
      unfold lastO
      rw [if_neg (by omega), Nat.add_sub_cancel, List.getD_eq_getElem?_getD, List.getElem?_eq_getElem hro]; rfl
    have hF1 : ∀ b, Fit (hp.set l b).length L H := fun b => hF.mono (by simp)
    have hs := colO_succ (t := x) hro
    by_cases c0 : o[row0 + i] = 0
    · have st := inner_zero (i := i) (ix := ixO o (row0 + i)) (room := room) (pas := pas) (at_ := (colO x (o.take (row0 + i))).length) (row := row0 + i) (all := all) hF (h.words w) a b hlL (by omega) (by omega) (by omega) (by rw [hw0, hWi, c0])
      rw [c0] at hlo
      rw [if_pos c0, List.append_nil] at hs
      have := ih (i + 1) (hp.set l (.cells 0 true [.int .i64 0])) A1 B (by omega) (hF1 _) (h.setl a.lf) (by rw [← Nat.add_assoc, hlo]; exact a.last' b.lg) b.setl w (by rw [← Nat.add_assoc, hs]; exact cl)
      rw [← Nat.add_assoc, hs, ixO_zero ho hro c0, List.length_set, List.set_set] at this
      obtain ⟨fr, A2, B2, i1, i2, i3, i4, i5⟩ := this
      refine ⟨fr, A2, B2, by rw [st]; exact i1, i2, i3, ?_, i5⟩
      exact { i4 with k := i4.k.mono (by simp), hf := h.hf }
    · obtain ⟨e, he⟩ : ∃ e, o[row0 + i] = e + 1 := ⟨o[row0 + i] - 1, by omega⟩
      have hel : e < x.length := by omega
      rw [he] at hlo
      rw [if_neg c0, he, Nat.add_sub_cancel] at hs
      have hgd : x.getD e 0 = x[e] := by rw [List.getD_eq_getElem?_getD, List.getElem?_eq_getElem hel]; rfl
      rw [hgd] at hs
      have hat : (colO x (o.take (row0 + i))).length < x.length := by
        have := colO_le ho (row0 + i + 1)
        rw [hs, List.length_append, List.length_singleton] at this
        omega
      have hl1 : (cs : Int) + x.length ≤ A1.live := by rw [cl.live]; exact hcl
      have xe : x[e] < 256 := hb.get hel
      have st := inner_put (i := i) (ix := ixO o (row0 + i)) (room := room) (pas := pas) (at_ := (colO x (o.take (row0 + i))).length) (row := row0 + i) (all := all) hF (h.words w) a b hlL (by omega) (by omega) (by omega) (e := e) (by rw [hw0, hWi, he]) hel hat hwl
      have h' := h.col hl1 hat xe (hcx _ · hat)
      have w' := w.col hl1 hat h.k.live1 xe (hct _ hat)
      have cl' := cl.next hcl hat (by have := h.k.live1; rw [cl.live, cl.len] at this; exact this) xe
      have := ih (i + 1) (hp.set l (.cells 0 true [.int .i64 (e + 1 : Nat)])) _ _ (by omega) (hF1 _) (h'.setl a.lf) (by rw [← Nat.add_assoc, hlo]; exact a.last' b.lg) b.setl w' (by rw [← Nat.add_assoc, hs]; exact cl')
      rw [← Nat.add_assoc, hs, ixO_ne ho hro c0, List.length_set, List.set_set, List.length_append, List.length_singleton] at this
      obtain ⟨fr, A2, B2, i1, i2, i3, i4, i5⟩ := this
      refine ⟨fr, A2, B2, by rw [st]; exact i1, i2, i3, ?_, i5⟩
      exact { i4 with k := i4.k.mono (by simp), hf := h.hf }
end
end ArA
end Go.Proofs.Ytlphmnhkkhcjfaa
