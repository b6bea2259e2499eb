/-
  THE TRANSFORM BY BUCKETS: the rows of a pass, on the abstract machine. Conditions: none.
-/
import Derived.Test.YtlphmnhkkhcjfaaHbF
set_option linter.all false
namespace Go.Proofs.Ytlphmnhkkhcjfaa
namespace ArA
open Go Go.RowKit AM ArEnv
/-- B is A, but for the bytes l from c on. -/
structure Cols (A B : Arn) (c : Nat) (l : List Nat) : Prop where
  live : B.live = A.live
  peak : B.peak = A.peak
  len : B.bs.length = A.bs.length
  by_ : By B.bs
  out : ∀ p, p < c ∨ c + l.length ≤ p → B.bs[p]? = A.bs[p]?
  at_ : ∀ i, i < l.length → B.bs[c + i]? = l[i]?
theorem Cols.nil {A : Arn} (h : By A.bs) (c : Nat) : Cols A A c [] := ⟨rfl, rfl, rfl, h, fun _ _ => rfl, fun i hi => by simp at hi⟩
theorem setByte_at {A : Arn} {c m i v : Nat} (h1 : (c : Int) + m ≤ A.live) (h2 : i < m) (h3 : A.live ≤ A.bs.length) : A.setByte c m i v = ⟨A.bs.set (c + i) v, A.live, A.peak⟩ := by
  have hp : A.part c m i 1 = true := by rw [Arn.part_iff]; omega
  unfold Arn.setByte
  rw [if_pos hp]
  unfold Arn.setAt
  rw [show ((c : Int) + (i : Int)).toNat = c + i by omega, putN_one (by omega)]
theorem Cols.next {A B : Arn} {c m v : Nat} {l : List Nat} (h : Cols A B c l) (h1 : (c : Int) + m ≤ A.live) (h2 : l.length < m) (h3 : A.live ≤ A.bs.length) (hv : v < 256) : Cols A (B.setByte c m l.length v) c (l ++ [v]) := by
  rw [setByte_at (by rw [h.live]; exact h1) h2 (by rw [h.live, h.len]; exact h3)]
  refine ⟨h.live, h.peak, by show (B.bs.set _ _).length = _; rw [List.length_set, h.len], ?_, fun p hp => ?_, fun i hi => ?_⟩
  · intro y hy
    rcases List.mem_or_eq_of_mem_set hy with h4 | rfl
    · exact h.by_ y h4
    · exact hv
  · rw [List.length_append, List.length_singleton] at hp
    show (B.bs.set _ _)[p]? = _
    rw [List.getElem?_set_ne (by omega)]
    exact h.out p (by omega)
  · rw [List.length_append, List.length_singleton] at hi
    show (B.bs.set _ _)[c + i]? = _
    by_cases e : i = l.length
    · rw [e, List.getElem?_set_self (by rw [h.len]; omega)]; simp
    · rw [List.getElem?_set_ne (by omega), List.getElem?_append_left (by omega)]
      exact h.at_ i (by omega)
theorem Words.col {A B : Arn} {t n c m i v : Nat} {W : Nat → Nat} (h : Words A B t n W) (h1 : (c : Int) + m ≤ A.live) (h2 : i < m) (h3 : A.live ≤ A.bs.length) (hv : v < 256) (hap : c + i < t ∨ t + 4 * n ≤ c + i) : Words (A.setByte c m i v) (B.setByte c m i v) t n W := by
  rw [setByte_at h1 h2 h3, setByte_at (by rw [h.live]; exact h1) h2 (by rw [h.live, h.len]; exact h3)]
  refine ⟨h.live, h.peak, by show (B.bs.set _ _).length = (A.bs.set _ _).length; rw [List.length_set, List.length_set, h.len], ?_, fun p hp => ?_, fun w hw j hj => ?_⟩
  · intro y hy
    rcases List.mem_or_eq_of_mem_set hy with h4 | rfl
    · exact h.by_ y h4
    · exact hv
  · show (B.bs.set _ _)[p]? = (A.bs.set _ _)[p]?
    rw [List.getElem?_set, List.getElem?_set, h.len]
    split
    · rfl
    · exact h.out p hp
  · show (B.bs.set _ _)[_]? = _
    rw [List.getElem?_set_ne (by omega)]
    exact h.word w hw j hj
section
variable {hp : List Blk} {L : Nat} {H d : List Nat} {r q f l g b5 b6 : Nat} {A B : Arn} {s t z n m many room cs i row at_ pas all ix : Nat} {x : List Nat} {W : Nat → Nat} {last : Int}
/-- The boxes of the two spans. -/
structure BoxOk (hp : List Blk) (r q f l g b5 b6 : Nat) (H : List Nat) (s m cs : Nat) : Prop where
  h5 : hp[b5]? = some (.cells 0 true [.int .i64 s, .int .i64 m])
  h6 : hp[b6]? = some (.cells 0 true [.int .i64 cs, .int .i64 m])
  r5 : r ≠ b5
  q5 : q ≠ b5
  f5 : f ≠ b5
  l5 : l ≠ b5
  r6 : r ≠ b6
  q6 : q ≠ b6
  f6 : f ≠ b6
  l6 : l ≠ b6
  lg : l ≠ g
  H5 : H.contains b5 = false
  H6 : H.contains b6 = false
def inSt (r g l b5 b6 ix row i all room pas at_ : Nat) : Fr := [(8, .int .i64 ix), (15, .int .i64 row), (49, .int .i64 i), (48, .int .i64 all), (12, .int .i64 room), (9, .int .i64 pas), (11, .pointer (some ⟨g, 0, some 0⟩)), (14, .int .i64 at_), (6, .pointer (some ⟨b6, 0, some 0⟩)), (0, arP r), (13, .pointer (some ⟨l, 0, some 0⟩)), (5, .pointer (some ⟨b5, 0, some 0⟩))]
theorem inner_zero (hF : Fit hp.length L H) (o : HpOk hp r q f L H B s t z n many x) (a : AskOk hp r q f l g H last) (b : BoxOk hp r q f l g b5 b6 H s x.length cs) (hlL : L ≤ l) (hi : i < all) (hall : all ≤ 65537) (hrow : row ≤ 65537) (hw : B.wordV t z i = 0) :
    Liter env lb28_0 [8, 15, 49, 48, 12, 9, 11, 14, 6, 0, 13, 5] hp.length (inSt r g l b5 b6 ix row i all room pas at_) ⟨put hp r q B, L, H, []⟩ =
    Liter env lb28_0 [8, 15, 49, 48, 12, 9, 11, 14, 6, 0, 13, 5] hp.length (inSt r g l b5 b6 row (row + 1) (i + 1) all room pas at_) ⟨put (hp.set l (.cells 0 true [.int .i64 0])) r q B, L, H, []⟩ := by
  have k := o.k
  have h1 := k.r_lt
  have h2 := k.q_lt
  have hne := k.ne
  have hf := o.hf
  have hid := o.hid
  have hr := o.hr
  have hq := o.hq
  have hfl : f < hp.length := (List.getElem?_eq_some_iff.1 o.hf).1
  have hl := a.hl
  have hg := a.hg
  have hll : l < hp.length := (List.getElem?_eq_some_iff.1 hl).1
  have hgl : g < hp.length := (List.getElem?_eq_some_iff.1 hg).1
  have lr := a.lr
  have lq := a.lq
  have gr := a.gr
  have gq := a.gq
  have lH := a.lH
  have gH := a.gH
  have lLf : (l < L) = False := eq_false (by omega)
  have c0 : (i : Int) < all := by omega
  have gg := fun d => hget_walk (d := d) hF o.k hf hr hq hid i
  have hset := put_set_o (hp := hp) (A := B) (b := .cells 0 true [.int .i64 0]) lr lq
  have hl2 : (hp.set l (.cells 0 true [.int .i64 0]))[l]? = some (.cells 0 true [.int .i64 0]) := List.getElem?_set_self hll
  have er : ((row + 1 : Nat) : Int) = (row : Int) + 1 := by omega
  have ei : ((i + 1 : Nat) : Int) = (i : Int) + 1 := by omega
  unfold inSt
  rw [er, ei, iter_by lb28_0.eq_1]
  simp (disch := (first | omega | (simp only [lnE, put_length] <;> omega) | (refine Fit.mono ‹Fit _ _ _› ?_ <;> (simp only [lnE, put_length] <;> omega)) | (refine Fit.draw ‹Fit _ _ _› ?_ ?_ <;> (simp only [lnE, put_length] <;> omega)) | (refine Fit.hid1 ‹Fit _ _ _› ?_ ?_ <;> (simp only [lnE, put_length] <;> omega)) | (refine Fit.draw1 ‹Fit _ _ _› ?_ ?_ ?_ <;> (simp only [lnE, put_length] <;> omega)) | (refine Fit.range0 ?_ ?_ <;> (simp only [lnE, put_length] <;> omega)) | (refine ArOk.mono ‹ArOk _ _ _ _ _› ?_ <;> (simp only [lnE, put_length] <;> omega)) | (refine ArOk.hid ‹ArOk _ _ _ _ _› ?_ ?_ <;> (simp only [lnE, put_length] <;> omega)) | (refine ArOk.hid0 ‹ArOk _ _ _ _ _› ?_ ?_ <;> (simp only [lnE, put_length] <;> omega)) | ((intro xr hxr; simp [AM.refs, refsF, refsC] at hxr) <;> (simp only [lnE, put_length] <;> omega)) | fail)) only [syA, syB, argFr, D, E, T, C, undefv, eqF, aeq, sheqs, sheq, rdCells, cellsOf, fill, putAt, if_true, if_false, reduceIte, ↓reduceIte, reduceCtorEq, eq_self, Nat.reduceEqDiff, Nat.reduceAdd, Nat.reduceSub, Nat.reduceMul, Nat.reduceLT, Nat.reduceLeDiff, Nat.reducePow, Nat.reduceDiv, Nat.reduceMod, Int.reduceLT, Int.reduceLE, Int.reduceGT, Int.reduceGE, Int.reduceToNat, Int.reducePow, Int.reduceNeg, Int.reduceBEq, Int.reduceBNe, Int.reduceEq, Int.reduceAdd, Int.reduceSub, Int.reduceMul, cellv, sc, flatv, refs, refsF, refsC, syR, Int.le_refl, hF.not0, hF.not1, hF.up0, hF.up1, k.hr, k.hq, hl, hl2, hg, lH, gH, lLf, c0, gg, hw, hset, Int.natCast_zero]
theorem inner_put (hF : Fit hp.length L H) (o : HpOk hp r q f L H B s t z n many x) (a : AskOk hp r q f l g H last) (b : BoxOk hp r q f l g b5 b6 H s x.length cs) (hlL : L ≤ l) (hi : i < all) (hall : all ≤ 65537) (hrow : row ≤ 65537) {e : Nat} (hw : B.wordV t z i = e + 1) (he : e < x.length) (hat : at_ < x.length) (hwl : L ≤ r ∧ L ≤ q) :
    Liter env lb28_0 [8, 15, 49, 48, 12, 9, 11, 14, 6, 0, 13, 5] hp.length (inSt r g l b5 b6 ix row i all room pas at_) ⟨put hp r q B, L, H, []⟩ =
    Liter env lb28_0 [8, 15, 49, 48, 12, 9, 11, 14, 6, 0, 13, 5] hp.length (inSt r g l b5 b6 ix (row + 1) (i + 1) all room pas (at_ + 1)) ⟨put (hp.set l (.cells 0 true [.int .i64 (e + 1 : Nat)])) r q (B.setByte cs x.length at_ x[e]), L, H, []⟩ := by
  have k := o.k
  have h1 := k.r_lt
  have h2 := k.q_lt
  have hne := k.ne
  have hf := o.hf
  have hid := o.hid
  have hr := o.hr
  have hq := o.hq
  have hfl : f < hp.length := (List.getElem?_eq_some_iff.1 o.hf).1
  have hl := a.hl
  have hg := a.hg
  have hll : l < hp.length := (List.getElem?_eq_some_iff.1 hl).1
  have hgl : g < hp.length := (List.getElem?_eq_some_iff.1 hg).1
  have lr := a.lr
  have lq := a.lq
  have gr := a.gr
  have gq := a.gq
  have lH := a.lH
  have gH := a.gH
  have lLf : (l < L) = False := eq_false (by omega)
  have c0 : (i : Int) < all := by omega
  have gg := fun d => hget_walk (d := d) hF o.k hf hr hq hid i
  have hset := put_set_o (hp := hp) (A := B) (b := .cells 0 true [.int .i64 ((e : Int) + 1)]) lr lq
  have hl2 : (hp.set l (.cells 0 true [.int .i64 ((e : Int) + 1)]))[l]? = some (.cells 0 true [.int .i64 ((e : Int) + 1)]) := List.getElem?_set_self hll
  have k1 : ArOk (hp.set l (.cells 0 true [.int .i64 ((e : Int) + 1)])).length r q H B := k.mono (by simp)
  have hF1 : Fit (hp.set l (.cells 0 true [.int .i64 ((e : Int) + 1)])).length L H := hF.mono (by simp)
  have h5 := b.h5
  have h6 := b.h6
  have r5 := b.r5
  have q5 := b.q5
  have l5 := b.l5
  have r6 := b.r6
  have q6 := b.q6
  have l6 := b.l6
  have H5 := b.H5
  have H6 := b.H6
  have hmx := o.hm
  have g5 : (hp.set l (.cells 0 true [.int .i64 ((e : Int) + 1)]))[b5]? = some (.cells 0 true [.int .i64 s, .int .i64 x.length]) := by rw [List.getElem?_set_ne l5]; exact h5
  have g6 : (hp.set l (.cells 0 true [.int .i64 ((e : Int) + 1)]))[b6]? = some (.cells 0 true [.int .i64 cs, .int .i64 x.length]) := by rw [List.getElem?_set_ne l6]; exact h6
  have h5l : b5 < hp.length := (List.getElem?_eq_some_iff.1 h5).1
  have h6l : b6 < hp.length := (List.getElem?_eq_some_iff.1 h6).1
  have by1 := fun d => byte_walk (d := d) hF1 k1 s x.length e
  have bv := o.hx.byte he
  have xe : x[e] < 256 := by
    have := Arn.slot_lt k.by_ s e
    have h3 := o.hx.get e he
    unfold Arn.slot at this
    rw [show ((s : Int) + (e : Int)).toNat = s + e by omega, List.getD_eq_getElem?_getD, h3] at this
    exact this
  have sb1 := fun d => setByte_walk (d := d) hF1 k1 hwl cs x.length at_ x[e] xe
  have c1 : ¬ (e : Int) + 1 = 0 := by omega
  have c2 : (e : Int) + 1 - 1 = e := by omega
  have ew : ((e + 1 : Nat) : Int) = (e : Int) + 1 := by omega
  have ea : ((at_ + 1 : Nat) : Int) = (at_ : Int) + 1 := by omega
  have er : ((row + 1 : Nat) : Int) = (row : Int) + 1 := by omega
  have ei : ((i + 1 : Nat) : Int) = (i : Int) + 1 := by omega
  unfold inSt
  rw [er, ei, ew, ea, iter_by lb28_0.eq_1]
  simp (disch := (first | omega | (simp only [lnE, put_length] <;> omega) | (refine Fit.mono ‹Fit _ _ _› ?_ <;> (simp only [lnE, put_length] <;> omega)) | (refine Fit.draw ‹Fit _ _ _› ?_ ?_ <;> (simp only [lnE, put_length] <;> omega)) | (refine Fit.hid1 ‹Fit _ _ _› ?_ ?_ <;> (simp only [lnE, put_length] <;> omega)) | (refine Fit.draw1 ‹Fit _ _ _› ?_ ?_ ?_ <;> (simp only [lnE, put_length] <;> omega)) | (refine Fit.range0 ?_ ?_ <;> (simp only [lnE, put_length] <;> omega)) | (refine ArOk.mono ‹ArOk _ _ _ _ _› ?_ <;> (simp only [lnE, put_length] <;> omega)) | (refine ArOk.hid ‹ArOk _ _ _ _ _› ?_ ?_ <;> (simp only [lnE, put_length] <;> omega)) | (refine ArOk.hid0 ‹ArOk _ _ _ _ _› ?_ ?_ <;> (simp only [lnE, put_length] <;> omega)) | ((intro xr hxr; simp [AM.refs, refsF, refsC] at hxr) <;> (simp only [lnE, put_length] <;> omega)) | fail)) only [syA, syB, argFr, D, E, T, C, undefv, eqF, aeq, sheqs, sheq, rdCells, cellsOf, fill, putAt, if_true, if_false, reduceIte, ↓reduceIte, reduceCtorEq, eq_self, Nat.reduceEqDiff, Nat.reduceAdd, Nat.reduceSub, Nat.reduceMul, Nat.reduceLT, Nat.reduceLeDiff, Nat.reducePow, Nat.reduceDiv, Nat.reduceMod, Int.reduceLT, Int.reduceLE, Int.reduceGT, Int.reduceGE, Int.reduceToNat, Int.reducePow, Int.reduceNeg, Int.reduceBEq, Int.reduceBNe, Int.reduceEq, Int.reduceAdd, Int.reduceSub, Int.reduceMul, cellv, sc, flatv, refs, refsF, refsC, syR, Int.le_refl, hF.not0, hF.not1, hF.up0, hF.up1, k.hr, k.hq, hl, hl2, hg, lH, gH, lLf, c0, gg, hw, hset, ew, c1, c2, g5, g6, H5, H6, by1, bv, sb1]
end
end ArA
end Go.Proofs.Ytlphmnhkkhcjfaa
