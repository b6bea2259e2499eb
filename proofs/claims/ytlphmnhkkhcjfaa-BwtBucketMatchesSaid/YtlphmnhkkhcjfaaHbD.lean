/-
  THE TRANSFORM BY BUCKETS: an element of the heap sinks, on the abstract machine. Conditions: none.
  THE TRANSFORM BY BUCKETS: an element of the heap rises, on the abstract machine. Conditions: none.
-/
import Derived.Test.YtlphmnhkkhcjfaaHbB
set_option linter.all false
section
set_option linter.all false
namespace Go.Proofs.Ytlphmnhkkhcjfaa
namespace ArA
open Go Go.RowKit AM ArEnv
/-- What the walks on the heap need. -/
structure HpOk (hp : List Blk) (r q f L : Nat) (H : List Nat) (A : Arn) (s t z n many : Nat) (x : List Nat) : Prop where
  k : ArOk hp.length r q H A
  hx : Holds A s x
  hm : x.length ≤ 65536
  hf : hp[f]? = some (hB r s x.length t z many)
  hr : r ≠ f
  hq : q ≠ f
  hid : H.contains f = false
  hw : L ≤ r ∧ L ≤ q
  hwf : L ≤ f
  hz : (t : Int) + z ≤ A.live
  hn : 4 * n ≤ z
  hs : z ≤ 1048576
  hap : ∀ i, i < x.length → s + i < t ∨ t + 4 * n ≤ s + i
section
variable {hp : List Blk} {L : Nat} {H d : List Nat} {r q f : Nat} {A B : Arn} {s t z n m many : Nat} {x : List Nat} {W : Nat → Nat}
theorem HpOk.words (h : HpOk hp r q f L H A s t z n many x) (w : Words A B t n W) : HpOk hp r q f L H B s t z n many x :=
  { h with k := w.ok h.k, hx := w.holds h.hx h.hap, hz := by rw [w.live]; exact h.hz }
theorem Words.get' {i : Nat} {e : Int} (h : HpOk hp r q f L H A s t z n many x) (w : Words A B t n W) (hi : i < n) (hb : W i ≤ x.length) (he : e = (i : Int)) : B.wordV t z e = W i := by
  have := h.hm
  rw [he]; exact w.get h.hz h.hn h.hs hi (by omega)
theorem Words.set' {i v : Nat} {e : Int} (h : HpOk hp r q f L H A s t z n many x) (w : Words A B t n W) (hi : i < n) (he : e = (i : Int)) : Words A (B.setWord t z e v) t n (upd W i v) := by
  rw [he]; exact w.set h.hz h.k.live1 h.hn h.hs hi
theorem sink_a (hF : Fit hp.length L H) (h : HpOk hp r q f L H A s t z n many x) (w : Words A B t n W) (hmn : many ≤ n) (hW : ∀ j, j < many → W j ≤ x.length) {i : Nat} (c1 : 2 * i + 2 < many) (c2 : slt x (W (2 * i + 1)) (W (2 * i + 2)) = true) :
    (slt x (W i) (W (2 * i + 2)) = false → ∃ fr, Liter env lb83_0 [0, 1] hp.length [(0, .pointer (some ⟨f, 0, some 0⟩)), (1, .int .i64 i)] ⟨put hp r q B, L, H, []⟩ = some (.ret, fr, ⟨put hp r q B, L, H, []⟩)) ∧
    (slt x (W i) (W (2 * i + 2)) = true → Liter env lb83_0 [0, 1] hp.length [(0, .pointer (some ⟨f, 0, some 0⟩)), (1, .int .i64 i)] ⟨put hp r q B, L, H, []⟩ =
      Liter env lb83_0 [0, 1] hp.length [(0, .pointer (some ⟨f, 0, some 0⟩)), (1, .int .i64 (2 * (i : Int) + 1 + 1))] ⟨put hp r q ((B.setWord t z i (W (2 * i + 2))).setWord t z (2 * (i : Int) + 1 + 1) (W i)), L, H, []⟩) := by
  have o := h.words w
  have k := o.k
  have h1 := o.k.r_lt
  have h2 := o.k.q_lt
  have hf := o.hf
  have hid := o.hid
  have hr := o.hr
  have hq := o.hq
  have hfl : f < hp.length := (List.getElem?_eq_some_iff.1 o.hf).1
  have hne := o.k.ne
  have hm := o.hm
  have hs := o.hs
  have hn := o.hn
  have w0 := hW i (by omega)
  have w1 := hW (2 * i + 1) (by omega)
  have w2 := hW (2 * i + 2) (by omega)
  have g0 : B.wordV t z (i : Int) = W i := w.get' h (by omega) w0 rfl
  have g1 : B.wordV t z (2 * (i : Int) + 1) = W (2 * i + 1) := w.get' h (by omega) w1 (by omega)
  have g2 : B.wordV t z (2 * (i : Int) + 1 + 1) = W (2 * i + 2) := w.get' h (by omega) w2 (by omega)
  have c3 : 2 * (i : Int) + 1 + 1 < many := by omega
  have c4 : ¬ 2 * (i : Int) + 1 + 1 ≥ many := by omega
  have hg := fun d e => hget_walk (d := d) hF o.k hf hr hq hid e
  have hl := fun d a b (ha : a ≤ x.length) (hb : b ≤ x.length) => hless_walk (d := d) hF o.k o.hx hm hf hr hq hid ha hb
  have l1 := fun d => hl d _ _ w1 w2
  have l2 := fun d => hl d _ _ w0 w2
  refine ⟨fun c5 => ?_, fun c5 => ?_⟩
  · rw [iter_by lb83_0.eq_1]
    simp (disch := (first | omega | (simp only [lnE, put_length] <;> omega) | (refine Fit.mono ‹Fit _ _ _› ?_ <;> (simp only [lnE, put_length] <;> omega)) | (refine Fit.draw ‹Fit _ _ _› ?_ ?_ <;> (simp only [lnE, put_length] <;> omega)) | (refine Fit.hid1 ‹Fit _ _ _› ?_ ?_ <;> (simp only [lnE, put_length] <;> omega)) | (refine Fit.draw1 ‹Fit _ _ _› ?_ ?_ ?_ <;> (simp only [lnE, put_length] <;> omega)) | (refine Fit.range0 ?_ ?_ <;> (simp only [lnE, put_length] <;> omega)) | (refine ArOk.mono ‹ArOk _ _ _ _ _› ?_ <;> (simp only [lnE, put_length] <;> omega)) | (refine ArOk.hid ‹ArOk _ _ _ _ _› ?_ ?_ <;> (simp only [lnE, put_length] <;> omega)) | (refine ArOk.hid0 ‹ArOk _ _ _ _ _› ?_ ?_ <;> (simp only [lnE, put_length] <;> omega)) | ((intro xr hxr; simp [AM.refs, refsF, refsC] at hxr) <;> (simp only [lnE, put_length] <;> omega)) | fail)) only [syA, syB, argFr, D, E, T, C, undefv, eqF, aeq, sheqs, sheq, rdCells, cellsOf, fill, putAt, if_true, if_false, reduceIte, ↓reduceIte, reduceCtorEq, eq_self, Nat.reduceEqDiff, Nat.reduceAdd, Nat.reduceSub, Nat.reduceMul, Nat.reduceLT, Nat.reduceLeDiff, Nat.reducePow, Nat.reduceDiv, Nat.reduceMod, Int.reduceLT, Int.reduceLE, Int.reduceGT, Int.reduceGE, Int.reduceToNat, Int.reducePow, Int.reduceNeg, Int.reduceBEq, Int.reduceBNe, Int.reduceEq, Int.reduceAdd, Int.reduceSub, Int.reduceMul, cellv, sc, flatv, refs, refsF, refsC, syR, Int.le_refl, hF.not0, hF.not1, hF.up0, hF.up1, k.hr, k.hq, hf, hid, hB, hg, g0, g1, g2, l1, l2, c2, c3, c4, c5]
    exact ⟨_, rfl⟩
  · have k1 := o.k.setWord (s := t) (len := z) (i := (i : Int)) (v := W (2 * i + 2))
    have s1 := fun d => hset_walk (d := d) (i := (i : Int)) (v := W (2 * i + 2)) hF o.k o.hw hf hr hq hid (by omega)
    have s2 := fun d => hset_walk (d := d) (i := 2 * (i : Int) + 1 + 1) (v := W i) hF k1 o.hw hf hr hq hid (by omega)
    rw [iter_by lb83_0.eq_1]
    simp (disch := (first | omega | (simp only [lnE, put_length] <;> omega) | (refine Fit.mono ‹Fit _ _ _› ?_ <;> (simp only [lnE, put_length] <;> omega)) | (refine Fit.draw ‹Fit _ _ _› ?_ ?_ <;> (simp only [lnE, put_length] <;> omega)) | (refine Fit.hid1 ‹Fit _ _ _› ?_ ?_ <;> (simp only [lnE, put_length] <;> omega)) | (refine Fit.draw1 ‹Fit _ _ _› ?_ ?_ ?_ <;> (simp only [lnE, put_length] <;> omega)) | (refine Fit.range0 ?_ ?_ <;> (simp only [lnE, put_length] <;> omega)) | (refine ArOk.mono ‹ArOk _ _ _ _ _› ?_ <;> (simp only [lnE, put_length] <;> omega)) | (refine ArOk.hid ‹ArOk _ _ _ _ _› ?_ ?_ <;> (simp only [lnE, put_length] <;> omega)) | (refine ArOk.hid0 ‹ArOk _ _ _ _ _› ?_ ?_ <;> (simp only [lnE, put_length] <;> omega)) | ((intro xr hxr; simp [AM.refs, refsF, refsC] at hxr) <;> (simp only [lnE, put_length] <;> omega)) | fail)) only [syA, syB, argFr, D, E, T, C, undefv, eqF, aeq, sheqs, sheq, rdCells, cellsOf, fill, putAt, if_true, if_false, reduceIte, ↓reduceIte, reduceCtorEq, eq_self, Nat.reduceEqDiff, Nat.reduceAdd, Nat.reduceSub, Nat.reduceMul, Nat.reduceLT, Nat.reduceLeDiff, Nat.reducePow, Nat.reduceDiv, Nat.reduceMod, Int.reduceLT, Int.reduceLE, Int.reduceGT, Int.reduceGE, Int.reduceToNat, Int.reducePow, Int.reduceNeg, Int.reduceBEq, Int.reduceBNe, Int.reduceEq, Int.reduceAdd, Int.reduceSub, Int.reduceMul, cellv, sc, flatv, refs, refsF, refsC, syR, Int.le_refl, hF.not0, hF.not1, hF.up0, hF.up1, k.hr, k.hq, hf, hid, hB, hg, g0, g1, g2, l1, l2, c2, c3, c4, c5, s1, s2]
theorem sink_b (hF : Fit hp.length L H) (h : HpOk hp r q f L H A s t z n many x) (w : Words A B t n W) (hmn : many ≤ n) (hW : ∀ j, j < many → W j ≤ x.length) {i : Nat} (c1 : 2 * i + 2 < many) (c2 : slt x (W (2 * i + 1)) (W (2 * i + 2)) = false) :
    (slt x (W i) (W (2 * i + 1)) = false → ∃ fr, Liter env lb83_0 [0, 1] hp.length [(0, .pointer (some ⟨f, 0, some 0⟩)), (1, .int .i64 i)] ⟨put hp r q B, L, H, []⟩ = some (.ret, fr, ⟨put hp r q B, L, H, []⟩)) ∧
    (slt x (W i) (W (2 * i + 1)) = true → Liter env lb83_0 [0, 1] hp.length [(0, .pointer (some ⟨f, 0, some 0⟩)), (1, .int .i64 i)] ⟨put hp r q B, L, H, []⟩ =
      Liter env lb83_0 [0, 1] hp.length [(0, .pointer (some ⟨f, 0, some 0⟩)), (1, .int .i64 (2 * (i : Int) + 1))] ⟨put hp r q ((B.setWord t z i (W (2 * i + 1))).setWord t z (2 * (i : Int) + 1) (W i)), L, H, []⟩) := by
  have o := h.words w
  have k := o.k
  have h1 := o.k.r_lt
  have h2 := o.k.q_lt
  have hf := o.hf
  have hid := o.hid
  have hr := o.hr
  have hq := o.hq
  have hfl : f < hp.length := (List.getElem?_eq_some_iff.1 o.hf).1
  have hne := o.k.ne
  have hm := o.hm
  have hs := o.hs
  have hn := o.hn
  have w0 := hW i (by omega)
  have w1 := hW (2 * i + 1) (by omega)
  have w2 := hW (2 * i + 2) (by omega)
  have g0 : B.wordV t z (i : Int) = W i := w.get' h (by omega) w0 rfl
  have g1 : B.wordV t z (2 * (i : Int) + 1) = W (2 * i + 1) := w.get' h (by omega) w1 (by omega)
  have g2 : B.wordV t z (2 * (i : Int) + 1 + 1) = W (2 * i + 2) := w.get' h (by omega) w2 (by omega)
  have c3 : 2 * (i : Int) + 1 + 1 < many := by omega
  have c4 : ¬ 2 * (i : Int) + 1 ≥ many := by omega
  have hg := fun d e => hget_walk (d := d) hF o.k hf hr hq hid e
  have hl := fun d a b (ha : a ≤ x.length) (hb : b ≤ x.length) => hless_walk (d := d) hF o.k o.hx hm hf hr hq hid ha hb
  have l1 := fun d => hl d _ _ w1 w2
  have l2 := fun d => hl d _ _ w0 w1
  refine ⟨fun c5 => ?_, fun c5 => ?_⟩
  · rw [iter_by lb83_0.eq_1]
    simp (disch := (first | omega | (simp only [lnE, put_length] <;> omega) | (refine Fit.mono ‹Fit _ _ _› ?_ <;> (simp only [lnE, put_length] <;> omega)) | (refine Fit.draw ‹Fit _ _ _› ?_ ?_ <;> (simp only [lnE, put_length] <;> omega)) | (refine Fit.hid1 ‹Fit _ _ _› ?_ ?_ <;> (simp only [lnE, put_length] <;> omega)) | (refine Fit.draw1 ‹Fit _ _ _› ?_ ?_ ?_ <;> (simp only [lnE, put_length] <;> omega)) | (refine Fit.range0 ?_ ?_ <;> (simp only [lnE, put_length] <;> omega)) | (refine ArOk.mono ‹ArOk _ _ _ _ _› ?_ <;> (simp only [lnE, put_length] <;> omega)) | (refine ArOk.hid ‹ArOk _ _ _ _ _› ?_ ?_ <;> (simp only [lnE, put_length] <;> omega)) | (refine ArOk.hid0 ‹ArOk _ _ _ _ _› ?_ ?_ <;> (simp only [lnE, put_length] <;> omega)) | ((intro xr hxr; simp [AM.refs, refsF, refsC] at hxr) <;> (simp only [lnE, put_length] <;> omega)) | fail)) only [syA, syB, argFr, D, E, T, C, undefv, eqF, aeq, sheqs, sheq, rdCells, cellsOf, fill, putAt, if_true, if_false, reduceIte, ↓reduceIte, reduceCtorEq, eq_self, Nat.reduceEqDiff, Nat.reduceAdd, Nat.reduceSub, Nat.reduceMul, Nat.reduceLT, Nat.reduceLeDiff, Nat.reducePow, Nat.reduceDiv, Nat.reduceMod, Int.reduceLT, Int.reduceLE, Int.reduceGT, Int.reduceGE, Int.reduceToNat, Int.reducePow, Int.reduceNeg, Int.reduceBEq, Int.reduceBNe, Int.reduceEq, Int.reduceAdd, Int.reduceSub, Int.reduceMul, cellv, sc, flatv, refs, refsF, refsC, syR, Int.le_refl, hF.not0, hF.not1, hF.up0, hF.up1, k.hr, k.hq, hf, hid, hB, hg, g0, g1, g2, l1, l2, c2, c3, c4, c5]
    exact ⟨_, rfl⟩
  · have k1 := o.k.setWord (s := t) (len := z) (i := (i : Int)) (v := W (2 * i + 1))
    have s1 := fun d => hset_walk (d := d) (i := (i : Int)) (v := W (2 * i + 1)) hF o.k o.hw hf hr hq hid (by omega)
    have s2 := fun d => hset_walk (d := d) (i := 2 * (i : Int) + 1) (v := W i) hF k1 o.hw hf hr hq hid (by omega)
    rw [iter_by lb83_0.eq_1]
    simp (disch := (first | omega | (simp only [lnE, put_length] <;> omega) | (refine Fit.mono ‹Fit _ _ _› ?_ <;> (simp only [lnE, put_length] <;> omega)) | (refine Fit.draw ‹Fit _ _ _› ?_ ?_ <;> (simp only [lnE, put_length] <;> omega)) | (refine Fit.hid1 ‹Fit _ _ _› ?_ ?_ <;> (simp only [lnE, put_length] <;> omega)) | (refine Fit.draw1 ‹Fit _ _ _› ?_ ?_ ?_ <;> (simp only [lnE, put_length] <;> omega)) | (refine Fit.range0 ?_ ?_ <;> (simp only [lnE, put_length] <;> omega)) | (refine ArOk.mono ‹ArOk _ _ _ _ _› ?_ <;> (simp only [lnE, put_length] <;> omega)) | (refine ArOk.hid ‹ArOk _ _ _ _ _› ?_ ?_ <;> (simp only [lnE, put_length] <;> omega)) | (refine ArOk.hid0 ‹ArOk _ _ _ _ _› ?_ ?_ <;> (simp only [lnE, put_length] <;> omega)) | ((intro xr hxr; simp [AM.refs, refsF, refsC] at hxr) <;> (simp only [lnE, put_length] <;> omega)) | fail)) only [syA, syB, argFr, D, E, T, C, undefv, eqF, aeq, sheqs, sheq, rdCells, cellsOf, fill, putAt, if_true, if_false, reduceIte, ↓reduceIte, reduceCtorEq, eq_self, Nat.reduceEqDiff, Nat.reduceAdd, Nat.reduceSub, Nat.reduceMul, Nat.reduceLT, Nat.reduceLeDiff, Nat.reducePow, Nat.reduceDiv, Nat.reduceMod, Int.reduceLT, Int.reduceLE, Int.reduceGT, Int.reduceGE, Int.reduceToNat, Int.reducePow, Int.reduceNeg, Int.reduceBEq, Int.reduceBNe, Int.reduceEq, Int.reduceAdd, Int.reduceSub, Int.reduceMul, cellv, sc, flatv, refs, refsF, refsC, syR, Int.le_refl, hF.not0, hF.not1, hF.up0, hF.up1, k.hr, k.hq, hf, hid, hB, hg, g0, g1, g2, l1, l2, c2, c3, c4, c5, s1, s2]
theorem sink_c (hF : Fit hp.length L H) (h : HpOk hp r q f L H A s t z n many x) (w : Words A B t n W) (hmn : many ≤ n) (hW : ∀ j, j < many → W j ≤ x.length) {i : Nat} (c1 : ¬ 2 * i + 2 < many) (c2 : 2 * i + 1 < many) :
    (slt x (W i) (W (2 * i + 1)) = false → ∃ fr, Liter env lb83_0 [0, 1] hp.length [(0, .pointer (some ⟨f, 0, some 0⟩)), (1, .int .i64 i)] ⟨put hp r q B, L, H, []⟩ = some (.ret, fr, ⟨put hp r q B, L, H, []⟩)) ∧
    (slt x (W i) (W (2 * i + 1)) = true → Liter env lb83_0 [0, 1] hp.length [(0, .pointer (some ⟨f, 0, some 0⟩)), (1, .int .i64 i)] ⟨put hp r q B, L, H, []⟩ =
      Liter env lb83_0 [0, 1] hp.length [(0, .pointer (some ⟨f, 0, some 0⟩)), (1, .int .i64 (2 * (i : Int) + 1))] ⟨put hp r q ((B.setWord t z i (W (2 * i + 1))).setWord t z (2 * (i : Int) + 1) (W i)), L, H, []⟩) := by
  have o := h.words w
  have k := o.k
  have h1 := o.k.r_lt
  have h2 := o.k.q_lt
  have hf := o.hf
  have hid := o.hid
  have hr := o.hr
  have hq := o.hq
  have hfl : f < hp.length := (List.getElem?_eq_some_iff.1 o.hf).1
  have hne := o.k.ne
  have hm := o.hm
  have hs := o.hs
  have hn := o.hn
  have w0 := hW i (by omega)
  have w1 := hW (2 * i + 1) (by omega)
  have g0 : B.wordV t z (i : Int) = W i := w.get' h (by omega) w0 rfl
  have g1 : B.wordV t z (2 * (i : Int) + 1) = W (2 * i + 1) := w.get' h (by omega) w1 (by omega)
  have c3 : ¬ 2 * (i : Int) + 1 + 1 < many := by omega
  have c4 : ¬ 2 * (i : Int) + 1 ≥ many := by omega
  have hg := fun d e => hget_walk (d := d) hF o.k hf hr hq hid e
  have hl := fun d a b (ha : a ≤ x.length) (hb : b ≤ x.length) => hless_walk (d := d) hF o.k o.hx hm hf hr hq hid ha hb
  have l2 := fun d => hl d _ _ w0 w1
  refine ⟨fun c5 => ?_, fun c5 => ?_⟩
  · rw [iter_by lb83_0.eq_1]
    simp (disch := (first | omega | (simp only [lnE, put_length] <;> omega) | (refine Fit.mono ‹Fit _ _ _› ?_ <;> (simp only [lnE, put_length] <;> omega)) | (refine Fit.draw ‹Fit _ _ _› ?_ ?_ <;> (simp only [lnE, put_length] <;> omega)) | (refine Fit.hid1 ‹Fit _ _ _› ?_ ?_ <;> (simp only [lnE, put_length] <;> omega)) | (refine Fit.draw1 ‹Fit _ _ _› ?_ ?_ ?_ <;> (simp only [lnE, put_length] <;> omega)) | (refine Fit.range0 ?_ ?_ <;> (simp only [lnE, put_length] <;> omega)) | (refine ArOk.mono ‹ArOk _ _ _ _ _› ?_ <;> (simp only [lnE, put_length] <;> omega)) | (refine ArOk.hid ‹ArOk _ _ _ _ _› ?_ ?_ <;> (simp only [lnE, put_length] <;> omega)) | (refine ArOk.hid0 ‹ArOk _ _ _ _ _› ?_ ?_ <;> (simp only [lnE, put_length] <;> omega)) | ((intro xr hxr; simp [AM.refs, refsF, refsC] at hxr) <;> (simp only [lnE, put_length] <;> omega)) | fail)) only [syA, syB, argFr, D, E, T, C, undefv, eqF, aeq, sheqs, sheq, rdCells, cellsOf, fill, putAt, if_true, if_false, reduceIte, ↓reduceIte, reduceCtorEq, eq_self, Nat.reduceEqDiff, Nat.reduceAdd, Nat.reduceSub, Nat.reduceMul, Nat.reduceLT, Nat.reduceLeDiff, Nat.reducePow, Nat.reduceDiv, Nat.reduceMod, Int.reduceLT, Int.reduceLE, Int.reduceGT, Int.reduceGE, Int.reduceToNat, Int.reducePow, Int.reduceNeg, Int.reduceBEq, Int.reduceBNe, Int.reduceEq, Int.reduceAdd, Int.reduceSub, Int.reduceMul, cellv, sc, flatv, refs, refsF, refsC, syR, Int.le_refl, hF.not0, hF.not1, hF.up0, hF.up1, k.hr, k.hq, hf, hid, hB, hg, g0, g1, l2, c3, c4, c5]
    exact ⟨_, rfl⟩
  · have k1 := o.k.setWord (s := t) (len := z) (i := (i : Int)) (v := W (2 * i + 1))
    have s1 := fun d => hset_walk (d := d) (i := (i : Int)) (v := W (2 * i + 1)) hF o.k o.hw hf hr hq hid (by omega)
    have s2 := fun d => hset_walk (d := d) (i := 2 * (i : Int) + 1) (v := W i) hF k1 o.hw hf hr hq hid (by omega)
    rw [iter_by lb83_0.eq_1]
    simp (disch := (first | omega | (simp only [lnE, put_length] <;> omega) | (refine Fit.mono ‹Fit _ _ _› ?_ <;> (simp only [lnE, put_length] <;> omega)) | (refine Fit.draw ‹Fit _ _ _› ?_ ?_ <;> (simp only [lnE, put_length] <;> omega)) | (refine Fit.hid1 ‹Fit _ _ _› ?_ ?_ <;> (simp only [lnE, put_length] <;> omega)) | (refine Fit.draw1 ‹Fit _ _ _› ?_ ?_ ?_ <;> (simp only [lnE, put_length] <;> omega)) | (refine Fit.range0 ?_ ?_ <;> (simp only [lnE, put_length] <;> omega)) | (refine ArOk.mono ‹ArOk _ _ _ _ _› ?_ <;> (simp only [lnE, put_length] <;> omega)) | (refine ArOk.hid ‹ArOk _ _ _ _ _› ?_ ?_ <;> (simp only [lnE, put_length] <;> omega)) | (refine ArOk.hid0 ‹ArOk _ _ _ _ _› ?_ ?_ <;> (simp only [lnE, put_length] <;> omega)) | ((intro xr hxr; simp [AM.refs, refsF, refsC] at hxr) <;> (simp only [lnE, put_length] <;> omega)) | fail)) only [syA, syB, argFr, D, E, T, C, undefv, eqF, aeq, sheqs, sheq, rdCells, cellsOf, fill, putAt, if_true, if_false, reduceIte, ↓reduceIte, reduceCtorEq, eq_self, Nat.reduceEqDiff, Nat.reduceAdd, Nat.reduceSub, Nat.reduceMul, Nat.reduceLT, Nat.reduceLeDiff, Nat.reducePow, Nat.reduceDiv, Nat.reduceMod, Int.reduceLT, Int.reduceLE, Int.reduceGT, Int.reduceGE, Int.reduceToNat, Int.reducePow, Int.reduceNeg, Int.reduceBEq, Int.reduceBNe, Int.reduceEq, Int.reduceAdd, Int.reduceSub, Int.reduceMul, cellv, sc, flatv, refs, refsF, refsC, syR, Int.le_refl, hF.not0, hF.not1, hF.up0, hF.up1, k.hr, k.hq, hf, hid, hB, hg, g0, g1, l2, c3, c4, c5, s1, s2]
theorem sink_d (hF : Fit hp.length L H) (h : HpOk hp r q f L H A s t z n many x) (w : Words A B t n W) (hmn : many ≤ n) (hW : ∀ j, j < many → W j ≤ x.length) {i : Nat} (hin : i < many) (c1 : ¬ 2 * i + 2 < many) (c2 : ¬ 2 * i + 1 < many) :
    ∃ fr, Liter env lb83_0 [0, 1] hp.length [(0, .pointer (some ⟨f, 0, some 0⟩)), (1, .int .i64 i)] ⟨put hp r q B, L, H, []⟩ = some (.ret, fr, ⟨put hp r q B, L, H, []⟩) := by
  have o := h.words w
  have k := o.k
  have h1 := o.k.r_lt
  have h2 := o.k.q_lt
  have hf := o.hf
  have hid := o.hid
  have hr := o.hr
  have hq := o.hq
  have hfl : f < hp.length := (List.getElem?_eq_some_iff.1 o.hf).1
  have hne := o.k.ne
  have hs := o.hs
  have hn := o.hn
  have c3 : ¬ 2 * (i : Int) + 1 + 1 < many := by omega
  have c4 : 2 * (i : Int) + 1 ≥ many := by omega
  rw [iter_by lb83_0.eq_1]
  simp (disch := (first | omega | (simp only [lnE, put_length] <;> omega) | (refine Fit.mono ‹Fit _ _ _› ?_ <;> (simp only [lnE, put_length] <;> omega)) | (refine Fit.draw ‹Fit _ _ _› ?_ ?_ <;> (simp only [lnE, put_length] <;> omega)) | (refine Fit.hid1 ‹Fit _ _ _› ?_ ?_ <;> (simp only [lnE, put_length] <;> omega)) | (refine Fit.draw1 ‹Fit _ _ _› ?_ ?_ ?_ <;> (simp only [lnE, put_length] <;> omega)) | (refine Fit.range0 ?_ ?_ <;> (simp only [lnE, put_length] <;> omega)) | (refine ArOk.mono ‹ArOk _ _ _ _ _› ?_ <;> (simp only [lnE, put_length] <;> omega)) | (refine ArOk.hid ‹ArOk _ _ _ _ _› ?_ ?_ <;> (simp only [lnE, put_length] <;> omega)) | (refine ArOk.hid0 ‹ArOk _ _ _ _ _› ?_ ?_ <;> (simp only [lnE, put_length] <;> omega)) | ((intro xr hxr; simp [AM.refs, refsF, refsC] at hxr) <;> (simp only [lnE, put_length] <;> omega)) | fail)) only [syA, syB, argFr, D, E, T, C, undefv, eqF, aeq, sheqs, sheq, rdCells, cellsOf, fill, putAt, if_true, if_false, reduceIte, ↓reduceIte, reduceCtorEq, eq_self, Nat.reduceEqDiff, Nat.reduceAdd, Nat.reduceSub, Nat.reduceMul, Nat.reduceLT, Nat.reduceLeDiff, Nat.reducePow, Nat.reduceDiv, Nat.reduceMod, Int.reduceLT, Int.reduceLE, Int.reduceGT, Int.reduceGE, Int.reduceToNat, Int.reducePow, Int.reduceNeg, Int.reduceBEq, Int.reduceBNe, Int.reduceEq, Int.reduceAdd, Int.reduceSub, Int.reduceMul, cellv, sc, flatv, refs, refsF, refsC, syR, Int.le_refl, hF.not0, hF.not1, hF.up0, hF.up1, k.hr, k.hq, hf, hid, hB, c3, c4]
  exact ⟨_, rfl⟩
theorem Words.swap {i j : Nat} {e : Int} (h : HpOk hp r q f L H A s t z n many x) (w : Words A B t n W) (hi : i < n) (hj : j < n) (he : e = (j : Int)) : Words A ((B.setWord t z i (W j)).setWord t z e (W i)) t n (swp W i j) := by
  have w1 := w.set' (v := W j) h hi rfl
  exact w1.set' (v := W i) h hj he
theorem sink_loop (hF : Fit hp.length L H) (h : HpOk hp r q f L H A s t z n many x) (hmn : many ≤ n) : ∀ (g : Nat) (W : Nat → Nat) (B : Arn) (i : Nat), Words A B t n W → (∀ j, j < many → W j ≤ x.length) → i < many → many ≤ i + g → ∃ fr C,
    Liter env lb83_0 [0, 1] hp.length [(0, .pointer (some ⟨f, 0, some 0⟩)), (1, .int .i64 i)] ⟨put hp r q B, L, H, []⟩ = some (.ret, fr, ⟨put hp r q C, L, H, []⟩) ∧ Words A C t n (sinkW (slt x) many g W i)
  | 0, W, B, i, w, hW, hi, hg => by omega
  | g + 1, W, B, i, w, hW, hi, hg => by
    have hsw : ∀ j, j < many → ∀ a, a < many → swp W i j a ≤ x.length := fun j hj a ha => by
      rw [swp_at]; split
      · exact hW _ hi
      split
      · exact hW _ hj
      · exact hW _ ha
    unfold sinkW
    by_cases c1 : 2 * i + 2 < many
    · cases c2 : slt x (W (2 * i + 1)) (W (2 * i + 2)) with
      | true =>
        have hk : kid (slt x) W many i = 2 * i + 2 := if_pos ⟨c1, c2⟩
        rw [hk]
        obtain ⟨a1, a2⟩ := sink_a hF h w hmn hW c1 c2
        cases c3 : slt x (W i) (W (2 * i + 2)) with
        | false =>
          rw [if_pos (.inr rfl)]
          obtain ⟨fr, e⟩ := a1 c3
          exact ⟨fr, B, e, w⟩
        | true =>
          rw [if_neg (by simp; omega), a2 c3]
          obtain ⟨fr, C', e1, e2⟩ := sink_loop hF h hmn g _ _ (2 * i + 2) (w.swap h (i := i) (j := 2 * i + 2) (e := 2 * (i : Int) + 1 + 1) (by omega) (by omega) (by omega)) (hsw _ c1) c1 (by omega)
          exact ⟨fr, C', by rw [← e1]; rfl, e2⟩
      | false =>
        have hk : kid (slt x) W many i = 2 * i + 1 := if_neg (fun c => by rw [c2] at c; cases c.2)
        rw [hk]
        obtain ⟨a1, a2⟩ := sink_b hF h w hmn hW c1 c2
        cases c3 : slt x (W i) (W (2 * i + 1)) with
        | false =>
          rw [if_pos (.inr rfl)]
          obtain ⟨fr, e⟩ := a1 c3
          exact ⟨fr, B, e, w⟩
        | true =>
          rw [if_neg (by simp; omega), a2 c3]
          obtain ⟨fr, C', e1, e2⟩ := sink_loop hF h hmn g _ _ (2 * i + 1) (w.swap h (i := i) (j := 2 * i + 1) (e := 2 * (i : Int) + 1) (by omega) (by omega) (by omega)) (hsw _ (by omega)) (by omega) (by omega)
          exact ⟨fr, C', by rw [← e1]; rfl, e2⟩
    · have hk : kid (slt x) W many i = 2 * i + 1 := if_neg (fun c => c1 c.1)
      rw [hk]
      by_cases c2 : 2 * i + 1 < many
      · obtain ⟨a1, a2⟩ := sink_c hF h w hmn hW c1 c2
        cases c3 : slt x (W i) (W (2 * i + 1)) with
        | false =>
          rw [if_pos (.inr rfl)]
          obtain ⟨fr, e⟩ := a1 c3
          exact ⟨fr, B, e, w⟩
        | true =>
          rw [if_neg (by simp; omega), a2 c3]
          obtain ⟨fr, C', e1, e2⟩ := sink_loop hF h hmn g _ _ (2 * i + 1) (w.swap h (i := i) (j := 2 * i + 1) (e := 2 * (i : Int) + 1) (by omega) (by omega) (by omega)) (hsw _ (by omega)) (by omega) (by omega)
          exact ⟨fr, C', by rw [← e1]; rfl, e2⟩
      · rw [if_pos (.inl (by omega))]
        obtain ⟨fr, e⟩ := sink_d hF h w hmn hW hi c1 c2
        exact ⟨fr, B, e, w⟩
theorem sink_walk (hF : Fit hp.length L H) (h : HpOk hp r q f L H A s t z n many x) (hmn : many ≤ n) (w : Words A B t n W) (hW : ∀ j, j < many → W j ≤ x.length) (h0 : 0 < many) : ∃ C,
    (∀ d, Lrun env (.func 83) [.pointer (some ⟨f, 0, some 0⟩), .int .i64 0] ⟨put hp r q B, L, H, d⟩ = some (.tuple #[], ⟨put hp r q C, L, H, d⟩)) ∧ Words A C t n (sinkW (slt x) many many W 0) := by
  have k := (h.words w).k
  have h1 := k.r_lt
  have h2 := k.q_lt
  have hne := k.ne
  obtain ⟨fr, C', e1, e2⟩ := sink_loop hF h hmn many W B 0 w hW h0 (by omega)
  simp only [Int.natCast_zero] at e1
  refine ⟨C', fun d => ?_, e2⟩
  rw [Lrun_sym 83 _ _ fn83]
  simp (disch := (first | omega | (simp only [lnE, put_length] <;> omega) | (refine Fit.mono ‹Fit _ _ _› ?_ <;> (simp only [lnE, put_length] <;> omega)) | (refine Fit.draw ‹Fit _ _ _› ?_ ?_ <;> (simp only [lnE, put_length] <;> omega)) | (refine Fit.hid1 ‹Fit _ _ _› ?_ ?_ <;> (simp only [lnE, put_length] <;> omega)) | (refine Fit.draw1 ‹Fit _ _ _› ?_ ?_ ?_ <;> (simp only [lnE, put_length] <;> omega)) | (refine Fit.range0 ?_ ?_ <;> (simp only [lnE, put_length] <;> omega)) | (refine ArOk.mono ‹ArOk _ _ _ _ _› ?_ <;> (simp only [lnE, put_length] <;> omega)) | (refine ArOk.hid ‹ArOk _ _ _ _ _› ?_ ?_ <;> (simp only [lnE, put_length] <;> omega)) | (refine ArOk.hid0 ‹ArOk _ _ _ _ _› ?_ ?_ <;> (simp only [lnE, put_length] <;> omega)) | ((intro xr hxr; simp [AM.refs, refsF, refsC] at hxr) <;> (simp only [lnE, put_length] <;> omega)) | fail)) only [syA, syB, argFr, D, E, T, C, undefv, eqF, aeq, sheqs, sheq, rdCells, cellsOf, fill, putAt, if_true, if_false, reduceIte, ↓reduceIte, reduceCtorEq, eq_self, Nat.reduceEqDiff, Nat.reduceAdd, Nat.reduceSub, Nat.reduceMul, Nat.reduceLT, Nat.reduceLeDiff, Nat.reducePow, Nat.reduceDiv, Nat.reduceMod, Int.reduceLT, Int.reduceLE, Int.reduceGT, Int.reduceGE, Int.reduceToNat, Int.reducePow, Int.reduceNeg, Int.reduceBEq, Int.reduceBNe, Int.reduceEq, Int.reduceAdd, Int.reduceSub, Int.reduceMul, cellv, sc, flatv, refs, refsF, refsC, syR, Int.le_refl, hF.not0, hF.not1, hF.up0, hF.up1, k.hr, k.hq, ac83, e1]
end
end ArA
end Go.Proofs.Ytlphmnhkkhcjfaa
end
section
set_option linter.all false
namespace Go.Proofs.Ytlphmnhkkhcjfaa
namespace ArA
open Go Go.RowKit AM ArEnv
section
variable {hp : List Blk} {L : Nat} {H d : List Nat} {r q f : Nat} {A B : Arn} {s t z n m many : Nat} {x : List Nat} {W : Nat → Nat}
theorem HpOk.to {m2 : Nat} (h : HpOk hp r q f L H A s t z n many x) : HpOk (hp.set f (hB r s x.length t z m2)) r q f L H A s t z n m2 x :=
  { h with k := h.k.mono (by simp), hf := by rw [List.getElem?_set_self (List.getElem?_eq_some_iff.1 h.hf).1] }
theorem rise_step (hF : Fit hp.length L H) (h : HpOk hp r q f L H A s t z n many x) (w : Words A B t n W) (hmn : many ≤ n) (hW : ∀ j, j < many → W j ≤ x.length) {i : Nat} (hi : i < many) (h0 : 0 < i) (hm : many ≤ 65537) :
    (slt x (W ((i - 1) / 2)) (W i) = false → ∃ fr, Liter env lb81_0 [0, 4] hp.length [(0, .pointer (some ⟨f, 0, some 0⟩)), (4, .int .i64 i)] ⟨put hp r q B, L, H, []⟩ = some (.ret, fr, ⟨put hp r q B, L, H, []⟩)) ∧
    (slt x (W ((i - 1) / 2)) (W i) = true → Liter env lb81_0 [0, 4] hp.length [(0, .pointer (some ⟨f, 0, some 0⟩)), (4, .int .i64 i)] ⟨put hp r q B, L, H, []⟩ =
      Liter env lb81_0 [0, 4] hp.length [(0, .pointer (some ⟨f, 0, some 0⟩)), (4, .int .i64 ((i - 1) / 2 : Nat))] ⟨put hp r q ((B.setWord t z ((i - 1) / 2 : Nat) (W i)).setWord t z i (W ((i - 1) / 2))), L, H, []⟩) := by
  have o := h.words w
  have k := o.k
  have h1 := o.k.r_lt
  have h2 := o.k.q_lt
  have hf := o.hf
  have hid := o.hid
  have hr := o.hr
  have hq := o.hq
  have hfl : f < hp.length := (List.getElem?_eq_some_iff.1 o.hf).1
  have hne := o.k.ne
  have hmx := o.hm
  have hs := o.hs
  have hn := o.hn
  have w0 := hW i (by omega)
  have w1 := hW ((i - 1) / 2) (by omega)
  have g0 : B.wordV t z (i : Int) = W i := w.get' h (by omega) w0 rfl
  have g1 : B.wordV t z (((i - 1) / 2 : Nat) : Int) = W ((i - 1) / 2) := w.get' h (by omega) w1 rfl
  have c0 : (i : Int) > 0 := by omega
  have c1 : Int.tdiv ((i : Int) - 1) 2 = (((i - 1) / 2 : Nat) : Int) := by
    rw [show (i : Int) - 1 = ((i - 1 : Nat) : Int) by omega]; rfl
  have hg := fun d e => hget_walk (d := d) hF o.k hf hr hq hid e
  have l2 := fun d => hless_walk (d := d) hF o.k o.hx hmx hf hr hq hid w1 w0
  refine ⟨fun c5 => ?_, fun c5 => ?_⟩
  · rw [iter_by lb81_0.eq_1]
    simp (disch := (first | omega | (simp only [lnE, put_length] <;> omega) | (refine Fit.mono ‹Fit _ _ _› ?_ <;> (simp only [lnE, put_length] <;> omega)) | (refine Fit.draw ‹Fit _ _ _› ?_ ?_ <;> (simp only [lnE, put_length] <;> omega)) | (refine Fit.hid1 ‹Fit _ _ _› ?_ ?_ <;> (simp only [lnE, put_length] <;> omega)) | (refine Fit.draw1 ‹Fit _ _ _› ?_ ?_ ?_ <;> (simp only [lnE, put_length] <;> omega)) | (refine Fit.range0 ?_ ?_ <;> (simp only [lnE, put_length] <;> omega)) | (refine ArOk.mono ‹ArOk _ _ _ _ _› ?_ <;> (simp only [lnE, put_length] <;> omega)) | (refine ArOk.hid ‹ArOk _ _ _ _ _› ?_ ?_ <;> (simp only [lnE, put_length] <;> omega)) | (refine ArOk.hid0 ‹ArOk _ _ _ _ _› ?_ ?_ <;> (simp only [lnE, put_length] <;> omega)) | ((intro xr hxr; simp [AM.refs, refsF, refsC] at hxr) <;> (simp only [lnE, put_length] <;> omega)) | fail)) only [syA, syB, argFr, D, E, T, C, undefv, eqF, aeq, sheqs, sheq, rdCells, cellsOf, fill, putAt, if_true, if_false, reduceIte, ↓reduceIte, reduceCtorEq, eq_self, Nat.reduceEqDiff, Nat.reduceAdd, Nat.reduceSub, Nat.reduceMul, Nat.reduceLT, Nat.reduceLeDiff, Nat.reducePow, Nat.reduceDiv, Nat.reduceMod, Int.reduceLT, Int.reduceLE, Int.reduceGT, Int.reduceGE, Int.reduceToNat, Int.reducePow, Int.reduceNeg, Int.reduceBEq, Int.reduceBNe, Int.reduceEq, Int.reduceAdd, Int.reduceSub, Int.reduceMul, cellv, sc, flatv, refs, refsF, refsC, syR, Int.le_refl, hF.not0, hF.not1, hF.up0, hF.up1, k.hr, k.hq, hf, hid, hB, hg, g0, g1, l2, c0, c1, c5]
    exact ⟨_, rfl⟩
  · have k1 := o.k.setWord (s := t) (len := z) (i := (((i - 1) / 2 : Nat) : Int)) (v := W i)
    have s1 := fun d => hset_walk (d := d) (i := (((i - 1) / 2 : Nat) : Int)) (v := W i) hF o.k o.hw hf hr hq hid (by omega)
    have s2 := fun d => hset_walk (d := d) (i := (i : Int)) (v := W ((i - 1) / 2)) hF k1 o.hw hf hr hq hid (by omega)
    rw [iter_by lb81_0.eq_1]
    simp (disch := (first | omega | (simp only [lnE, put_length] <;> omega) | (refine Fit.mono ‹Fit _ _ _› ?_ <;> (simp only [lnE, put_length] <;> omega)) | (refine Fit.draw ‹Fit _ _ _› ?_ ?_ <;> (simp only [lnE, put_length] <;> omega)) | (refine Fit.hid1 ‹Fit _ _ _› ?_ ?_ <;> (simp only [lnE, put_length] <;> omega)) | (refine Fit.draw1 ‹Fit _ _ _› ?_ ?_ ?_ <;> (simp only [lnE, put_length] <;> omega)) | (refine Fit.range0 ?_ ?_ <;> (simp only [lnE, put_length] <;> omega)) | (refine ArOk.mono ‹ArOk _ _ _ _ _› ?_ <;> (simp only [lnE, put_length] <;> omega)) | (refine ArOk.hid ‹ArOk _ _ _ _ _› ?_ ?_ <;> (simp only [lnE, put_length] <;> omega)) | (refine ArOk.hid0 ‹ArOk _ _ _ _ _› ?_ ?_ <;> (simp only [lnE, put_length] <;> omega)) | ((intro xr hxr; simp [AM.refs, refsF, refsC] at hxr) <;> (simp only [lnE, put_length] <;> omega)) | fail)) only [syA, syB, argFr, D, E, T, C, undefv, eqF, aeq, sheqs, sheq, rdCells, cellsOf, fill, putAt, if_true, if_false, reduceIte, ↓reduceIte, reduceCtorEq, eq_self, Nat.reduceEqDiff, Nat.reduceAdd, Nat.reduceSub, Nat.reduceMul, Nat.reduceLT, Nat.reduceLeDiff, Nat.reducePow, Nat.reduceDiv, Nat.reduceMod, Int.reduceLT, Int.reduceLE, Int.reduceGT, Int.reduceGE, Int.reduceToNat, Int.reducePow, Int.reduceNeg, Int.reduceBEq, Int.reduceBNe, Int.reduceEq, Int.reduceAdd, Int.reduceSub, Int.reduceMul, cellv, sc, flatv, refs, refsF, refsC, syR, Int.le_refl, hF.not0, hF.not1, hF.up0, hF.up1, k.hr, k.hq, hf, hid, hB, hg, g0, g1, l2, c0, c1, c5, s1, s2]
theorem rise_loop (hF : Fit hp.length L H) (h : HpOk hp r q f L H A s t z n many x) (hmn : many ≤ n) (hm : many ≤ 65537) : ∀ (g : Nat) (W : Nat → Nat) (B : Arn) (i : Nat), Words A B t n W → (∀ j, j < many → W j ≤ x.length) → i < many → i ≤ g → ∃ e fr C,
    Liter env lb81_0 [0, 4] hp.length [(0, .pointer (some ⟨f, 0, some 0⟩)), (4, .int .i64 i)] ⟨put hp r q B, L, H, []⟩ = some (e, fr, ⟨put hp r q C, L, H, []⟩) ∧ (e = .ret ∨ e = .exit 0) ∧ Words A C t n (riseW (slt x) g W i) := by
  have stop : ∀ (W : Nat → Nat) (B : Arn), Words A B t n W → ∃ e fr C,
    Liter env lb81_0 [0, 4] hp.length [(0, .pointer (some ⟨f, 0, some 0⟩)), (4, .int .i64 (0 : Nat))] ⟨put hp r q B, L, H, []⟩ = some (e, fr, ⟨put hp r q C, L, H, []⟩) ∧ (e = .ret ∨ e = .exit 0) ∧ Words A C t n W := by
    intro W B w
    have k := (h.words w).k
    refine ⟨.exit 0, ?_⟩
    rw [iter_by lb81_0.eq_1]
    simp (disch := (first | omega | (simp only [lnE, put_length] <;> omega) | (refine Fit.mono ‹Fit _ _ _› ?_ <;> (simp only [lnE, put_length] <;> omega)) | (refine Fit.draw ‹Fit _ _ _› ?_ ?_ <;> (simp only [lnE, put_length] <;> omega)) | (refine Fit.hid1 ‹Fit _ _ _› ?_ ?_ <;> (simp only [lnE, put_length] <;> omega)) | (refine Fit.draw1 ‹Fit _ _ _› ?_ ?_ ?_ <;> (simp only [lnE, put_length] <;> omega)) | (refine Fit.range0 ?_ ?_ <;> (simp only [lnE, put_length] <;> omega)) | (refine ArOk.mono ‹ArOk _ _ _ _ _› ?_ <;> (simp only [lnE, put_length] <;> omega)) | (refine ArOk.hid ‹ArOk _ _ _ _ _› ?_ ?_ <;> (simp only [lnE, put_length] <;> omega)) | (refine ArOk.hid0 ‹ArOk _ _ _ _ _› ?_ ?_ <;> (simp only [lnE, put_length] <;> omega)) | ((intro xr hxr; simp [AM.refs, refsF, refsC] at hxr) <;> (simp only [lnE, put_length] <;> omega)) | fail)) only [syA, syB, argFr, D, E, T, C, undefv, eqF, aeq, sheqs, sheq, rdCells, cellsOf, fill, putAt, if_true, if_false, reduceIte, ↓reduceIte, reduceCtorEq, eq_self, Nat.reduceEqDiff, Nat.reduceAdd, Nat.reduceSub, Nat.reduceMul, Nat.reduceLT, Nat.reduceLeDiff, Nat.reducePow, Nat.reduceDiv, Nat.reduceMod, Int.reduceLT, Int.reduceLE, Int.reduceGT, Int.reduceGE, Int.reduceToNat, Int.reducePow, Int.reduceNeg, Int.reduceBEq, Int.reduceBNe, Int.reduceEq, Int.reduceAdd, Int.reduceSub, Int.reduceMul, cellv, sc, flatv, refs, refsF, refsC, syR, Int.le_refl, hF.not0, hF.not1, hF.up0, hF.up1, k.hr, k.hq, Int.natCast_zero]
    exact ⟨_, B, rfl, w⟩
  intro g
  induction g with
  | zero =>
    intro W B i w hW hi hg
    have e : i = 0 := by omega
    subst e
    exact stop W B w
  | succ g ih =>
    intro W B i w hW hi hg
    unfold riseW
    by_cases c0 : i = 0
    · subst c0
      rw [if_pos rfl]
      exact stop W B w
    rw [if_neg c0]
    obtain ⟨a1, a2⟩ := rise_step hF h w hmn hW hi (by omega) hm
    cases c3 : slt x (W ((i - 1) / 2)) (W i) with
    | false =>
      rw [if_pos rfl]
      obtain ⟨fr, e⟩ := a1 c3
      exact ⟨_, fr, B, e, .inl rfl, w⟩
    | true =>
      rw [if_neg (by simp), a2 c3]
      refine ih _ _ ((i - 1) / 2) ?_ (fun a ha => ?_) (by omega) (by omega)
      · exact w.swap h (i := (i - 1) / 2) (j := i) (e := i) (by omega) (by omega) rfl
      · rw [swp_at]; split
        · exact hW _ (by omega)
        split
        · exact hW _ hi
        · exact hW _ ha
theorem rise_walk (hF : Fit hp.length L H) (h : HpOk hp r q f L H A s t z n many x) (hmn : many < n) (hm : many ≤ 65536) (w : Words A B t n W) (hW : ∀ j, j < many → W j ≤ x.length) {e : Nat} (he : e ≤ x.length) : ∃ C,
    (∀ d, Lrun env (.func 81) [.pointer (some ⟨f, 0, some 0⟩), .int .i64 e] ⟨put hp r q B, L, H, d⟩ = some (.tuple #[], ⟨put (hp.set f (hB r s x.length t z (many + 1))) r q C, L, H, d⟩)) ∧ Words A C t n (riseW (slt x) many (upd W many e) many) := by
  have o := h.words w
  have k := o.k
  have h1 := o.k.r_lt
  have h2 := o.k.q_lt
  have hf := o.hf
  have hid := o.hid
  have hr := o.hr
  have hq := o.hq
  have hfl : f < hp.length := (List.getElem?_eq_some_iff.1 o.hf).1
  have hne := o.k.ne
  have hmx := o.hm
  have hs := o.hs
  have hn := o.hn
  have hw := o.hw
  have s1 := fun d => hset_walk (d := d) (i := (many : Int)) (v := e) hF o.k o.hw hf hr hq hid (by omega)
  have w1 := w.set' (v := e) h hmn (rfl : (many : Int) = _)
  have h3 := h.to (m2 := many + 1)
  have hF3 : Fit (hp.set f (hB r s x.length t z (many + 1))).length L H := hF.mono (by simp)
  obtain ⟨e', fr, C', e1, e2, e3⟩ := rise_loop hF3 h3 (by omega) (by omega) many (upd W many e) _ many w1 (fun j hj => by
    unfold upd; split
    · exact he
    · exact hW j (by omega)) (by omega) (Nat.le_refl _)
  simp only [List.length_set] at e1
  refine ⟨C', fun d => ?_, e3⟩
  have hfL : (f < L) = False := eq_false (by have := o.hwf; omega)
  have hset := put_set_o (hp := hp) (A := B.setWord t z many e) (b := hB r s x.length t z (many + 1)) hr hq
  have ec : ((many + 1 : Nat) : Int) = (many : Int) + 1 := by omega
  unfold hB at hset e1 hf ⊢
  rw [ec] at hset e1 ⊢
  rw [Lrun_sym 81 _ _ fn81]
  rcases e2 with rfl | rfl
  · simp (disch := (first | omega | (simp only [lnE, put_length] <;> omega) | (refine Fit.mono ‹Fit _ _ _› ?_ <;> (simp only [lnE, put_length] <;> omega)) | (refine Fit.draw ‹Fit _ _ _› ?_ ?_ <;> (simp only [lnE, put_length] <;> omega)) | (refine Fit.hid1 ‹Fit _ _ _› ?_ ?_ <;> (simp only [lnE, put_length] <;> omega)) | (refine Fit.draw1 ‹Fit _ _ _› ?_ ?_ ?_ <;> (simp only [lnE, put_length] <;> omega)) | (refine Fit.range0 ?_ ?_ <;> (simp only [lnE, put_length] <;> omega)) | (refine ArOk.mono ‹ArOk _ _ _ _ _› ?_ <;> (simp only [lnE, put_length] <;> omega)) | (refine ArOk.hid ‹ArOk _ _ _ _ _› ?_ ?_ <;> (simp only [lnE, put_length] <;> omega)) | (refine ArOk.hid0 ‹ArOk _ _ _ _ _› ?_ ?_ <;> (simp only [lnE, put_length] <;> omega)) | ((intro xr hxr; simp [AM.refs, refsF, refsC] at hxr) <;> (simp only [lnE, put_length] <;> omega)) | fail)) only [syA, syB, argFr, D, E, T, C, undefv, eqF, aeq, sheqs, sheq, rdCells, cellsOf, fill, putAt, if_true, if_false, reduceIte, ↓reduceIte, reduceCtorEq, eq_self, Nat.reduceEqDiff, Nat.reduceAdd, Nat.reduceSub, Nat.reduceMul, Nat.reduceLT, Nat.reduceLeDiff, Nat.reducePow, Nat.reduceDiv, Nat.reduceMod, Int.reduceLT, Int.reduceLE, Int.reduceGT, Int.reduceGE, Int.reduceToNat, Int.reducePow, Int.reduceNeg, Int.reduceBEq, Int.reduceBNe, Int.reduceEq, Int.reduceAdd, Int.reduceSub, Int.reduceMul, cellv, sc, flatv, refs, refsF, refsC, syR, Int.le_refl, hF.not0, hF.not1, hF.up0, hF.up1, k.hr, k.hq, ac81, hf, hid, hfL, s1, hset, e1]
  · simp (disch := (first | omega | (simp only [lnE, put_length] <;> omega) | (refine Fit.mono ‹Fit _ _ _› ?_ <;> (simp only [lnE, put_length] <;> omega)) | (refine Fit.draw ‹Fit _ _ _› ?_ ?_ <;> (simp only [lnE, put_length] <;> omega)) | (refine Fit.hid1 ‹Fit _ _ _› ?_ ?_ <;> (simp only [lnE, put_length] <;> omega)) | (refine Fit.draw1 ‹Fit _ _ _› ?_ ?_ ?_ <;> (simp only [lnE, put_length] <;> omega)) | (refine Fit.range0 ?_ ?_ <;> (simp only [lnE, put_length] <;> omega)) | (refine ArOk.mono ‹ArOk _ _ _ _ _› ?_ <;> (simp only [lnE, put_length] <;> omega)) | (refine ArOk.hid ‹ArOk _ _ _ _ _› ?_ ?_ <;> (simp only [lnE, put_length] <;> omega)) | (refine ArOk.hid0 ‹ArOk _ _ _ _ _› ?_ ?_ <;> (simp only [lnE, put_length] <;> omega)) | ((intro xr hxr; simp [AM.refs, refsF, refsC] at hxr) <;> (simp only [lnE, put_length] <;> omega)) | fail)) only [syA, syB, argFr, D, E, T, C, undefv, eqF, aeq, sheqs, sheq, rdCells, cellsOf, fill, putAt, if_true, if_false, reduceIte, ↓reduceIte, reduceCtorEq, eq_self, Nat.reduceEqDiff, Nat.reduceAdd, Nat.reduceSub, Nat.reduceMul, Nat.reduceLT, Nat.reduceLeDiff, Nat.reducePow, Nat.reduceDiv, Nat.reduceMod, Int.reduceLT, Int.reduceLE, Int.reduceGT, Int.reduceGE, Int.reduceToNat, Int.reducePow, Int.reduceNeg, Int.reduceBEq, Int.reduceBNe, Int.reduceEq, Int.reduceAdd, Int.reduceSub, Int.reduceMul, cellv, sc, flatv, refs, refsF, refsC, syR, Int.le_refl, hF.not0, hF.not1, hF.up0, hF.up1, k.hr, k.hq, ac81, hf, hid, hfL, s1, hset, e1]
end
end ArA
end Go.Proofs.Ytlphmnhkkhcjfaa
end
