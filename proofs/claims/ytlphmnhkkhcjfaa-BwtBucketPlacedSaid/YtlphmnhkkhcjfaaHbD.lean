/-
  THE TRANSFORM BY BUCKETS: an element of the heap rises, on the abstract machine. Conditions: none.
-/
import Derived.Test.YtlphmnhkkhcjfaaHbC
set_option linter.all false
namespace Go.Proofs.Ytlphmnhkkhcjfaa
namespace ArA
open Go Go.RowKit AM ArEnv
section
variable {hp : List Blk} {L : Nat} {H d : List Nat} {r q f : Nat} {A B : Arn} {s t z n m many : Nat} {x : List Nat} {W : Nat → Nat}
theorem HpOk.to {m2 : Nat} (h : HpOk hp r q f L H A s t z n many x) : HpOk (hp.set f (hB r s x.length t z m2)) r q f L H A s t z n m2 x :=
  { h with k := h.k.mono (by simp), hf := by rw [List.getElem?_set_self (List.getElem?_eq_some_iff.1 h.hf).1] }
theorem rise_step (hF : Fit hp.length L H) (h : HpOk hp r q f L H A s t z n many x) (w : Words A B t n W) (hmn : many ≤ n) (hW : ∀ j, j < many → W j ≤ x.length) {i : Nat} (hi : i < many) (h0 : 0 < i) (hm : many ≤ 65537) :
    (slt x (W ((i - 1) / 2)) (W i) = false → ∃ fr, Liter env lb81_0 [0, 4] hp.length [(0, .pointer (some ⟨f, 0, some 0⟩)), (4, .int .i64 i)] ⟨put hp r q B, L, H, []⟩ = some (.ret, fr, ⟨put hp r q B, L, H, []⟩)) ∧
    (slt x (W ((i - 1) / 2)) (W i) = true → Liter env lb81_0 [0, 4] hp.length [(0, .pointer (some ⟨f, 0, some 0⟩)), (4, .int .i64 i)] ⟨put hp r q B, L, H, []⟩ =
      Liter env lb81_0 [0, 4] hp.length [(0, .pointer (some ⟨f, 0, some 0⟩)), (4, .int .i64 ((i - 1) / 2 : Nat))] ⟨put hp r q ((B.setWord t z ((i - 1) / 2 : Nat) (W i)).setWord t z i (W ((i - 1) / 2))), L, H, []⟩) := by
  have o := h.words w
  have k := o.k
  have h1 := o.k.r_lt
  have h2 := o.k.q_lt
  have hf := o.hf
  have hid := o.hid
  have hr := o.hr
  have hq := o.hq
  have hfl : f < hp.length := (List.getElem?_eq_some_iff.1 o.hf).1
  have hne := o.k.ne
  have hmx := o.hm
  have hs := o.hs
  have hn := o.hn
  have w0 := hW i (by omega)
  have w1 := hW ((i - 1) / 2) (by omega)
  have g0 : B.wordV t z (i : Int) = W i := w.get' h (by omega) w0 rfl
  have g1 : B.wordV t z (((i - 1) / 2 : Nat) : Int) = W ((i - 1) / 2) := w.get' h (by omega) w1 rfl
  have c0 : (i : Int) > 0 := by omega
  have c1 : Int.tdiv ((i : Int) - 1) 2 = (((i - 1) / 2 : Nat) : Int) := by
    rw [show (i : Int) - 1 = ((i - 1 : Nat) : Int) by omega]; rfl
  have hg := fun d e => hget_walk (d := d) hF o.k hf hr hq hid e
  have l2 := fun d => hless_walk (d := d) hF o.k o.hx hmx hf hr hq hid w1 w0
  refine ⟨fun c5 => ?_, fun c5 => ?_⟩
  · rw [iter_by lb81_0.eq_1]
    simp (disch := (first | omega | (simp only [lnE, put_length] <;> omega) | (refine Fit.mono ‹Fit _ _ _› ?_ <;> (simp only [lnE, put_length] <;> omega)) | (refine Fit.draw ‹Fit _ _ _› ?_ ?_ <;> (simp only [lnE, put_length] <;> omega)) | (refine Fit.hid1 ‹Fit _ _ _› ?_ ?_ <;> (simp only [lnE, put_length] <;> omega)) | (refine Fit.draw1 ‹Fit _ _ _› ?_ ?_ ?_ <;> (simp only [lnE, put_length] <;> omega)) | (refine Fit.range0 ?_ ?_ <;> (simp only [lnE, put_length] <;> omega)) | (refine ArOk.mono ‹ArOk _ _ _ _ _› ?_ <;> (simp only [lnE, put_length] <;> omega)) | (refine ArOk.hid ‹ArOk _ _ _ _ _› ?_ ?_ <;> (simp only [lnE, put_length] <;> omega)) | (refine ArOk.hid0 ‹ArOk _ _ _ _ _› ?_ ?_ <;> (simp only [lnE, put_length] <;> omega)) | ((intro xr hxr; simp [AM.refs, refsF, refsC] at hxr) <;> (simp only [lnE, put_length] <;> omega)) | fail)) only [syA, syB, argFr, D, E, T, C, undefv, eqF, aeq, sheqs, sheq, rdCells, cellsOf, fill, putAt, if_true, if_false, reduceIte, ↓reduceIte, reduceCtorEq, eq_self, Nat.reduceEqDiff, Nat.reduceAdd, Nat.reduceSub, Nat.reduceMul, Nat.reduceLT, Nat.reduceLeDiff, Nat.reducePow, Nat.reduceDiv, Nat.reduceMod, Int.reduceLT, Int.reduceLE, Int.reduceGT, Int.reduceGE, Int.reduceToNat, Int.reducePow, Int.reduceNeg, Int.reduceBEq, Int.reduceBNe, Int.reduceEq, Int.reduceAdd, Int.reduceSub, Int.reduceMul, cellv, sc, flatv, refs, refsF, refsC, syR, Int.le_refl, hF.not0, hF.not1, hF.up0, hF.up1, k.hr, k.hq, hf, hid, hB, hg, g0, g1, l2, c0, c1, c5]
    exact ⟨_, rfl⟩
  · have k1 := o.k.setWord (s := t) (len := z) (i := (((i - 1) / 2 : Nat) : Int)) (v := W i)
    have s1 := fun d => hset_walk (d := d) (i := (((i - 1) / 2 : Nat) : Int)) (v := W i) hF o.k o.hw hf hr hq hid (by omega)
    have s2 := fun d => hset_walk (d := d) (i := (i : Int)) (v := W ((i - 1) / 2)) hF k1 o.hw hf hr hq hid (by omega)
    rw [iter_by lb81_0.eq_1]
    simp (disch := (first | omega | (simp only [lnE, put_length] <;> omega) | (refine Fit.mono ‹Fit _ _ _› ?_ <;> (simp only [lnE, put_length] <;> omega)) | (refine Fit.draw ‹Fit _ _ _› ?_ ?_ <;> (simp only [lnE, put_length] <;> omega)) | (refine Fit.hid1 ‹Fit _ _ _› ?_ ?_ <;> (simp only [lnE, put_length] <;> omega)) | (refine Fit.draw1 ‹Fit _ _ _› ?_ ?_ ?_ <;> (simp only [lnE, put_length] <;> omega)) | (refine Fit.range0 ?_ ?_ <;> (simp only [lnE, put_length] <;> omega)) | (refine ArOk.mono ‹ArOk _ _ _ _ _› ?_ <;> (simp only [lnE, put_length] <;> omega)) | (refine ArOk.hid ‹ArOk _ _ _ _ _› ?_ ?_ <;> (simp only [lnE, put_length] <;> omega)) | (refine ArOk.hid0 ‹ArOk _ _ _ _ _› ?_ ?_ <;> (simp only [lnE, put_length] <;> omega)) | ((intro xr hxr; simp [AM.refs, refsF, refsC] at hxr) <;> (simp only [lnE, put_length] <;> omega)) | fail)) only [syA, syB, argFr, D, E, T, C, undefv, eqF, aeq, sheqs, sheq, rdCells, cellsOf, fill, putAt, if_true, if_false, reduceIte, ↓reduceIte, reduceCtorEq, eq_self, Nat.reduceEqDiff, Nat.reduceAdd, Nat.reduceSub, Nat.reduceMul, Nat.reduceLT, Nat.reduceLeDiff, Nat.reducePow, Nat.reduceDiv, Nat.reduceMod, Int.reduceLT, Int.reduceLE, Int.reduceGT, Int.reduceGE, Int.reduceToNat, Int.reducePow, Int.reduceNeg, Int.reduceBEq, Int.reduceBNe, Int.reduceEq, Int.reduceAdd, Int.reduceSub, Int.reduceMul, cellv, sc, flatv, refs, refsF, refsC, syR, Int.le_refl, hF.not0, hF.not1, hF.up0, hF.up1, k.hr, k.hq, hf, hid, hB, hg, g0, g1, l2, c0, c1, c5, s1, s2]
theorem rise_loop (hF : Fit hp.length L H) (h : HpOk hp r q f L H A s t z n many x) (hmn : many ≤ n) (hm : many ≤ 65537) : ∀ (g : Nat) (W : Nat → Nat) (B : Arn) (i : Nat), Words A B t n W → (∀ j, j < many → W j ≤ x.length) → i < many → i ≤ g → ∃ e fr C,
    Liter env lb81_0 [0, 4] hp.length [(0, .pointer (some ⟨f, 0, some 0⟩)), (4, .int .i64 i)] ⟨put hp r q B, L, H, []⟩ = some (e, fr, ⟨put hp r q C, L, H, []⟩) ∧ (e = .ret ∨ e = .exit 0) ∧ Words A C t n (riseW (slt x) g W i) := by
  have stop : ∀ (W : Nat → Nat) (B : Arn), Words A B t n W → ∃ e fr C,
    Liter env lb81_0 [0, 4] hp.length [(0, .pointer (some ⟨f, 0, some 0⟩)), (4, .int .i64 (0 : Nat))] ⟨put hp r q B, L, H, []⟩ = some (e, fr, ⟨put hp r q C, L, H, []⟩) ∧ (e = .ret ∨ e = .exit 0) ∧ Words A C t n W := by
    intro W B w
    have k := (h.words w).k
    refine ⟨.exit 0, ?_⟩
    rw [iter_by lb81_0.eq_1]
    simp (disch := (first | omega | (simp only [lnE, put_length] <;> omega) | (refine Fit.mono ‹Fit _ _ _› ?_ <;> (simp only [lnE, put_length] <;> omega)) | (refine Fit.draw ‹Fit _ _ _› ?_ ?_ <;> (simp only [lnE, put_length] <;> omega)) | (refine Fit.hid1 ‹Fit _ _ _› ?_ ?_ <;> (simp only [lnE, put_length] <;> omega)) | (refine Fit.draw1 ‹Fit _ _ _› ?_ ?_ ?_ <;> (simp only [lnE, put_length] <;> omega)) | (refine Fit.range0 ?_ ?_ <;> (simp only [lnE, put_length] <;> omega)) | (refine ArOk.mono ‹ArOk _ _ _ _ _› ?_ <;> (simp only [lnE, put_length] <;> omega)) | (refine ArOk.hid ‹ArOk _ _ _ _ _› ?_ ?_ <;> (simp only [lnE, put_length] <;> omega)) | (refine ArOk.hid0 ‹ArOk _ _ _ _ _› ?_ ?_ <;> (simp only [lnE, put_length] <;> omega)) | ((intro xr hxr; simp [AM.refs, refsF, refsC] at hxr) <;> (simp only [lnE, put_length] <;> omega)) | fail)) only [syA, syB, argFr, D, E, T, C, undefv, eqF, aeq, sheqs, sheq, rdCells, cellsOf, fill, putAt, if_true, if_false, reduceIte, ↓reduceIte, reduceCtorEq, eq_self, Nat.reduceEqDiff, Nat.reduceAdd, Nat.reduceSub, Nat.reduceMul, Nat.reduceLT, Nat.reduceLeDiff, Nat.reducePow, Nat.reduceDiv, Nat.reduceMod, Int.reduceLT, Int.reduceLE, Int.reduceGT, Int.reduceGE, Int.reduceToNat, Int.reducePow, Int.reduceNeg, Int.reduceBEq, Int.reduceBNe, Int.reduceEq, Int.reduceAdd, Int.reduceSub, Int.reduceMul, cellv, sc, flatv, refs, refsF, refsC, syR, Int.le_refl, hF.not0, hF.not1, hF.up0, hF.up1, k.hr, k.hq, Int.natCast_zero]
    exact ⟨_, B, rfl, w⟩
  intro g
  induction g with
  | zero =>
    intro W B i w hW hi hg
    have e : i = 0 := by omega
    subst e
    exact stop W B w
  | succ g ih =>
    intro W B i w hW hi hg
    unfold riseW
    by_cases c0 : i = 0
    · subst c0
      rw [if_pos rfl]
      exact stop W B w
    rw [if_neg c0]
    obtain ⟨a1, a2⟩ := rise_step hF h w hmn hW hi (by omega) hm
    cases c3 : slt x (W ((i - 1) / 2)) (W i) with
    | false =>
      rw [if_pos rfl]
      obtain ⟨fr, e⟩ := a1 c3
      exact ⟨_, fr, B, e, .inl rfl, w⟩
    | true =>
      rw [if_neg (by simp), a2 c3]
      refine ih _ _ ((i - 1) / 2) ?_ (fun a ha => ?_) (by omega) (by omega)
      · exact w.swap h (i := (i - 1) / 2) (j := i) (e := i) (by omega) (by omega) rfl
      · rw [swp_at]; split
        · exact hW _ (by omega)
        split
        · exact hW _ hi
        · exact hW _ ha
theorem rise_walk (hF : Fit hp.length L H) (h : HpOk hp r q f L H A s t z n many x) (hmn : many < n) (hm : many ≤ 65536) (w : Words A B t n W) (hW : ∀ j, j < many → W j ≤ x.length) {e : Nat} (he : e ≤ x.length) : ∃ C,
    (∀ d, Lrun env (.func 81) [.pointer (some ⟨f, 0, some 0⟩), .int .i64 e] ⟨put hp r q B, L, H, d⟩ = some (.tuple #[], ⟨put (hp.set f (hB r s x.length t z (many + 1))) r q C, L, H, d⟩)) ∧ Words A C t n (riseW (slt x) many (upd W many e) many) := by
  have o := h.words w
  have k := o.k
  have h1 := o.k.r_lt
  have h2 := o.k.q_lt
  have hf := o.hf
  have hid := o.hid
  have hr := o.hr
  have hq := o.hq
  have hfl : f < hp.length := (List.getElem?_eq_some_iff.1 o.hf).1
  have hne := o.k.ne
  have hmx := o.hm
  have hs := o.hs
  have hn := o.hn
  have hw := o.hw
  have s1 := fun d => hset_walk (d := d) (i := (many : Int)) (v := e) hF o.k o.hw hf hr hq hid (by omega)
  have w1 := w.set' (v := e) h hmn (rfl : (many : Int) = _)
  have h3 := h.to (m2 := many + 1)
  have hF3 : Fit (hp.set f (hB r s x.length t z (many + 1))).length L H := hF.mono (by simp)
  obtain ⟨e', fr, C', e1, e2, e3⟩ := rise_loop hF3 h3 (by omega) (by omega) many (upd W many e) _ many w1 (fun j hj => by
    unfold upd; split
    · exact he
    · exact hW j (by omega)) (by omega) (Nat.le_refl _)
  simp only [List.length_set] at e1
  refine ⟨C', fun d => ?_, e3⟩
  have hfL : (f < L) = False := eq_false (by have := o.hwf; omega)
  have hset := put_set_o (hp := hp) (A := B.setWord t z many e) (b := hB r s x.length t z (many + 1)) hr hq
  have ec : ((many + 1 : Nat) : Int) = (many : Int) + 1 := by omega
  unfold hB at hset e1 hf ⊢
  rw [ec] at hset e1 ⊢
  rw [Lrun_sym 81 _ _ fn81]
  rcases e2 with rfl | rfl
  · simp (disch := (first | omega | (simp only [lnE, put_length] <;> omega) | (refine Fit.mono ‹Fit _ _ _› ?_ <;> (simp only [lnE, put_length] <;> omega)) | (refine Fit.draw ‹Fit _ _ _› ?_ ?_ <;> (simp only [lnE, put_length] <;> omega)) | (refine Fit.hid1 ‹Fit _ _ _› ?_ ?_ <;> (simp only [lnE, put_length] <;> omega)) | (refine Fit.draw1 ‹Fit _ _ _› ?_ ?_ ?_ <;> (simp only [lnE, put_length] <;> omega)) | (refine Fit.range0 ?_ ?_ <;> (simp only [lnE, put_length] <;> omega)) | (refine ArOk.mono ‹ArOk _ _ _ _ _› ?_ <;> (simp only [lnE, put_length] <;> omega)) | (refine ArOk.hid ‹ArOk _ _ _ _ _› ?_ ?_ <;> (simp only [lnE, put_length] <;> omega)) | (refine ArOk.hid0 ‹ArOk _ _ _ _ _› ?_ ?_ <;> (simp only [lnE, put_length] <;> omega)) | ((intro xr hxr; simp [AM.refs, refsF, refsC] at hxr) <;> (simp only [lnE, put_length] <;> omega)) | fail)) only [syA, syB, argFr, D, E, T, C, undefv, eqF, aeq, sheqs, sheq, rdCells, cellsOf, fill, putAt, if_true, if_false, reduceIte, ↓reduceIte, reduceCtorEq, eq_self, Nat.reduceEqDiff, Nat.reduceAdd, Nat.reduceSub, Nat.reduceMul, Nat.reduceLT, Nat.reduceLeDiff, Nat.reducePow, Nat.reduceDiv, Nat.reduceMod, Int.reduceLT, Int.reduceLE, Int.reduceGT, Int.reduceGE, Int.reduceToNat, Int.reducePow, Int.reduceNeg, Int.reduceBEq, Int.reduceBNe, Int.reduceEq, Int.reduceAdd, Int.reduceSub, Int.reduceMul, cellv, sc, flatv, refs, refsF, refsC, syR, Int.le_refl, hF.not0, hF.not1, hF.up0, hF.up1, k.hr, k.hq, ac81, hf, hid, hfL, s1, hset, e1]
  · simp (disch := (first | omega | (simp only [lnE, put_length] <;> omega) | (refine Fit.mono ‹Fit _ _ _› ?_ <;> (simp only [lnE, put_length] <;> omega)) | (refine Fit.draw ‹Fit _ _ _› ?_ ?_ <;> (simp only [lnE, put_length] <;> omega)) | (refine Fit.hid1 ‹Fit _ _ _› ?_ ?_ <;> (simp only [lnE, put_length] <;> omega)) | (refine Fit.draw1 ‹Fit _ _ _› ?_ ?_ ?_ <;> (simp only [lnE, put_length] <;> omega)) | (refine Fit.range0 ?_ ?_ <;> (simp only [lnE, put_length] <;> omega)) | (refine ArOk.mono ‹ArOk _ _ _ _ _› ?_ <;> (simp only [lnE, put_length] <;> omega)) | (refine ArOk.hid ‹ArOk _ _ _ _ _› ?_ ?_ <;> (simp only [lnE, put_length] <;> omega)) | (refine ArOk.hid0 ‹ArOk _ _ _ _ _› ?_ ?_ <;> (simp only [lnE, put_length] <;> omega)) | ((intro xr hxr; simp [AM.refs, refsF, refsC] at hxr) <;> (simp only [lnE, put_length] <;> omega)) | fail)) only [syA, syB, argFr, D, E, T, C, undefv, eqF, aeq, sheqs, sheq, rdCells, cellsOf, fill, putAt, if_true, if_false, reduceIte, ↓reduceIte, reduceCtorEq, eq_self, Nat.reduceEqDiff, Nat.reduceAdd, Nat.reduceSub, Nat.reduceMul, Nat.reduceLT, Nat.reduceLeDiff, Nat.reducePow, Nat.reduceDiv, Nat.reduceMod, Int.reduceLT, Int.reduceLE, Int.reduceGT, Int.reduceGE, Int.reduceToNat, Int.reducePow, Int.reduceNeg, Int.reduceBEq, Int.reduceBNe, Int.reduceEq, Int.reduceAdd, Int.reduceSub, Int.reduceMul, cellv, sc, flatv, refs, refsF, refsC, syR, Int.le_refl, hF.not0, hF.not1, hF.up0, hF.up1, k.hr, k.hq, ac81, hf, hid, hfL, s1, hset, e1]
end
end ArA
end Go.Proofs.Ytlphmnhkkhcjfaa
