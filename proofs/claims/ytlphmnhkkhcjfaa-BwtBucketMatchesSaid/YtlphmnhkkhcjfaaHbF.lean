/-
  THE TRANSFORM BY BUCKETS: gather and sort, on the abstract machine. Conditions: none.
-/
import Derived.Test.YtlphmnhkkhcjfaaHbE
set_option linter.all false
namespace Go.Proofs.Ytlphmnhkkhcjfaa
namespace ArA
open Go Go.RowKit AM ArEnv
section
variable {hp : List Blk} {L : Nat} {H d : List Nat} {r q f l g : Nat} {A B : Arn} {s t z n m many room : Nat} {x : List Nat} {W : Nat → Nat} {last : Int}
theorem HpOk.same (h : HpOk hp r q f L H A s t z n many x) : hp.set f (hB r s x.length t z many) = hp := by
  apply List.ext_getElem?
  intro i
  by_cases c : f = i
  · subst c; rw [List.getElem?_set_self (List.getElem?_eq_some_iff.1 h.hf).1, h.hf]
  · rw [List.getElem?_set_ne c]
def clo (l g : Nat) : Value := .func (.func 61) #[] #[.pointer (some ⟨l, 0, some 0⟩), .pointer (some ⟨g, 0, some 0⟩)]
theorem gather_loop (hlast : last < 0 ∨ last ≤ x.length) (hrn : room ≤ n) (hr1 : 1 ≤ room) (hrm : room ≤ 65537) : ∀ (c e : Nat) (hp : List Blk) (B : Arn) (W : Nat → Nat) (many : Nat), Fit hp.length L H → e + c = x.length + 1 →
    HpOk hp r q f L H A s t z n many x → AskOk hp r q f l g H last → Words A B t n W → Gath (slt x) (askB x last) room W many e → ∃ fr Z V k,
    Liter env lb60_0 [16, 15, 2, 0, 1] hp.length [(16, .int .i64 e), (15, .int .i64 ((x.length : Int) + 1)), (2, clo l g), (0, .pointer (some ⟨f, 0, some 0⟩)), (1, .int .i64 room)] ⟨put hp r q B, L, H, []⟩ =
      some (.exit 0, fr, ⟨put (hp.set f (hB r s x.length t z k)) r q Z, L, H, []⟩) ∧ Words A Z t n V ∧ Gath (slt x) (askB x last) room V k (x.length + 1) := by
  intro c
  induction c with
  | zero =>
    intro e hp B W many hF he h a w gth
    have e1 : e = x.length + 1 := by omega
    subst e1
    have k := (h.words w).k
    have c0 : ¬ ((x.length : Int) + 1) < (x.length : Int) + 1 := by omega
    have ec : ((x.length + 1 : Nat) : Int) = (x.length : Int) + 1 := by omega
    have : ∃ fr, Liter env lb60_0 [16, 15, 2, 0, 1] hp.length [(16, .int .i64 ((x.length : Int) + 1)), (15, .int .i64 ((x.length : Int) + 1)), (2, clo l g), (0, .pointer (some ⟨f, 0, some 0⟩)), (1, .int .i64 room)] ⟨put hp r q B, L, H, []⟩ = some (.exit 0, fr, ⟨put hp r q B, L, H, []⟩) := by
      rw [iter_by lb60_0.eq_1]
      simp (disch := (first | omega | (simp only [lnE, put_length] <;> omega) | (refine Fit.mono ‹Fit _ _ _› ?_ <;> (simp only [lnE, put_length] <;> omega)) | (refine Fit.draw ‹Fit _ _ _› ?_ ?_ <;> (simp only [lnE, put_length] <;> omega)) | (refine Fit.hid1 ‹Fit _ _ _› ?_ ?_ <;> (simp only [lnE, put_length] <;> omega)) | (refine Fit.draw1 ‹Fit _ _ _› ?_ ?_ ?_ <;> (simp only [lnE, put_length] <;> omega)) | (refine Fit.range0 ?_ ?_ <;> (simp only [lnE, put_length] <;> omega)) | (refine ArOk.mono ‹ArOk _ _ _ _ _› ?_ <;> (simp only [lnE, put_length] <;> omega)) | (refine ArOk.hid ‹ArOk _ _ _ _ _› ?_ ?_ <;> (simp only [lnE, put_length] <;> omega)) | (refine ArOk.hid0 ‹ArOk _ _ _ _ _› ?_ ?_ <;> (simp only [lnE, put_length] <;> omega)) | ((intro xr hxr; simp [AM.refs, refsF, refsC] at hxr) <;> (simp only [lnE, put_length] <;> omega)) | fail)) only [syA, syB, argFr, D, E, T, C, undefv, eqF, aeq, sheqs, sheq, rdCells, cellsOf, fill, putAt, if_true, if_false, reduceIte, ↓reduceIte, reduceCtorEq, eq_self, Nat.reduceEqDiff, Nat.reduceAdd, Nat.reduceSub, Nat.reduceMul, Nat.reduceLT, Nat.reduceLeDiff, Nat.reducePow, Nat.reduceDiv, Nat.reduceMod, Int.reduceLT, Int.reduceLE, Int.reduceGT, Int.reduceGE, Int.reduceToNat, Int.reducePow, Int.reduceNeg, Int.reduceBEq, Int.reduceBNe, Int.reduceEq, Int.reduceAdd, Int.reduceSub, Int.reduceMul, cellv, sc, flatv, refs, refsF, refsC, syR, Int.le_refl, hF.not0, hF.not1, hF.up0, hF.up1, k.hr, k.hq, c0]
      exact ⟨_, rfl⟩
    obtain ⟨fr, hfr⟩ := this
    exact ⟨fr, B, W, many, by rw [h.same, ec]; exact hfr, w, gth⟩
  | succ c ih =>
    intro e hp B W many hF he h a w gth
    have o := h.words w
    have hel : e ≤ x.length := by omega
    have hin : ∀ j, j < many → W j < e := fun j hj => (gth.from_ _ ⟨j, hj, rfl⟩).1
    have ec : (e : Int) + 1 = ((e + 1 : Nat) : Int) := by omega
    cases ha : askB x last e with
    | false =>
      have := gath_skip hF o a hlast hel (room := room) ha
      unfold clo at *
      rw [this, ec]
      exact ih (e + 1) hp B W many hF (by omega) h a w (gth.skip ha)
    | true =>
      by_cases c1 : many < room
      · obtain ⟨Z, z1, z2⟩ := rise_walk hF h (by omega) (by omega) w (fun j hj => by have := hin j hj; omega) hel
        have := gath_rise hF o a hlast hel (room := room) ha c1 z1
        obtain ⟨fr, Z2, V, k2, i1, i2⟩ := ih (e + 1) _ Z _ (many + 1) (hF.mono (by simp)) (by omega) (h.to (m2 := many + 1)) a.to z2 (gth.rise (slt_tot x) ha c1)
        rw [List.length_set, List.set_set] at i1
        unfold clo at *
        exact ⟨fr, Z2, V, k2, by rw [this, ec]; exact i1, i2⟩
      · have em : many = room := by have := gth.le; omega
        have hw0 : B.wordV t z 0 = W 0 := w.get' h (by omega) (by have := hin 0 (by omega); omega) rfl
        have hw1 : W 0 ≤ x.length := by have := hin 0 (by omega); omega
        cases hls : slt x e (W 0) with
        | false =>
          have := gath_full hF o a hlast hel (room := room) ha c1 hw0 hw1 hls
          unfold clo at *
          rw [this, ec]
          refine ih (e + 1) hp B W many hF (by omega) h a w ?_
          rw [em] at gth ⊢
          exact gth.full (slt_tot x) (slt_tri x) (by omega) (by omega) hls
        | true =>
          obtain ⟨Z, z1, z2⟩ := sink_walk hF h (by omega) (w.set' (v := e) (i := 0) (e := 0) h (by omega) rfl) (fun j hj => by
            unfold upd; split
            · exact hel
            · have := hin j hj; omega) (by omega)
          have := gath_swap hF o a hlast hel (room := room) ha c1 hw0 hw1 hls z1
          unfold clo at *
          rw [this, ec]
          refine ih (e + 1) hp Z _ many hF (by omega) h a z2 ?_
          rw [em] at gth ⊢
          exact gth.swap (slt_tot x) (slt_tri x) (by omega) (by omega) ha hls
theorem gather_walk (hF : Fit hp.length L H) (hlast : last < 0 ∨ last ≤ x.length) (hrn : room ≤ n) (hr1 : 1 ≤ room) (hrm : room ≤ 65537)
    (h : HpOk hp r q f L H A s t z n many x) (a : AskOk hp r q f l g H last) (w : Words A B t n W) : ∃ Z V k,
    (∀ d, Lrun env (.func 60) [.pointer (some ⟨f, 0, some 0⟩), .int .i64 room, clo l g] ⟨put hp r q B, L, H, d⟩ =
      some (.tuple #[], ⟨put (hp.set f (hB r s x.length t z k)) r q Z, L, H, d⟩)) ∧ Words A Z t n V ∧ Gath (slt x) (askB x last) room V k (x.length + 1) := by
  have h0 := h.to (m2 := 0)
  obtain ⟨fr, Z, V, k2, e1, e2, e3⟩ := gather_loop (A := A) (last := last) hlast hrn hr1 hrm (x.length + 1) 0 _ B W 0 (hF.mono (by simp)) (by omega) h0 (a.to) w Gath.nil
  refine ⟨Z, V, k2, fun d => ?_, e2, e3⟩
  have o := h.words w
  have k := o.k
  have h1 := k.r_lt
  have h2 := k.q_lt
  have hne := k.ne
  have hf := o.hf
  have hid := o.hid
  have hr := o.hr
  have hq := o.hq
  have hfl : f < hp.length := (List.getElem?_eq_some_iff.1 o.hf).1
  have hfL : (f < L) = False := eq_false (by have := o.hwf; omega)
  have hmx := o.hm
  have hset := put_set_o (hp := hp) (A := B) (b := hB r s x.length t z 0) hr hq
  have hf0 : (hp.set f (hB r s x.length t z 0))[f]? = some (hB r s x.length t z 0) := List.getElem?_set_self hfl
  rw [List.length_set, List.set_set] at e1
  simp only [Int.natCast_zero] at e1
  unfold hB at hset hf hf0
  simp only [Int.natCast_zero] at hset hf0
  unfold hB at e1 ⊢
  simp only [Int.natCast_zero] at e1
  unfold clo at e1 ⊢
  rw [Lrun_sym 60 _ _ fn60]
  simp (disch := (first | omega | (simp only [lnE, put_length] <;> omega) | (refine Fit.mono ‹Fit _ _ _› ?_ <;> (simp only [lnE, put_length] <;> omega)) | (refine Fit.draw ‹Fit _ _ _› ?_ ?_ <;> (simp only [lnE, put_length] <;> omega)) | (refine Fit.hid1 ‹Fit _ _ _› ?_ ?_ <;> (simp only [lnE, put_length] <;> omega)) | (refine Fit.draw1 ‹Fit _ _ _› ?_ ?_ ?_ <;> (simp only [lnE, put_length] <;> omega)) | (refine Fit.range0 ?_ ?_ <;> (simp only [lnE, put_length] <;> omega)) | (refine ArOk.mono ‹ArOk _ _ _ _ _› ?_ <;> (simp only [lnE, put_length] <;> omega)) | (refine ArOk.hid ‹ArOk _ _ _ _ _› ?_ ?_ <;> (simp only [lnE, put_length] <;> omega)) | (refine ArOk.hid0 ‹ArOk _ _ _ _ _› ?_ ?_ <;> (simp only [lnE, put_length] <;> omega)) | ((intro xr hxr; simp [AM.refs, refsF, refsC] at hxr) <;> (simp only [lnE, put_length] <;> omega)) | fail)) only [syA, syB, argFr, D, E, T, C, undefv, eqF, aeq, sheqs, sheq, rdCells, cellsOf, fill, putAt, if_true, if_false, reduceIte, ↓reduceIte, reduceCtorEq, eq_self, Nat.reduceEqDiff, Nat.reduceAdd, Nat.reduceSub, Nat.reduceMul, Nat.reduceLT, Nat.reduceLeDiff, Nat.reducePow, Nat.reduceDiv, Nat.reduceMod, Int.reduceLT, Int.reduceLE, Int.reduceGT, Int.reduceGE, Int.reduceToNat, Int.reducePow, Int.reduceNeg, Int.reduceBEq, Int.reduceBNe, Int.reduceEq, Int.reduceAdd, Int.reduceSub, Int.reduceMul, cellv, sc, flatv, refs, refsF, refsC, syR, Int.le_refl, hF.not0, hF.not1, hF.up0, hF.up1, k.hr, k.hq, ac60, hf, hid, hfL, hset, hf0, e1]
theorem sort_stop (hF : Fit hp.length L H) (o : HpOk hp r q f L H B s t z n many x) (h1m : many ≤ 1) : ∃ fr,
    Liter env lb63_0 [3, 0] hp.length [(3, .int .i64 m), (0, .pointer (some ⟨f, 0, some 0⟩))] ⟨put hp r q B, L, H, []⟩ = some (.exit 0, fr, ⟨put hp r q B, L, H, []⟩) ∧ fr.get 3 = some (.int .i64 m) := by
  have k := o.k
  have h1 := k.r_lt
  have h2 := k.q_lt
  have hne := k.ne
  have hf := o.hf
  have hid := o.hid
  have hr := o.hr
  have hq := o.hq
  have hfl : f < hp.length := (List.getElem?_eq_some_iff.1 o.hf).1
  have c0 : ¬ (many : Int) > 1 := by omega
  rw [iter_by lb63_0.eq_1]
  unfold hB at hf
  simp (disch := (first | omega | (simp only [lnE, put_length] <;> omega) | (refine Fit.mono ‹Fit _ _ _› ?_ <;> (simp only [lnE, put_length] <;> omega)) | (refine Fit.draw ‹Fit _ _ _› ?_ ?_ <;> (simp only [lnE, put_length] <;> omega)) | (refine Fit.hid1 ‹Fit _ _ _› ?_ ?_ <;> (simp only [lnE, put_length] <;> omega)) | (refine Fit.draw1 ‹Fit _ _ _› ?_ ?_ ?_ <;> (simp only [lnE, put_length] <;> omega)) | (refine Fit.range0 ?_ ?_ <;> (simp only [lnE, put_length] <;> omega)) | (refine ArOk.mono ‹ArOk _ _ _ _ _› ?_ <;> (simp only [lnE, put_length] <;> omega)) | (refine ArOk.hid ‹ArOk _ _ _ _ _› ?_ ?_ <;> (simp only [lnE, put_length] <;> omega)) | (refine ArOk.hid0 ‹ArOk _ _ _ _ _› ?_ ?_ <;> (simp only [lnE, put_length] <;> omega)) | ((intro xr hxr; simp [AM.refs, refsF, refsC] at hxr) <;> (simp only [lnE, put_length] <;> omega)) | fail)) only [syA, syB, argFr, D, E, T, C, undefv, eqF, aeq, sheqs, sheq, rdCells, cellsOf, fill, putAt, if_true, if_false, reduceIte, ↓reduceIte, reduceCtorEq, eq_self, Nat.reduceEqDiff, Nat.reduceAdd, Nat.reduceSub, Nat.reduceMul, Nat.reduceLT, Nat.reduceLeDiff, Nat.reducePow, Nat.reduceDiv, Nat.reduceMod, Int.reduceLT, Int.reduceLE, Int.reduceGT, Int.reduceGE, Int.reduceToNat, Int.reducePow, Int.reduceNeg, Int.reduceBEq, Int.reduceBNe, Int.reduceEq, Int.reduceAdd, Int.reduceSub, Int.reduceMul, cellv, sc, flatv, refs, refsF, refsC, syR, Int.le_refl, hF.not0, hF.not1, hF.up0, hF.up1, k.hr, k.hq, hf, hid, c0]
  exact ⟨_, rfl, rfl⟩
theorem sort_step (hF : Fit hp.length L H) {j : Nat} (o : HpOk hp r q f L H B s t z n (j + 2) x) {w0 w1 : Nat} (hw0 : B.wordV t z 0 = w0) (hw1 : B.wordV t z ((j : Int) + 1) = w1) (b0 : w0 ≤ x.length) (b1 : w1 ≤ x.length) (hj : j ≤ 65536) {Z : Arn}
    (hsi : ∀ d, Lrun env (.func 83) [.pointer (some ⟨f, 0, some 0⟩), .int .i64 0] ⟨put (hp.set f (hB r s x.length t z (j + 1))) r q ((B.setWord t z 0 w1).setWord t z ((j : Int) + 1) w0), L, H, d⟩ = some (.tuple #[], ⟨put (hp.set f (hB r s x.length t z (j + 1))) r q Z, L, H, d⟩)) :
    Liter env lb63_0 [3, 0] hp.length [(3, .int .i64 m), (0, .pointer (some ⟨f, 0, some 0⟩))] ⟨put hp r q B, L, H, []⟩ = Liter env lb63_0 [3, 0] hp.length [(3, .int .i64 m), (0, .pointer (some ⟨f, 0, some 0⟩))] ⟨put (hp.set f (hB r s x.length t z (j + 1))) r q Z, L, H, []⟩ := by
  have k := o.k
  have h1 := k.r_lt
  have h2 := k.q_lt
  have hne := k.ne
  have hf := o.hf
  have hid := o.hid
  have hr := o.hr
  have hq := o.hq
  have hfl : f < hp.length := (List.getElem?_eq_some_iff.1 o.hf).1
  have hfL : (f < L) = False := eq_false (by have := o.hwf; omega)
  have hmx := o.hm
  have hset := put_set_o (hp := hp) (A := B) (b := hB r s x.length t z (j + 1)) hr hq
  have hf1 : (hp.set f (hB r s x.length t z (j + 1)))[f]? = some (hB r s x.length t z (j + 1)) := List.getElem?_set_self hfl
  have hF1 : Fit (hp.set f (hB r s x.length t z (j + 1))).length L H := hF.mono (by simp)
  have hF2 : Fit (hp.set f (hB r s x.length t z (j + 1))).length hp.length H := ⟨by simp, by simpa using hF.2⟩
  have k1 : ArOk (hp.set f (hB r s x.length t z (j + 1))).length r q H B := k.mono (by simp)
  have g0 := fun L' d e (hF' : Fit (hp.set f (hB r s x.length t z (j + 1))).length L' H) => hget_walk (d := d) hF' k1 hf1 hr hq hid e
  have g1 := fun d e => g0 L d e hF1
  have g2 := fun d e => g0 hp.length d e hF2
  have k2 := k1.setWord (s := t) (len := z) (i := 0) (v := w1)
  have s1 := fun d => hset_walk (d := d) (i := 0) (v := w1) hF1 k1 o.hw hf1 hr hq hid (by omega)
  have s2 := fun d => hset_walk (d := d) (i := (j : Int) + 1) (v := w0) hF1 k2 o.hw hf1 hr hq hid (by omega)
  have c0 : (j : Int) + 2 > 1 := by omega
  have e1 : (j : Int) + 2 - 1 = (j : Int) + 1 := by omega
  have ec1 : ((j + 1 : Nat) : Int) = (j : Int) + 1 := by omega
  have ec2 : ((j + 2 : Nat) : Int) = (j : Int) + 2 := by omega
  clear g0
  unfold hB at hf hf1 hset s1 s2 g1 g2 hsi ⊢
  rw [ec1] at hf1 hset hsi ⊢
  simp only [ec1] at s1 s2 g1 g2
  rw [ec2] at hf
  rw [iter_by lb63_0.eq_1]
  simp (disch := (first | omega | (simp only [lnE, put_length] <;> omega) | (refine Fit.mono ‹Fit _ _ _› ?_ <;> (simp only [lnE, put_length] <;> omega)) | (refine Fit.draw ‹Fit _ _ _› ?_ ?_ <;> (simp only [lnE, put_length] <;> omega)) | (refine Fit.hid1 ‹Fit _ _ _› ?_ ?_ <;> (simp only [lnE, put_length] <;> omega)) | (refine Fit.draw1 ‹Fit _ _ _› ?_ ?_ ?_ <;> (simp only [lnE, put_length] <;> omega)) | (refine Fit.range0 ?_ ?_ <;> (simp only [lnE, put_length] <;> omega)) | (refine ArOk.mono ‹ArOk _ _ _ _ _› ?_ <;> (simp only [lnE, put_length] <;> omega)) | (refine ArOk.hid ‹ArOk _ _ _ _ _› ?_ ?_ <;> (simp only [lnE, put_length] <;> omega)) | (refine ArOk.hid0 ‹ArOk _ _ _ _ _› ?_ ?_ <;> (simp only [lnE, put_length] <;> omega)) | ((intro xr hxr; simp [AM.refs, refsF, refsC] at hxr) <;> (simp only [lnE, put_length] <;> omega)) | fail)) only [syA, syB, argFr, D, E, T, C, undefv, eqF, aeq, sheqs, sheq, rdCells, cellsOf, fill, putAt, if_true, if_false, reduceIte, ↓reduceIte, reduceCtorEq, eq_self, Nat.reduceEqDiff, Nat.reduceAdd, Nat.reduceSub, Nat.reduceMul, Nat.reduceLT, Nat.reduceLeDiff, Nat.reducePow, Nat.reduceDiv, Nat.reduceMod, Int.reduceLT, Int.reduceLE, Int.reduceGT, Int.reduceGE, Int.reduceToNat, Int.reducePow, Int.reduceNeg, Int.reduceBEq, Int.reduceBNe, Int.reduceEq, Int.reduceAdd, Int.reduceSub, Int.reduceMul, cellv, sc, flatv, refs, refsF, refsC, syR, Int.le_refl, hF.not0, hF.not1, hF.up0, hF.up1, k.hr, k.hq, hf, hf1, hid, hfL, c0, e1, hset, g1, g2, hw0, hw1, s1, s2, hsi]
theorem sort_loop : ∀ (j : Nat) (hp : List Blk) (B : Arn) (W : Nat → Nat), Fit hp.length L H → j ≤ n → j ≤ x.length + 1 → HpOk hp r q f L H A s t z n j x → Words A B t n W → (∀ i, i < j → W i ≤ x.length) → ∃ fr Z k,
    Liter env lb63_0 [3, 0] hp.length [(3, .int .i64 m), (0, .pointer (some ⟨f, 0, some 0⟩))] ⟨put hp r q B, L, H, []⟩ = some (.exit 0, fr, ⟨put (hp.set f (hB r s x.length t z k)) r q Z, L, H, []⟩) ∧ fr.get 3 = some (.int .i64 m) ∧ Words A Z t n (sortW (slt x) j W)
  | 0, hp, B, W, hF, hj, hjx, h, w, hW => by
    obtain ⟨fr, e1, e2⟩ := sort_stop (m := m) hF (h.words w) (by omega)
    exact ⟨fr, B, 0, by rw [h.same]; exact e1, e2, w⟩
  | 1, hp, B, W, hF, hj, hjx, h, w, hW => by
    obtain ⟨fr, e1, e2⟩ := sort_stop (m := m) hF (h.words w) (by omega)
    exact ⟨fr, B, 1, by rw [h.same]; exact e1, e2, w⟩
  | j + 2, hp, B, W, hF, hj, hjx, h, w, hW => by
    have hm := h.hm
    have hw0 : B.wordV t z 0 = W 0 := w.get' h (by omega) (hW 0 (by omega)) rfl
    have hw1 : B.wordV t z ((j : Int) + 1) = W (j + 1) := w.get' h (by omega) (hW (j + 1) (by omega)) (by omega)
    have ws : Words A ((B.setWord t z 0 (W (j + 1))).setWord t z ((j : Int) + 1) (W 0)) t n (swp W 0 (j + 1)) := by
      have w1 := w.set' (v := W (j + 1)) (i := 0) (e := 0) h (by omega) rfl
      exact w1.set' (v := W 0) h (i := j + 1) (by omega) (by omega)
    have hs : ∀ i, i < j + 1 → swp W 0 (j + 1) i ≤ x.length := fun i hi => by
      rw [swp_at]; split
      · exact hW _ (by omega)
      split
      · exact hW _ (by omega)
      · exact hW _ (by omega)
    have h1 := h.to (m2 := j + 1)
    have hF1 : Fit (hp.set f (hB r s x.length t z (j + 1))).length L H := hF.mono (by simp)
    obtain ⟨Z, z1, z2⟩ := sink_walk hF1 h1 (by omega) ws hs (by omega)
    have st := sort_step (m := m) hF (h.words w) hw0 hw1 (hW 0 (by omega)) (hW (j + 1) (by omega)) (by omega) z1
    have sm := sinkW_same (lt := slt x) (j + 1) (swp W 0 (j + 1)) (j + 1) 0 (by omega)
    obtain ⟨fr, Z2, k2, i1, i2, i3⟩ := sort_loop (j + 1) _ Z _ hF1 (by omega) (by omega) h1 z2 (fun i hi => by
      obtain ⟨i2, hi2, e⟩ := (sm.mem _).1 ⟨i, hi, rfl⟩
      rw [← e]; exact hs i2 hi2)
    rw [List.length_set, List.set_set] at i1
    exact ⟨fr, Z2, k2, by rw [st]; exact i1, i2, i3⟩
theorem sort_walk (hF : Fit hp.length L H) (h : HpOk hp r q f L H A s t z n many x) (w : Words A B t n W) (hmn : many ≤ n) (hmx : many ≤ x.length + 1) (hW : ∀ i, i < many → W i ≤ x.length) : ∃ Z k,
    (∀ d, Lrun env (.func 63) [.pointer (some ⟨f, 0, some 0⟩)] ⟨put hp r q B, L, H, d⟩ =
      some (.int .i64 many, ⟨put (hp.set f (hB r s x.length t z k)) r q Z, L, H, d⟩)) ∧ Words A Z t n (sortW (slt x) many W) := by
  obtain ⟨fr, Z, k2, e1, e2, e3⟩ := sort_loop (A := A) (m := many) many hp B W (hF.mono (Nat.le_refl _)) hmn hmx h w hW
  refine ⟨Z, k2, fun d => ?_, e3⟩
  have o := h.words w
  have k := o.k
  have h1 := k.r_lt
  have h2 := k.q_lt
  have hne := k.ne
  have hf := o.hf
  have hid := o.hid
  have hr := o.hr
  have hq := o.hq
  have hfl : f < hp.length := (List.getElem?_eq_some_iff.1 o.hf).1
  unfold hB at hf
  rw [Lrun_sym 63 _ _ fn63]
  simp (disch := (first | omega | (simp only [lnE, put_length] <;> omega) | (refine Fit.mono ‹Fit _ _ _› ?_ <;> (simp only [lnE, put_length] <;> omega)) | (refine Fit.draw ‹Fit _ _ _› ?_ ?_ <;> (simp only [lnE, put_length] <;> omega)) | (refine Fit.hid1 ‹Fit _ _ _› ?_ ?_ <;> (simp only [lnE, put_length] <;> omega)) | (refine Fit.draw1 ‹Fit _ _ _› ?_ ?_ ?_ <;> (simp only [lnE, put_length] <;> omega)) | (refine Fit.range0 ?_ ?_ <;> (simp only [lnE, put_length] <;> omega)) | (refine ArOk.mono ‹ArOk _ _ _ _ _› ?_ <;> (simp only [lnE, put_length] <;> omega)) | (refine ArOk.hid ‹ArOk _ _ _ _ _› ?_ ?_ <;> (simp only [lnE, put_length] <;> omega)) | (refine ArOk.hid0 ‹ArOk _ _ _ _ _› ?_ ?_ <;> (simp only [lnE, put_length] <;> omega)) | ((intro xr hxr; simp [AM.refs, refsF, refsC] at hxr) <;> (simp only [lnE, put_length] <;> omega)) | fail)) only [syA, syB, argFr, D, E, T, C, undefv, eqF, aeq, sheqs, sheq, rdCells, cellsOf, fill, putAt, if_true, if_false, reduceIte, ↓reduceIte, reduceCtorEq, eq_self, Nat.reduceEqDiff, Nat.reduceAdd, Nat.reduceSub, Nat.reduceMul, Nat.reduceLT, Nat.reduceLeDiff, Nat.reducePow, Nat.reduceDiv, Nat.reduceMod, Int.reduceLT, Int.reduceLE, Int.reduceGT, Int.reduceGE, Int.reduceToNat, Int.reducePow, Int.reduceNeg, Int.reduceBEq, Int.reduceBNe, Int.reduceEq, Int.reduceAdd, Int.reduceSub, Int.reduceMul, cellv, sc, flatv, refs, refsF, refsC, syR, Int.le_refl, hF.not0, hF.not1, hF.up0, hF.up1, k.hr, k.hq, ac63, hf, hid, e1, e2]
end
end ArA
end Go.Proofs.Ytlphmnhkkhcjfaa
