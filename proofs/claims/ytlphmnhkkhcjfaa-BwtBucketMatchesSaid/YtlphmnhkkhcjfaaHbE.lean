/-
  THE TRANSFORM BY BUCKETS: the least suffixes are gathered, on the abstract machine. Conditions: none.
-/
import Derived.Test.YtlphmnhkkhcjfaaHbD
set_option linter.all false
namespace Go.Proofs.Ytlphmnhkkhcjfaa
namespace ArA
open Go Go.RowKit AM ArEnv
/-- Which suffixes are asked for: those after the last one. -/
def askB (x : List Nat) (last : Int) (e : Nat) : Bool := decide (last < 0) || slt x last.toNat e
structure AskOk (hp : List Blk) (r q f l g : Nat) (H : List Nat) (last : Int) : Prop where
  hl : hp[l]? = some (.cells 0 true [.int .i64 last])
  hg : hp[g]? = some (.cells 0 false [.pointer (some ⟨f, 0, some 0⟩)])
  lr : r ≠ l
  lq : q ≠ l
  lf : f ≠ l
  gr : r ≠ g
  gq : q ≠ g
  gf : f ≠ g
  lH : H.contains l = false
  gH : H.contains g = false
section
variable {hp : List Blk} {L : Nat} {H d : List Nat} {r q f l g : Nat} {A B : Arn} {s t z n m many room : Nat} {x : List Nat} {W : Nat → Nat} {last : Int}
theorem AskOk.to {b : Blk} (a : AskOk hp r q f l g H last) : AskOk (hp.set f b) r q f l g H last :=
  { a with hl := by rw [List.getElem?_set_ne a.lf]; exact a.hl, hg := by rw [List.getElem?_set_ne a.gf]; exact a.hg }
theorem ask_walk (hF : Fit hp.length L H) (o : HpOk hp r q f L H B s t z n many x) (a : AskOk hp r q f l g H last) (hlast : last < 0 ∨ last ≤ x.length) {e : Nat} (he : e ≤ x.length) :
    Lrun env (.func 61) [.int .i64 e, .pointer (some ⟨l, 0, some 0⟩), .pointer (some ⟨g, 0, some 0⟩)] ⟨put hp r q B, L, H, d⟩ = some (.bool (askB x last e), ⟨put hp r q B, L, H, d⟩) := by
  have k := o.k
  have h1 := k.r_lt
  have h2 := k.q_lt
  have hne := k.ne
  have hl := a.hl
  have hg := a.hg
  have hll : l < hp.length := (List.getElem?_eq_some_iff.1 hl).1
  have hgl : g < hp.length := (List.getElem?_eq_some_iff.1 hg).1
  have lr := a.lr
  have lq := a.lq
  have gr := a.gr
  have gq := a.gq
  have lH := a.lH
  have gH := a.gH
  rw [Lrun_sym 61 _ _ fn61]
  by_cases c : last < 0
  · have e1 : askB x last e = true := by unfold askB; simp [c]
    rw [e1]
    simp (disch := (first | omega | (simp only [lnE, put_length] <;> omega) | (refine Fit.mono ‹Fit _ _ _› ?_ <;> (simp only [lnE, put_length] <;> omega)) | (refine Fit.draw ‹Fit _ _ _› ?_ ?_ <;> (simp only [lnE, put_length] <;> omega)) | (refine Fit.hid1 ‹Fit _ _ _› ?_ ?_ <;> (simp only [lnE, put_length] <;> omega)) | (refine Fit.draw1 ‹Fit _ _ _› ?_ ?_ ?_ <;> (simp only [lnE, put_length] <;> omega)) | (refine Fit.range0 ?_ ?_ <;> (simp only [lnE, put_length] <;> omega)) | (refine ArOk.mono ‹ArOk _ _ _ _ _› ?_ <;> (simp only [lnE, put_length] <;> omega)) | (refine ArOk.hid ‹ArOk _ _ _ _ _› ?_ ?_ <;> (simp only [lnE, put_length] <;> omega)) | (refine ArOk.hid0 ‹ArOk _ _ _ _ _› ?_ ?_ <;> (simp only [lnE, put_length] <;> omega)) | ((intro xr hxr; simp [AM.refs, refsF, refsC] at hxr) <;> (simp only [lnE, put_length] <;> omega)) | fail)) only [syA, syB, argFr, D, E, T, C, undefv, eqF, aeq, sheqs, sheq, rdCells, cellsOf, fill, putAt, if_true, if_false, reduceIte, ↓reduceIte, reduceCtorEq, eq_self, Nat.reduceEqDiff, Nat.reduceAdd, Nat.reduceSub, Nat.reduceMul, Nat.reduceLT, Nat.reduceLeDiff, Nat.reducePow, Nat.reduceDiv, Nat.reduceMod, Int.reduceLT, Int.reduceLE, Int.reduceGT, Int.reduceGE, Int.reduceToNat, Int.reducePow, Int.reduceNeg, Int.reduceBEq, Int.reduceBNe, Int.reduceEq, Int.reduceAdd, Int.reduceSub, Int.reduceMul, cellv, sc, flatv, refs, refsF, refsC, syR, Int.le_refl, hF.not0, hF.not1, hF.up0, hF.up1, k.hr, k.hq, ac61, hl, hg, lH, gH, c]
  · have e0 : last = (last.toNat : Int) := by omega
    have e1 : askB x last e = slt x last.toNat e := by unfold askB; simp [c]
    rw [e1]
    generalize last.toNat = j at *
    subst e0
    have w := hless_walk (d := []) hF o.k o.hx o.hm o.hf o.hr o.hq o.hid (i := j) (j := e) (by omega) he
    simp (disch := (first | omega | (simp only [lnE, put_length] <;> omega) | (refine Fit.mono ‹Fit _ _ _› ?_ <;> (simp only [lnE, put_length] <;> omega)) | (refine Fit.draw ‹Fit _ _ _› ?_ ?_ <;> (simp only [lnE, put_length] <;> omega)) | (refine Fit.hid1 ‹Fit _ _ _› ?_ ?_ <;> (simp only [lnE, put_length] <;> omega)) | (refine Fit.draw1 ‹Fit _ _ _› ?_ ?_ ?_ <;> (simp only [lnE, put_length] <;> omega)) | (refine Fit.range0 ?_ ?_ <;> (simp only [lnE, put_length] <;> omega)) | (refine ArOk.mono ‹ArOk _ _ _ _ _› ?_ <;> (simp only [lnE, put_length] <;> omega)) | (refine ArOk.hid ‹ArOk _ _ _ _ _› ?_ ?_ <;> (simp only [lnE, put_length] <;> omega)) | (refine ArOk.hid0 ‹ArOk _ _ _ _ _› ?_ ?_ <;> (simp only [lnE, put_length] <;> omega)) | ((intro xr hxr; simp [AM.refs, refsF, refsC] at hxr) <;> (simp only [lnE, put_length] <;> omega)) | fail)) only [syA, syB, argFr, D, E, T, C, undefv, eqF, aeq, sheqs, sheq, rdCells, cellsOf, fill, putAt, if_true, if_false, reduceIte, ↓reduceIte, reduceCtorEq, eq_self, Nat.reduceEqDiff, Nat.reduceAdd, Nat.reduceSub, Nat.reduceMul, Nat.reduceLT, Nat.reduceLeDiff, Nat.reducePow, Nat.reduceDiv, Nat.reduceMod, Int.reduceLT, Int.reduceLE, Int.reduceGT, Int.reduceGE, Int.reduceToNat, Int.reducePow, Int.reduceNeg, Int.reduceBEq, Int.reduceBNe, Int.reduceEq, Int.reduceAdd, Int.reduceSub, Int.reduceMul, cellv, sc, flatv, refs, refsF, refsC, syR, Int.le_refl, hF.not0, hF.not1, hF.up0, hF.up1, k.hr, k.hq, ac61, hl, hg, lH, gH, c, w]
theorem gath_skip (hF : Fit hp.length L H) (o : HpOk hp r q f L H B s t z n many x) (a : AskOk hp r q f l g H last) (hlast : last < 0 ∨ last ≤ x.length) {e : Nat} (he : e ≤ x.length) (ha : askB x last e = false) :
    Liter env lb60_0 [16, 15, 2, 0, 1] hp.length [(16, .int .i64 e), (15, .int .i64 ((x.length : Int) + 1)), (2, .func (.func 61) #[] #[.pointer (some ⟨l, 0, some 0⟩), .pointer (some ⟨g, 0, some 0⟩)]), (0, .pointer (some ⟨f, 0, some 0⟩)), (1, .int .i64 room)] ⟨put hp r q B, L, H, []⟩ = Liter env lb60_0 [16, 15, 2, 0, 1] hp.length [(16, .int .i64 ((e : Int) + 1)), (15, .int .i64 ((x.length : Int) + 1)), (2, .func (.func 61) #[] #[.pointer (some ⟨l, 0, some 0⟩), .pointer (some ⟨g, 0, some 0⟩)]), (0, .pointer (some ⟨f, 0, some 0⟩)), (1, .int .i64 room)] ⟨put hp r q B, L, H, []⟩ := by
  have k := o.k
  have h1 := k.r_lt
  have h2 := k.q_lt
  have hne := k.ne
  have hf := o.hf
  have hid := o.hid
  have hr := o.hr
  have hq := o.hq
  have hfl : f < hp.length := (List.getElem?_eq_some_iff.1 o.hf).1
  have hmx := o.hm
  have hs := o.hs
  have hn := o.hn
  have hw := o.hw
  have c0 : (e : Int) < (x.length : Int) + 1 := by omega
  have aw := fun d => ask_walk (d := d) hF o a hlast he
  rw [iter_by lb60_0.eq_1]
  simp (disch := (first | omega | (simp only [lnE, put_length] <;> omega) | (refine Fit.mono ‹Fit _ _ _› ?_ <;> (simp only [lnE, put_length] <;> omega)) | (refine Fit.draw ‹Fit _ _ _› ?_ ?_ <;> (simp only [lnE, put_length] <;> omega)) | (refine Fit.hid1 ‹Fit _ _ _› ?_ ?_ <;> (simp only [lnE, put_length] <;> omega)) | (refine Fit.draw1 ‹Fit _ _ _› ?_ ?_ ?_ <;> (simp only [lnE, put_length] <;> omega)) | (refine Fit.range0 ?_ ?_ <;> (simp only [lnE, put_length] <;> omega)) | (refine ArOk.mono ‹ArOk _ _ _ _ _› ?_ <;> (simp only [lnE, put_length] <;> omega)) | (refine ArOk.hid ‹ArOk _ _ _ _ _› ?_ ?_ <;> (simp only [lnE, put_length] <;> omega)) | (refine ArOk.hid0 ‹ArOk _ _ _ _ _› ?_ ?_ <;> (simp only [lnE, put_length] <;> omega)) | ((intro xr hxr; simp [AM.refs, refsF, refsC] at hxr) <;> (simp only [lnE, put_length] <;> omega)) | fail)) only [syA, syB, argFr, D, E, T, C, undefv, eqF, aeq, sheqs, sheq, rdCells, cellsOf, fill, putAt, if_true, if_false, reduceIte, ↓reduceIte, reduceCtorEq, eq_self, Nat.reduceEqDiff, Nat.reduceAdd, Nat.reduceSub, Nat.reduceMul, Nat.reduceLT, Nat.reduceLeDiff, Nat.reducePow, Nat.reduceDiv, Nat.reduceMod, Int.reduceLT, Int.reduceLE, Int.reduceGT, Int.reduceGE, Int.reduceToNat, Int.reducePow, Int.reduceNeg, Int.reduceBEq, Int.reduceBNe, Int.reduceEq, Int.reduceAdd, Int.reduceSub, Int.reduceMul, cellv, sc, flatv, refs, refsF, refsC, syR, Int.le_refl, hF.not0, hF.not1, hF.up0, hF.up1, k.hr, k.hq, c0, aw, ha]
theorem gath_rise (hF : Fit hp.length L H) (o : HpOk hp r q f L H B s t z n many x) (a : AskOk hp r q f l g H last) (hlast : last < 0 ∨ last ≤ x.length) {e : Nat} (he : e ≤ x.length) (ha : askB x last e = true) (hmr : many < room) {Z : Arn}
    (hri : ∀ d, Lrun env (.func 81) [.pointer (some ⟨f, 0, some 0⟩), .int .i64 e] ⟨put hp r q B, L, H, d⟩ = some (.tuple #[], ⟨put (hp.set f (hB r s x.length t z (many + 1))) r q Z, L, H, d⟩)) :
    Liter env lb60_0 [16, 15, 2, 0, 1] hp.length [(16, .int .i64 e), (15, .int .i64 ((x.length : Int) + 1)), (2, .func (.func 61) #[] #[.pointer (some ⟨l, 0, some 0⟩), .pointer (some ⟨g, 0, some 0⟩)]), (0, .pointer (some ⟨f, 0, some 0⟩)), (1, .int .i64 room)] ⟨put hp r q B, L, H, []⟩ = Liter env lb60_0 [16, 15, 2, 0, 1] hp.length [(16, .int .i64 ((e : Int) + 1)), (15, .int .i64 ((x.length : Int) + 1)), (2, .func (.func 61) #[] #[.pointer (some ⟨l, 0, some 0⟩), .pointer (some ⟨g, 0, some 0⟩)]), (0, .pointer (some ⟨f, 0, some 0⟩)), (1, .int .i64 room)] ⟨put (hp.set f (hB r s x.length t z (many + 1))) r q Z, L, H, []⟩ := by
  have k := o.k
  have h1 := k.r_lt
  have h2 := k.q_lt
  have hne := k.ne
  have hf := o.hf
  have hid := o.hid
  have hr := o.hr
  have hq := o.hq
  have hfl : f < hp.length := (List.getElem?_eq_some_iff.1 o.hf).1
  have hmx := o.hm
  have hs := o.hs
  have hn := o.hn
  have hw := o.hw
  have c0 : (e : Int) < (x.length : Int) + 1 := by omega
  have aw := fun d => ask_walk (d := d) hF o a hlast he
  have c1 : (many : Int) < room := by omega
  rw [iter_by lb60_0.eq_1]
  unfold hB at hf
  simp (disch := (first | omega | (simp only [lnE, put_length] <;> omega) | (refine Fit.mono ‹Fit _ _ _› ?_ <;> (simp only [lnE, put_length] <;> omega)) | (refine Fit.draw ‹Fit _ _ _› ?_ ?_ <;> (simp only [lnE, put_length] <;> omega)) | (refine Fit.hid1 ‹Fit _ _ _› ?_ ?_ <;> (simp only [lnE, put_length] <;> omega)) | (refine Fit.draw1 ‹Fit _ _ _› ?_ ?_ ?_ <;> (simp only [lnE, put_length] <;> omega)) | (refine Fit.range0 ?_ ?_ <;> (simp only [lnE, put_length] <;> omega)) | (refine ArOk.mono ‹ArOk _ _ _ _ _› ?_ <;> (simp only [lnE, put_length] <;> omega)) | (refine ArOk.hid ‹ArOk _ _ _ _ _› ?_ ?_ <;> (simp only [lnE, put_length] <;> omega)) | (refine ArOk.hid0 ‹ArOk _ _ _ _ _› ?_ ?_ <;> (simp only [lnE, put_length] <;> omega)) | ((intro xr hxr; simp [AM.refs, refsF, refsC] at hxr) <;> (simp only [lnE, put_length] <;> omega)) | fail)) only [syA, syB, argFr, D, E, T, C, undefv, eqF, aeq, sheqs, sheq, rdCells, cellsOf, fill, putAt, if_true, if_false, reduceIte, ↓reduceIte, reduceCtorEq, eq_self, Nat.reduceEqDiff, Nat.reduceAdd, Nat.reduceSub, Nat.reduceMul, Nat.reduceLT, Nat.reduceLeDiff, Nat.reducePow, Nat.reduceDiv, Nat.reduceMod, Int.reduceLT, Int.reduceLE, Int.reduceGT, Int.reduceGE, Int.reduceToNat, Int.reducePow, Int.reduceNeg, Int.reduceBEq, Int.reduceBNe, Int.reduceEq, Int.reduceAdd, Int.reduceSub, Int.reduceMul, cellv, sc, flatv, refs, refsF, refsC, syR, Int.le_refl, hF.not0, hF.not1, hF.up0, hF.up1, k.hr, k.hq, c0, aw, ha, hf, hid, c1, hri]
theorem gath_full (hF : Fit hp.length L H) (o : HpOk hp r q f L H B s t z n many x) (a : AskOk hp r q f l g H last) (hlast : last < 0 ∨ last ≤ x.length) {e : Nat} (he : e ≤ x.length) (ha : askB x last e = true) (hmr : ¬ many < room) {w0 : Nat} (hw0 : B.wordV t z 0 = w0) (hw1 : w0 ≤ x.length) (hls : slt x e w0 = false) :
    Liter env lb60_0 [16, 15, 2, 0, 1] hp.length [(16, .int .i64 e), (15, .int .i64 ((x.length : Int) + 1)), (2, .func (.func 61) #[] #[.pointer (some ⟨l, 0, some 0⟩), .pointer (some ⟨g, 0, some 0⟩)]), (0, .pointer (some ⟨f, 0, some 0⟩)), (1, .int .i64 room)] ⟨put hp r q B, L, H, []⟩ = Liter env lb60_0 [16, 15, 2, 0, 1] hp.length [(16, .int .i64 ((e : Int) + 1)), (15, .int .i64 ((x.length : Int) + 1)), (2, .func (.func 61) #[] #[.pointer (some ⟨l, 0, some 0⟩), .pointer (some ⟨g, 0, some 0⟩)]), (0, .pointer (some ⟨f, 0, some 0⟩)), (1, .int .i64 room)] ⟨put hp r q B, L, H, []⟩ := by
  have k := o.k
  have h1 := k.r_lt
  have h2 := k.q_lt
  have hne := k.ne
  have hf := o.hf
  have hid := o.hid
  have hr := o.hr
  have hq := o.hq
  have hfl : f < hp.length := (List.getElem?_eq_some_iff.1 o.hf).1
  have hmx := o.hm
  have hs := o.hs
  have hn := o.hn
  have hw := o.hw
  have c0 : (e : Int) < (x.length : Int) + 1 := by omega
  have aw := fun d => ask_walk (d := d) hF o a hlast he
  have c1 : ¬ (many : Int) < room := by omega
  have gg := fun d => hget_walk (d := d) hF o.k hf hr hq hid 0
  have ll := fun d => hless_walk (d := d) hF o.k o.hx hmx hf hr hq hid he hw1
  rw [iter_by lb60_0.eq_1]
  unfold hB at hf
  simp (disch := (first | omega | (simp only [lnE, put_length] <;> omega) | (refine Fit.mono ‹Fit _ _ _› ?_ <;> (simp only [lnE, put_length] <;> omega)) | (refine Fit.draw ‹Fit _ _ _› ?_ ?_ <;> (simp only [lnE, put_length] <;> omega)) | (refine Fit.hid1 ‹Fit _ _ _› ?_ ?_ <;> (simp only [lnE, put_length] <;> omega)) | (refine Fit.draw1 ‹Fit _ _ _› ?_ ?_ ?_ <;> (simp only [lnE, put_length] <;> omega)) | (refine Fit.range0 ?_ ?_ <;> (simp only [lnE, put_length] <;> omega)) | (refine ArOk.mono ‹ArOk _ _ _ _ _› ?_ <;> (simp only [lnE, put_length] <;> omega)) | (refine ArOk.hid ‹ArOk _ _ _ _ _› ?_ ?_ <;> (simp only [lnE, put_length] <;> omega)) | (refine ArOk.hid0 ‹ArOk _ _ _ _ _› ?_ ?_ <;> (simp only [lnE, put_length] <;> omega)) | ((intro xr hxr; simp [AM.refs, refsF, refsC] at hxr) <;> (simp only [lnE, put_length] <;> omega)) | fail)) only [syA, syB, argFr, D, E, T, C, undefv, eqF, aeq, sheqs, sheq, rdCells, cellsOf, fill, putAt, if_true, if_false, reduceIte, ↓reduceIte, reduceCtorEq, eq_self, Nat.reduceEqDiff, Nat.reduceAdd, Nat.reduceSub, Nat.reduceMul, Nat.reduceLT, Nat.reduceLeDiff, Nat.reducePow, Nat.reduceDiv, Nat.reduceMod, Int.reduceLT, Int.reduceLE, Int.reduceGT, Int.reduceGE, Int.reduceToNat, Int.reducePow, Int.reduceNeg, Int.reduceBEq, Int.reduceBNe, Int.reduceEq, Int.reduceAdd, Int.reduceSub, Int.reduceMul, cellv, sc, flatv, refs, refsF, refsC, syR, Int.le_refl, hF.not0, hF.not1, hF.up0, hF.up1, k.hr, k.hq, c0, aw, ha, hf, hid, c1, gg, hw0, ll, hls]
theorem gath_swap (hF : Fit hp.length L H) (o : HpOk hp r q f L H B s t z n many x) (a : AskOk hp r q f l g H last) (hlast : last < 0 ∨ last ≤ x.length) {e : Nat} (he : e ≤ x.length) (ha : askB x last e = true) (hmr : ¬ many < room) {w0 : Nat} (hw0 : B.wordV t z 0 = w0) (hw1 : w0 ≤ x.length) (hls : slt x e w0 = true) {Z : Arn}
    (hsi : ∀ d, Lrun env (.func 83) [.pointer (some ⟨f, 0, some 0⟩), .int .i64 0] ⟨put hp r q (B.setWord t z 0 e), L, H, d⟩ = some (.tuple #[], ⟨put hp r q Z, L, H, d⟩)) :
    Liter env lb60_0 [16, 15, 2, 0, 1] hp.length [(16, .int .i64 e), (15, .int .i64 ((x.length : Int) + 1)), (2, .func (.func 61) #[] #[.pointer (some ⟨l, 0, some 0⟩), .pointer (some ⟨g, 0, some 0⟩)]), (0, .pointer (some ⟨f, 0, some 0⟩)), (1, .int .i64 room)] ⟨put hp r q B, L, H, []⟩ = Liter env lb60_0 [16, 15, 2, 0, 1] hp.length [(16, .int .i64 ((e : Int) + 1)), (15, .int .i64 ((x.length : Int) + 1)), (2, .func (.func 61) #[] #[.pointer (some ⟨l, 0, some 0⟩), .pointer (some ⟨g, 0, some 0⟩)]), (0, .pointer (some ⟨f, 0, some 0⟩)), (1, .int .i64 room)] ⟨put hp r q Z, L, H, []⟩ := by
  have k := o.k
  have h1 := k.r_lt
  have h2 := k.q_lt
  have hne := k.ne
  have hf := o.hf
  have hid := o.hid
  have hr := o.hr
  have hq := o.hq
  have hfl : f < hp.length := (List.getElem?_eq_some_iff.1 o.hf).1
  have hmx := o.hm
  have hs := o.hs
  have hn := o.hn
  have hw := o.hw
  have c0 : (e : Int) < (x.length : Int) + 1 := by omega
  have aw := fun d => ask_walk (d := d) hF o a hlast he
  have c1 : ¬ (many : Int) < room := by omega
  have gg := fun d => hget_walk (d := d) hF o.k hf hr hq hid 0
  have ll := fun d => hless_walk (d := d) hF o.k o.hx hmx hf hr hq hid he hw1
  have ss := fun d => hset_walk (d := d) (i := 0) (v := e) hF o.k o.hw hf hr hq hid (by omega)
  rw [iter_by lb60_0.eq_1]
  unfold hB at hf
  simp (disch := (first | omega | (simp only [lnE, put_length] <;> omega) | (refine Fit.mono ‹Fit _ _ _› ?_ <;> (simp only [lnE, put_length] <;> omega)) | (refine Fit.draw ‹Fit _ _ _› ?_ ?_ <;> (simp only [lnE, put_length] <;> omega)) | (refine Fit.hid1 ‹Fit _ _ _› ?_ ?_ <;> (simp only [lnE, put_length] <;> omega)) | (refine Fit.draw1 ‹Fit _ _ _› ?_ ?_ ?_ <;> (simp only [lnE, put_length] <;> omega)) | (refine Fit.range0 ?_ ?_ <;> (simp only [lnE, put_length] <;> omega)) | (refine ArOk.mono ‹ArOk _ _ _ _ _› ?_ <;> (simp only [lnE, put_length] <;> omega)) | (refine ArOk.hid ‹ArOk _ _ _ _ _› ?_ ?_ <;> (simp only [lnE, put_length] <;> omega)) | (refine ArOk.hid0 ‹ArOk _ _ _ _ _› ?_ ?_ <;> (simp only [lnE, put_length] <;> omega)) | ((intro xr hxr; simp [AM.refs, refsF, refsC] at hxr) <;> (simp only [lnE, put_length] <;> omega)) | fail)) only [syA, syB, argFr, D, E, T, C, undefv, eqF, aeq, sheqs, sheq, rdCells, cellsOf, fill, putAt, if_true, if_false, reduceIte, ↓reduceIte, reduceCtorEq, eq_self, Nat.reduceEqDiff, Nat.reduceAdd, Nat.reduceSub, Nat.reduceMul, Nat.reduceLT, Nat.reduceLeDiff, Nat.reducePow, Nat.reduceDiv, Nat.reduceMod, Int.reduceLT, Int.reduceLE, Int.reduceGT, Int.reduceGE, Int.reduceToNat, Int.reducePow, Int.reduceNeg, Int.reduceBEq, Int.reduceBNe, Int.reduceEq, Int.reduceAdd, Int.reduceSub, Int.reduceMul, cellv, sc, flatv, refs, refsF, refsC, syR, Int.le_refl, hF.not0, hF.not1, hF.up0, hF.up1, k.hr, k.hq, c0, aw, ha, hf, hid, c1, gg, hw0, ll, hls, ss, hsi]
end
end ArA
end Go.Proofs.Ytlphmnhkkhcjfaa
