/-
  HEADERS: walk of the reference's ValidMark. Conditions: none.
-/
import Derived.Test.YtpjjkmfidghkjaaHrD
set_option linter.all false
namespace Go.Proofs.Ytpjjkmfidghkjaa
namespace VarA
open Go Go.RowKit AM ArEnv

theorem mal_ok {n : Int} {t : MS} {c : Nat} (hv : mValid n t = true) : (mAl n t c).2 = (mGo n t c).2 ∧ ((mAl n t c).2 = true → (mAl n t c).1 = (mGo n t c).1) := by
  obtain ⟨a, v, k, m, p, s, y⟩ := t
  simp only [mValid, Bool.and_eq_true] at hv
  have hr := hv.2
  by_cases h0 : a = 0
  · subst h0; simp [mAl, mGo]
  by_cases h1 : a = 1
  · subst h1
    simp [mRight] at hr
    obtain ⟨_, rfl, rfl, rfl, rfl⟩ := hr
    rw [mgo_1]
    have e : mAl n ⟨1, v, k, 0, 0, 0, 0⟩ c = (if ((gStep v k c n).2.2.1 && (gStep v k c n).2.2.2) = true then ⟨2, 0, 0, (gStep v k c n).1, 0, 0, 0⟩ else ⟨1, (gStep v k c n).1, (gStep v k c n).2.1, 0, 0, 0, 0⟩, (gStep v k c n).2.2.2) := by
      unfold mAl; rw [if_neg (by simp), if_pos rfl]
    rw [e]
    refine ⟨rfl, fun h => ?_⟩
    simp only at h
    simp [h]
  by_cases h2 : a = 2
  · subst h2
    simp [mRight] at hr
    obtain ⟨_, rfl, rfl, rfl⟩ := hr
    rw [mgo_2]
    have e : mAl n ⟨2, v, k, m, 0, 0, 0⟩ c = (if ((gStep v k c m).2.2.1 && (gStep v k c m).2.2.2) = true then ⟨3, 0, 0, m, (gStep v k c m).1, 0, 0⟩ else ⟨2, (gStep v k c m).1, (gStep v k c m).2.1, m, 0, 0, 0⟩, (gStep v k c m).2.2.2) := by
      unfold mAl; rw [if_neg (by simp), if_neg (by simp), if_pos rfl]
    rw [e]
    refine ⟨rfl, fun h => ?_⟩
    simp only at h
    simp [h]
  · rw [mgo_3 h0 h1 h2]
    have e : mAl n ⟨a, v, k, m, p, s, y⟩ c = (⟨if y + 1 = 4 then a + 1 else a, v, k, m, p, s * 256 + c, y + 1⟩, true) := by
      unfold mAl; rw [if_neg h0, if_neg h1, if_neg h2]
    rw [e]
    exact ⟨rfl, fun _ => rfl⟩
theorem mgo_valid {n : Int} {t : MS} {c : Nat} (hv : mValid n t = true) (h4 : ¬ t.a = 4) (h6 : ¬ t.a = 6) (hc : c < 256) (h : (mGo n t c).2 = true) : mValid n (mGo n t c).1 = true := by
  have e := mstep_go (c := c) hv h4 h6
  rw [if_neg (by rw [h]; simp)] at e
  have := mstep_valid (n := n) (t := t) hc (by rw [e])
  rw [e] at this
  exact this
/-- Some bytes' way. -/
def mFold (n : Int) : MS → List Nat → Option MS
  | o, [] => some o
  | o, c :: l => if o.a = 4 ∨ o.a = 6 then none else if (mAl n o c).2 = true then mFold n (mAl n o c).1 l else none
/-- The bytes that should lead to a state. -/
def mBytes (t : MS) : List Nat :=
  if t.a = 5 ∨ t.a = 6 then [0] ++ (be t.s).drop (4 - t.y.toNat)
  else if t.a = 1 then [1] ++ grp (grpN t.k) t.v.toNat
  else if t.a = 2 then [1] ++ enc t.m.toNat ++ grp (grpN t.k) t.v.toNat
  else if t.a = 3 ∨ t.a = 4 then [1] ++ enc t.m.toNat ++ enc t.p.toNat ++ (be t.s).drop (4 - t.y.toNat)
  else []
def mBad (n : Int) (t : MS) : Prop := n < 1 ∨ n > 65536 ∨ t.a < 0 ∨ t.a > 6 ∨ t.y < 0 ∨ t.y > 4 ∨ t.m < 0 ∨ t.m > n ∨ t.p < 0 ∨ t.p > n ∨ t.v < 0
instance (n : Int) (t : MS) : Decidable (mBad n t) := by unfold mBad; infer_instance
def mSame (t : MS) : Option MS → Bool
  | some o => decide (o.a = t.a ∧ o.v = t.v ∧ o.k = t.k ∧ o.m = t.m ∧ o.p = t.p ∧ o.s = t.s ∧ o.y = t.y)
  | none => false
def rVM (n : Int) (t : MS) : Bool := if mBad n t then false else mSame t (mFold n mNone (mBytes t))
theorem rvm_loop {hq : List Blk} {L : Nat} {H : List Nat} {v : Value} {q : Nat} {l : List Nat} {n : Int} (hF : Fit hq.length L H) (hr : Rd ⟨hq, L, H, []⟩ v l) (hl : l.length ≤ 60) (hq' : q < hq.length) :
    ∀ (rest : List Nat) (i : Nat), l.drop i = rest → i ≤ l.length → ∀ (t1 t2 t3 t4 t5 : Int) (t6 : Nat) (t7 : Int), mValid n ⟨t1, t2, t3, t4, t5, t6, t7⟩ = true → ∃ ex fr z1 z2 z3 z4 z5 z6 z7 nx,
      Liter env lb17_0 [11, 3, 10, 5, 0] (hq.length + 1) [(11, .int .i64 i), (3, .pointer (some ⟨q, 0, some 0⟩)), (10, .pointer (some ⟨hq.length, 0, some 0⟩)), (5, v), (0, .int .i64 n)] ⟨hq ++ [.cells 0 true [.int .i64 t1, .int .i64 t2, .int .i64 t3, .int .i64 t4, .int .i64 t5, .int .u32 t6, .int .i64 t7]], L, H, []⟩ = some (ex, fr, ⟨hq ++ .cells 0 true [.int .i64 z1, .int .i64 z2, .int .i64 z3, .int .i64 z4, .int .i64 z5, .int .u32 (z6 : Nat), .int .i64 z7] :: nx, L, H, []⟩) ∧
        ((ex = .exit 0 ∧ mFold n ⟨t1, t2, t3, t4, t5, t6, t7⟩ rest = some ⟨z1, z2, z3, z4, z5, z6, z7⟩ ∧ fr.get 10 = some (.pointer (some ⟨hq.length, 0, some 0⟩)) ∧ fr.get 3 = some (.pointer (some ⟨q, 0, some 0⟩))) ∨
        (ex = .ret ∧ mFold n ⟨t1, t2, t3, t4, t5, t6, t7⟩ rest = none ∧ fr.get 4 = some (.bool false)))
  | [], i, hd, hi, t1, t2, t3, t4, t5, t6, t7, hv => by
    have e1 : i = l.length := by have := congrArg List.length hd; simp at this; omega
    subst e1
    have hlen := hr.lenF
    rw [iter_by lb17_0.eq_1]
    simp (disch := (first | omega | (simp only [lnE] <;> omega) | (refine Fit.mono ‹Fit _ _ _› ?_ <;> (simp only [lnE] <;> omega)) | (refine Fit.draw ‹Fit _ _ _› ?_ ?_ <;> (simp only [lnE] <;> omega)) | (refine Fit.hid1 ‹Fit _ _ _› ?_ ?_ <;> (simp only [lnE] <;> omega)) | (refine Fit.hidc1 ‹Fit _ _ _› ?_ ?_ <;> (simp only [lnE] <;> omega)) | (refine Fit.hidc2 ‹Fit _ _ _› ?_ ?_ ?_ <;> (simp only [lnE] <;> omega)) | (refine Fit.draw1 ‹Fit _ _ _› ?_ ?_ ?_ <;> (simp only [lnE] <;> omega)) | (refine Fit.range0 ?_ ?_ <;> (simp only [lnE] <;> omega)) | fail)) only [syA, syB, argFr, D, E, T, C, undefv, eqF, aeq, sheqs, sheq, rdCells, cellsOf, fill, putAt, if_true, if_false, reduceIte, ↓reduceIte, reduceCtorEq, eq_self, Nat.reduceEqDiff, Nat.reduceAdd, Nat.reduceSub, Nat.reduceMul, Nat.reduceLT, Nat.reduceLeDiff, Nat.reducePow, Nat.reduceDiv, Nat.reduceMod, Int.reduceLT, Int.reduceLE, Int.reduceGT, Int.reduceGE, Int.reduceToNat, Int.reducePow, Int.reduceNeg, Int.reduceBEq, Int.reduceBNe, Int.reduceEq, Int.reduceAdd, Int.reduceSub, Int.reduceMul, cellv, sc, flatv, refs, refsF, refsC, hF.not0, hF.not1, hF.up0, hF.up1, hlen]
    exact ⟨_, _, t1, t2, t3, t4, t5, t6, t7, [], rfl, .inl ⟨rfl, rfl, rfl, rfl⟩⟩
  | c :: rest, i, hd, hi, t1, t2, t3, t4, t5, t6, t7, hv => by
    have hil : i < l.length := by have := congrArg List.length hd; simp at this; omega
    have hli : l[i] = c := by have := List.drop_eq_getElem_cons hil; rw [hd] at this; exact (List.cons.inj this).1.symm
    have hlr : l.drop (i + 1) = rest := by have := List.drop_eq_getElem_cons hil; rw [hd] at this; exact (List.cons.inj this).2.symm
    have hc : c < 256 := hli ▸ hr.by_.get hil
    have hrefs := hr.refs
    obtain ⟨a, e, rfl⟩ := hr.len
    obtain ⟨b, o, g, pl, cs, rfl, _, hh, hb, hcell⟩ := hr.at_ hil
    have hbl : b < hq.length := (List.getElem?_eq_some_iff.1 hb).1
    have h1 : (i : Int) < l.length := by omega
    have h2 : 0 ≤ (i : Int) ∧ (i : Int) < l.length := by omega
    rw [hli] at hcell
    simp only [] at hh hb
    have ht0 : mFold n ⟨t1, t2, t3, t4, t5, t6, t7⟩ (c :: rest) = if t1 = 4 ∨ t1 = 6 then none else if (mAl n ⟨t1, t2, t3, t4, t5, t6, t7⟩ c).2 = true then mFold n (mAl n ⟨t1, t2, t3, t4, t5, t6, t7⟩ c).1 rest else none := rfl
    rw [ht0]
    clear ht0
    rw [iter_by lb17_0.eq_1]
    by_cases h4 : t1 = 4
    · simp (disch := (first | omega | (simp only [lnE] <;> omega) | (refine Fit.mono ‹Fit _ _ _› ?_ <;> (simp only [lnE] <;> omega)) | (refine Fit.draw ‹Fit _ _ _› ?_ ?_ <;> (simp only [lnE] <;> omega)) | (refine Fit.hid1 ‹Fit _ _ _› ?_ ?_ <;> (simp only [lnE] <;> omega)) | (refine Fit.hidc1 ‹Fit _ _ _› ?_ ?_ <;> (simp only [lnE] <;> omega)) | (refine Fit.hidc2 ‹Fit _ _ _› ?_ ?_ ?_ <;> (simp only [lnE] <;> omega)) | (refine Fit.draw1 ‹Fit _ _ _› ?_ ?_ ?_ <;> (simp only [lnE] <;> omega)) | (refine Fit.range0 ?_ ?_ <;> (simp only [lnE] <;> omega)) | fail)) only [syA, syB, argFr, D, E, T, C, undefv, eqF, aeq, sheqs, sheq, rdCells, cellsOf, fill, putAt, if_true, if_false, reduceIte, ↓reduceIte, reduceCtorEq, eq_self, Nat.reduceEqDiff, Nat.reduceAdd, Nat.reduceSub, Nat.reduceMul, Nat.reduceLT, Nat.reduceLeDiff, Nat.reducePow, Nat.reduceDiv, Nat.reduceMod, Int.reduceLT, Int.reduceLE, Int.reduceGT, Int.reduceGE, Int.reduceToNat, Int.reducePow, Int.reduceNeg, Int.reduceBEq, Int.reduceBNe, Int.reduceEq, Int.reduceAdd, Int.reduceSub, Int.reduceMul, cellv, sc, flatv, refs, refsF, refsC, hF.not0, hF.not1, hF.up0, hF.up1, h1, h2, h4]
      exact ⟨_, _, 4, t2, t3, t4, t5, t6, t7, [], rfl, rfl, rfl⟩
    by_cases h6 : t1 = 6
    · simp (disch := (first | omega | (simp only [lnE] <;> omega) | (refine Fit.mono ‹Fit _ _ _› ?_ <;> (simp only [lnE] <;> omega)) | (refine Fit.draw ‹Fit _ _ _› ?_ ?_ <;> (simp only [lnE] <;> omega)) | (refine Fit.hid1 ‹Fit _ _ _› ?_ ?_ <;> (simp only [lnE] <;> omega)) | (refine Fit.hidc1 ‹Fit _ _ _› ?_ ?_ <;> (simp only [lnE] <;> omega)) | (refine Fit.hidc2 ‹Fit _ _ _› ?_ ?_ ?_ <;> (simp only [lnE] <;> omega)) | (refine Fit.draw1 ‹Fit _ _ _› ?_ ?_ ?_ <;> (simp only [lnE] <;> omega)) | (refine Fit.range0 ?_ ?_ <;> (simp only [lnE] <;> omega)) | fail)) only [syA, syB, argFr, D, E, T, C, undefv, eqF, aeq, sheqs, sheq, rdCells, cellsOf, fill, putAt, if_true, if_false, reduceIte, ↓reduceIte, reduceCtorEq, eq_self, Nat.reduceEqDiff, Nat.reduceAdd, Nat.reduceSub, Nat.reduceMul, Nat.reduceLT, Nat.reduceLeDiff, Nat.reducePow, Nat.reduceDiv, Nat.reduceMod, Int.reduceLT, Int.reduceLE, Int.reduceGT, Int.reduceGE, Int.reduceToNat, Int.reducePow, Int.reduceNeg, Int.reduceBEq, Int.reduceBNe, Int.reduceEq, Int.reduceAdd, Int.reduceSub, Int.reduceMul, cellv, sc, flatv, refs, refsF, refsC, hF.not0, hF.not1, hF.up0, hF.up1, h1, h2, h4, h6]
      exact ⟨_, _, 6, t2, t3, t4, t5, t6, t7, [], rfl, rfl, rfl⟩
    have hst := fun nw L' H' (hF : Fit (hq ++ nw).length L' H') => along_walk n t2 t3 t4 t5 t7 t6 c t1 hv h4 h6 hc (hp := hq ++ nw) (L := L') (H := H') (d := []) hF
    have hok := mal_ok (c := c) hv
    have hgv := mgo_valid (c := c) hv h4 h6 hc
    rw [if_neg (by omega)]
    rcases hs0 : mAl n ⟨t1, t2, t3, t4, t5, t6, t7⟩ c with ⟨⟨x1, x2, x3, x4, x5, x6, x7⟩, ok⟩
    rw [hs0] at hok
    simp only [hs0, pV] at hst hok ⊢
    rw [← hok.1] at hgv
    cases ok with
    | true =>
      have hval := hgv rfl
      rw [← hok.2 rfl] at hval
      obtain ⟨ex, fr, z1, z2, z3, z4, z5, z6, z7, nx, g1, g2⟩ := rvm_loop hF hr hl hq' rest (i + 1) hlr (by omega) x1 x2 x3 x4 x5 x6 x7 hval
      simp (disch := (first | omega | (simp only [lnE] <;> omega) | (refine Fit.mono ‹Fit _ _ _› ?_ <;> (simp only [lnE] <;> omega)) | (refine Fit.draw ‹Fit _ _ _› ?_ ?_ <;> (simp only [lnE] <;> omega)) | (refine Fit.hid1 ‹Fit _ _ _› ?_ ?_ <;> (simp only [lnE] <;> omega)) | (refine Fit.hidc1 ‹Fit _ _ _› ?_ ?_ <;> (simp only [lnE] <;> omega)) | (refine Fit.hidc2 ‹Fit _ _ _› ?_ ?_ ?_ <;> (simp only [lnE] <;> omega)) | (refine Fit.draw1 ‹Fit _ _ _› ?_ ?_ ?_ <;> (simp only [lnE] <;> omega)) | (refine Fit.range0 ?_ ?_ <;> (simp only [lnE] <;> omega)) | fail)) only [syA, syB, argFr, D, E, T, C, undefv, eqF, aeq, sheqs, sheq, rdCells, cellsOf, fill, putAt, if_true, if_false, reduceIte, ↓reduceIte, reduceCtorEq, eq_self, Nat.reduceEqDiff, Nat.reduceAdd, Nat.reduceSub, Nat.reduceMul, Nat.reduceLT, Nat.reduceLeDiff, Nat.reducePow, Nat.reduceDiv, Nat.reduceMod, Int.reduceLT, Int.reduceLE, Int.reduceGT, Int.reduceGE, Int.reduceToNat, Int.reducePow, Int.reduceNeg, Int.reduceBEq, Int.reduceBNe, Int.reduceEq, Int.reduceAdd, Int.reduceSub, Int.reduceMul, cellv, sc, flatv, refs, refsF, refsC, hF.not0, hF.not1, hF.up0, hF.up1, h1, h2, h4, h6, hb, hh, hcell, hst, rep5]
      rw [gcFr_cut 1 (by simp) (by
        intro p hp r hr'
        simp only [List.mem_cons, List.not_mem_nil, or_false] at hp
        rcases hp with rfl | rfl | rfl | rfl | rfl <;> first
          | exact Nat.lt_succ_of_lt (hrefs _ hr')
          | (simp [AM.refs, refsF, refsC] at hr'; done)
          | (simp [AM.refs, refsF, refsC] at hr'; omega))]
      simp (disch := (first | omega | (simp only [lnE] <;> omega) | (refine Fit.mono ‹Fit _ _ _› ?_ <;> (simp only [lnE] <;> omega)) | (refine Fit.draw ‹Fit _ _ _› ?_ ?_ <;> (simp only [lnE] <;> omega)) | (refine Fit.hid1 ‹Fit _ _ _› ?_ ?_ <;> (simp only [lnE] <;> omega)) | (refine Fit.hidc1 ‹Fit _ _ _› ?_ ?_ <;> (simp only [lnE] <;> omega)) | (refine Fit.hidc2 ‹Fit _ _ _› ?_ ?_ ?_ <;> (simp only [lnE] <;> omega)) | (refine Fit.draw1 ‹Fit _ _ _› ?_ ?_ ?_ <;> (simp only [lnE] <;> omega)) | (refine Fit.range0 ?_ ?_ <;> (simp only [lnE] <;> omega)) | fail)) only [syA, syB, argFr, D, E, T, C, undefv, eqF, aeq, sheqs, sheq, rdCells, cellsOf, fill, putAt, if_true, if_false, reduceIte, ↓reduceIte, reduceCtorEq, eq_self, Nat.reduceEqDiff, Nat.reduceAdd, Nat.reduceSub, Nat.reduceMul, Nat.reduceLT, Nat.reduceLeDiff, Nat.reducePow, Nat.reduceDiv, Nat.reduceMod, Int.reduceLT, Int.reduceLE, Int.reduceGT, Int.reduceGE, Int.reduceToNat, Int.reducePow, Int.reduceNeg, Int.reduceBEq, Int.reduceBNe, Int.reduceEq, Int.reduceAdd, Int.reduceSub, Int.reduceMul, cellv, sc, flatv, refs, refsF, refsC, hF.not0, hF.not1, hF.up0, hF.up1]
      exact ⟨ex, fr, z1, z2, z3, z4, z5, z6, z7, nx, g1, g2⟩
    | false =>
      simp (disch := (first | omega | (simp only [lnE] <;> omega) | (refine Fit.mono ‹Fit _ _ _› ?_ <;> (simp only [lnE] <;> omega)) | (refine Fit.draw ‹Fit _ _ _› ?_ ?_ <;> (simp only [lnE] <;> omega)) | (refine Fit.hid1 ‹Fit _ _ _› ?_ ?_ <;> (simp only [lnE] <;> omega)) | (refine Fit.hidc1 ‹Fit _ _ _› ?_ ?_ <;> (simp only [lnE] <;> omega)) | (refine Fit.hidc2 ‹Fit _ _ _› ?_ ?_ ?_ <;> (simp only [lnE] <;> omega)) | (refine Fit.draw1 ‹Fit _ _ _› ?_ ?_ ?_ <;> (simp only [lnE] <;> omega)) | (refine Fit.range0 ?_ ?_ <;> (simp only [lnE] <;> omega)) | fail)) only [syA, syB, argFr, D, E, T, C, undefv, eqF, aeq, sheqs, sheq, rdCells, cellsOf, fill, putAt, if_true, if_false, reduceIte, ↓reduceIte, reduceCtorEq, eq_self, Nat.reduceEqDiff, Nat.reduceAdd, Nat.reduceSub, Nat.reduceMul, Nat.reduceLT, Nat.reduceLeDiff, Nat.reducePow, Nat.reduceDiv, Nat.reduceMod, Int.reduceLT, Int.reduceLE, Int.reduceGT, Int.reduceGE, Int.reduceToNat, Int.reducePow, Int.reduceNeg, Int.reduceBEq, Int.reduceBNe, Int.reduceEq, Int.reduceAdd, Int.reduceSub, Int.reduceMul, cellv, sc, flatv, refs, refsF, refsC, hF.not0, hF.not1, hF.up0, hF.up1, h1, h2, h4, h6, hb, hh, hcell, hst, rep5]
      exact ⟨_, _, t1, t2, t3, t4, t5, t6, t7, _, rfl, rfl, rfl⟩
end VarA
end Go.Proofs.Ytpjjkmfidghkjaa
