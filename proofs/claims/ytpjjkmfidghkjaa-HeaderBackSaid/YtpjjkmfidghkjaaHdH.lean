/-
  HEADERS: walk of TakeMark. Conditions: none.
-/
import Derived.Test.YtpjjkmfidghkjaaHdG
set_option linter.all false
namespace Go.Proofs.Ytpjjkmfidghkjaa
namespace VarA
open Go Go.RowKit AM ArEnv

/-- Reading a marker and what follows it: the state, the rest, the error. -/
def mTake (n : Int) (t : MS) : List Nat → MS × Option (List Nat) × Int
  | [] => (mNone, none, 50)
  | c :: l => if (mStep n t c).2.2 = 0 then (if (mStep n t c).2.1 = true then ((mStep n t c).1, some l, 0) else mTake n (mStep n t c).1 l) else (mNone, none, (mStep n t c).2.2)
def mC (t : MS) : List Value := [.int .i64 t.a, .int .i64 t.v, .int .i64 t.k, .int .i64 t.m, .int .i64 t.p, .int .u32 t.s, .int .i64 t.y]
theorem mC_eq (t : MS) : mC t = [.int .i64 t.a, .int .i64 t.v, .int .i64 t.k, .int .i64 t.m, .int .i64 t.p, .int .u32 t.s, .int .i64 t.y] := rfl
/-- How the loop ends. -/
def MOut (hp : List Blk) (L : Nat) (H : List Nat) (R : Option (Ex × Fr × St)) (t : MS × Option (List Nat) × Int) : Prop :=
  (∃ fr z, R = some (.exit 0, fr, ⟨hp ++ [.cells 0 true (mC z)], L, H, []⟩) ∧ t = (mNone, none, 50) ∧ fr.get 4 = some (.pointer (some ⟨hp.length, 0, some 0⟩))) ∨
  (∃ fr nw x, R = some (.ret, fr, ⟨hp ++ .cells 0 true (mC mNone) :: nw, L, H, []⟩) ∧ t = (mNone, none, x) ∧ fr.get 4 = some (.pointer (some ⟨hp.length, 0, some 0⟩)) ∧ fr.get 5 = some (.slice none 0 0) ∧ fr.get 6 = some (.int .i64 x)) ∨
  (∃ fr nw x r k, R = some (.ret, fr, ⟨hp ++ .cells 0 true (mC x) :: nw, L, H, []⟩) ∧ t = (x, some r, 0) ∧ fr.get 4 = some (.pointer (some ⟨hp.length, 0, some 0⟩)) ∧ fr.get 5 = some (sl (hp.length + (k + 1)) r.length (some r)) ∧ fr.get 6 = some (.int .i64 0) ∧ nw[k]? = some (.cells r.length true (u8s r)))
theorem mgo_s {n : Int} {t : MS} {c : Nat} (hv : mValid n t = true) (h4 : ¬ t.a = 4) (h6 : ¬ t.a = 6) (hc : c < 256) : (mGo n t c).1.s < 4294967296 := by
  obtain ⟨a, v, k, m, p, s, y⟩ := t
  simp only [mValid, Bool.and_eq_true] at hv
  have hr := hv.2
  simp only [mRight] at hr
  unfold mGo
  by_cases h0 : a = 0
  · subst h0; simp at hr ⊢; omega
  by_cases h1 : a = 1
  · subst h1; simp at hr ⊢; split <;> simp <;> omega
  by_cases h2 : a = 2
  · subst h2; simp at hr ⊢; split <;> simp <;> omega
  rw [if_neg h0, if_neg h1, if_neg h2]
  by_cases h3 : a = 3
  · subst h3
    simp at hr
    have := (sums_lt hr.1.2).1
    simp only []; omega
  by_cases h5 : a = 5
  · subst h5
    simp at hr
    have := (sums_lt hr.1).1
    simp only []; omega
  · rw [if_neg h0, if_neg h1, if_neg h2, if_neg h3, if_neg h4, if_neg h5, if_neg h6] at hr
    cases hr
theorem mstep_s {n : Int} {t : MS} {c : Nat} (hc : c < 256) : (mStep n t c).1.s < 4294967296 := by
  unfold mStep
  split
  · simp [mNone]
  · rename_i h
    split
    · simp [mNone]
    · exact mgo_s (by cases hv : mValid n t <;> simp [hv] at h ⊢) (fun e => h (.inr (.inl e))) (fun e => h (.inr (.inr e))) hc
theorem mtake_loop {hp : List Blk} {L : Nat} {H : List Nat} {a : Option Addr} {e : Nat} {l : List Nat} {n : Int} (hF : Fit hp.length L H) (hr : Rd ⟨hp, L, H, []⟩ (.slice a l.length e) l) (hn : l.length ≤ 1000) :
    ∀ (rest : List Nat) (i : Nat), l.drop i = rest → i ≤ l.length → ∀ (t1 t2 t3 t4 t5 : Int) (t6 : Nat) (t7 : Int), t6 < 4294967296 → MOut hp L H (Liter env lb24_0 [1, 18, 17, 16, 0, 4] (hp.length + 1) [(1, .slice a l.length e), (18, .int .i64 i), (17, .int .i64 l.length), (16, .slice a l.length e), (0, .int .i64 n), (4, .pointer (some ⟨hp.length, 0, some 0⟩))] ⟨hp ++ [.cells 0 true [.int .i64 t1, .int .i64 t2, .int .i64 t3, .int .i64 t4, .int .i64 t5, .int .u32 t6, .int .i64 t7]], L, H, []⟩) (mTake n ⟨t1, t2, t3, t4, t5, t6, t7⟩ rest)
  | [], i, hd, hi, t1, t2, t3, t4, t5, t6, t7, h6 => by
    have e1 : i = l.length := by have := congrArg List.length hd; simp at this; omega
    subst e1
    rw [iter_by lb24_0.eq_1]
    simp (disch := (first | omega | (simp only [lnE] <;> omega) | (refine Fit.mono ‹Fit _ _ _› ?_ <;> (simp only [lnE] <;> omega)) | (refine Fit.draw ‹Fit _ _ _› ?_ ?_ <;> (simp only [lnE] <;> omega)) | (refine Fit.hid1 ‹Fit _ _ _› ?_ ?_ <;> (simp only [lnE] <;> omega)) | (refine Fit.hidc1 ‹Fit _ _ _› ?_ ?_ <;> (simp only [lnE] <;> omega)) | (refine Fit.hidc2 ‹Fit _ _ _› ?_ ?_ ?_ <;> (simp only [lnE] <;> omega)) | (refine Fit.draw1 ‹Fit _ _ _› ?_ ?_ ?_ <;> (simp only [lnE] <;> omega)) | (refine Fit.range0 ?_ ?_ <;> (simp only [lnE] <;> omega)) | fail)) only [syA, syB, argFr, D, E, T, C, undefv, eqF, aeq, sheqs, sheq, rdCells, cellsOf, fill, putAt, if_true, if_false, reduceIte, ↓reduceIte, reduceCtorEq, eq_self, Nat.reduceEqDiff, Nat.reduceAdd, Nat.reduceSub, Nat.reduceMul, Nat.reduceLT, Nat.reduceLeDiff, Nat.reducePow, Nat.reduceDiv, Nat.reduceMod, Int.reduceLT, Int.reduceLE, Int.reduceGT, Int.reduceGE, Int.reduceToNat, Int.reducePow, Int.reduceNeg, Int.reduceBEq, Int.reduceBNe, Int.reduceEq, Int.reduceAdd, Int.reduceSub, Int.reduceMul, cellv, sc, flatv, refs, refsF, refsC, hF.not0, hF.not1, hF.up0, hF.up1]
    exact .inl ⟨_, ⟨t1, t2, t3, t4, t5, t6, t7⟩, rfl, rfl, rfl⟩
  | c :: rest, i, hd, hi, t1, t2, t3, t4, t5, t6, t7, h6 => by
    have hil : i < l.length := by have := congrArg List.length hd; simp at this; omega
    have hli : l[i] = c := by have := List.drop_eq_getElem_cons hil; rw [hd] at this; exact (List.cons.inj this).1.symm
    have hlr : l.drop (i + 1) = rest := by have := List.drop_eq_getElem_cons hil; rw [hd] at this; exact (List.cons.inj this).2.symm
    have hc : c < 256 := hli ▸ hr.by_.get hil
    obtain ⟨b, o, g, pl, cs, rfl, _, hh, hb, hcell⟩ := hr.at_ hil
    have hbl : b < hp.length := (List.getElem?_eq_some_iff.1 hb).1
    have h1 : (i : Int) < l.length := by omega
    have h2 : 0 ≤ (i : Int) ∧ (i : Int) < l.length := by omega
    rw [hli] at hcell
    simp only [] at hb hh
    have hst := fun nw L' H' (hF : Fit (hp ++ nw).length L' H') => stepmark_walk n t2 t3 t4 t5 t7 t6 c t1 h6 hc (hp := hp ++ nw) (L := L') (H := H') (d := []) hF
    have hs6 := mstep_s (n := n) (t := ⟨t1, t2, t3, t4, t5, t6, t7⟩) hc
    have ht0 : mTake n ⟨t1, t2, t3, t4, t5, t6, t7⟩ (c :: rest) = if (mStep n ⟨t1, t2, t3, t4, t5, t6, t7⟩ c).2.2 = 0 then (if (mStep n ⟨t1, t2, t3, t4, t5, t6, t7⟩ c).2.1 = true then ((mStep n ⟨t1, t2, t3, t4, t5, t6, t7⟩ c).1, some rest, 0) else mTake n (mStep n ⟨t1, t2, t3, t4, t5, t6, t7⟩ c).1 rest) else (mNone, none, (mStep n ⟨t1, t2, t3, t4, t5, t6, t7⟩ c).2.2) := rfl
    rw [ht0]
    clear ht0
    rcases hs : mStep n ⟨t1, t2, t3, t4, t5, t6, t7⟩ c with ⟨⟨x1, x2, x3, x4, x5, x6, x7⟩, dn, er⟩
    simp only [hs, mV] at hst hs6 ⊢
    clear hs
    rw [iter_by lb24_0.eq_1]
    by_cases he : er = 0
    · subst he
      cases dn with
      | true =>
        have he1 := hr.esz
        have h3 : 0 ≤ (i : Int) + 1 ∧ (i : Int) + 1 ≤ l.length := by omega
        have hrr : Rd ⟨hp, L, H, []⟩ (.slice (some ⟨b, o + (i + 1), some g⟩) (l.length - (i + 1)) e) rest := by
          obtain ⟨w, hw, hw2⟩ := hr.from_ (i := i + 1) (by omega)
          rw [hlr] at hw2
          simp only [sliceF_lo, he1, if_true, Int.toNat_natCast, Nat.mul_one] at hw
          rw [if_pos (by omega)] at hw
          cases hw; exact hw2
        have hcl := clone_walk (hp := hp ++ [.cells 0 true [.int .i64 x1, .int .i64 x2, .int .i64 x3, .int .i64 x4, .int .i64 x5, .int .u32 x6, .int .i64 x7], .cells 0 true [.int .i64 x1, .int .i64 x2, .int .i64 x3, .int .i64 x4, .int .i64 x5, .int .u32 x6, .int .i64 x7]]) (L := hp.length + 2) (H := H) (d := []) (hF.draw (by simp) (by simp)) hrr.app (by rw [← hlr]; simp; omega)
        simp (disch := (first | omega | (simp only [lnE] <;> omega) | (refine Fit.mono ‹Fit _ _ _› ?_ <;> (simp only [lnE] <;> omega)) | (refine Fit.draw ‹Fit _ _ _› ?_ ?_ <;> (simp only [lnE] <;> omega)) | (refine Fit.hid1 ‹Fit _ _ _› ?_ ?_ <;> (simp only [lnE] <;> omega)) | (refine Fit.hidc1 ‹Fit _ _ _› ?_ ?_ <;> (simp only [lnE] <;> omega)) | (refine Fit.hidc2 ‹Fit _ _ _› ?_ ?_ ?_ <;> (simp only [lnE] <;> omega)) | (refine Fit.draw1 ‹Fit _ _ _› ?_ ?_ ?_ <;> (simp only [lnE] <;> omega)) | (refine Fit.range0 ?_ ?_ <;> (simp only [lnE] <;> omega)) | fail)) only [syA, syB, argFr, D, E, T, C, undefv, eqF, aeq, sheqs, sheq, rdCells, cellsOf, fill, putAt, if_true, if_false, reduceIte, ↓reduceIte, reduceCtorEq, eq_self, Nat.reduceEqDiff, Nat.reduceAdd, Nat.reduceSub, Nat.reduceMul, Nat.reduceLT, Nat.reduceLeDiff, Nat.reducePow, Nat.reduceDiv, Nat.reduceMod, Int.reduceLT, Int.reduceLE, Int.reduceGT, Int.reduceGE, Int.reduceToNat, Int.reducePow, Int.reduceNeg, Int.reduceBEq, Int.reduceBNe, Int.reduceEq, Int.reduceAdd, Int.reduceSub, Int.reduceMul, cellv, sc, flatv, refs, refsF, refsC, hF.not0, hF.not1, hF.up0, hF.up1, h1, h2, h3, he1, hb, hh, hcell, hst, hcl, rep5]
        refine .inr (.inr ⟨_, _, ⟨x1, x2, x3, x4, x5, x6, x7⟩, rest, 1, rfl, rfl, rfl, ?_, rfl, rfl⟩)
        simp only [get_cons, sl_some, List.length_append, List.length_cons, List.length_nil, Nat.zero_add, Nat.reduceAdd, if_true]; rfl
      | false =>
        simp (disch := (first | omega | (simp only [lnE] <;> omega) | (refine Fit.mono ‹Fit _ _ _› ?_ <;> (simp only [lnE] <;> omega)) | (refine Fit.draw ‹Fit _ _ _› ?_ ?_ <;> (simp only [lnE] <;> omega)) | (refine Fit.hid1 ‹Fit _ _ _› ?_ ?_ <;> (simp only [lnE] <;> omega)) | (refine Fit.hidc1 ‹Fit _ _ _› ?_ ?_ <;> (simp only [lnE] <;> omega)) | (refine Fit.hidc2 ‹Fit _ _ _› ?_ ?_ ?_ <;> (simp only [lnE] <;> omega)) | (refine Fit.draw1 ‹Fit _ _ _› ?_ ?_ ?_ <;> (simp only [lnE] <;> omega)) | (refine Fit.range0 ?_ ?_ <;> (simp only [lnE] <;> omega)) | fail)) only [syA, syB, argFr, D, E, T, C, undefv, eqF, aeq, sheqs, sheq, rdCells, cellsOf, fill, putAt, if_true, if_false, reduceIte, ↓reduceIte, reduceCtorEq, eq_self, Nat.reduceEqDiff, Nat.reduceAdd, Nat.reduceSub, Nat.reduceMul, Nat.reduceLT, Nat.reduceLeDiff, Nat.reducePow, Nat.reduceDiv, Nat.reduceMod, Int.reduceLT, Int.reduceLE, Int.reduceGT, Int.reduceGE, Int.reduceToNat, Int.reducePow, Int.reduceNeg, Int.reduceBEq, Int.reduceBNe, Int.reduceEq, Int.reduceAdd, Int.reduceSub, Int.reduceMul, cellv, sc, flatv, refs, refsF, refsC, hF.not0, hF.not1, hF.up0, hF.up1, h1, h2, hb, hh, hcell, hst, rep5]
        rw [gcFr_cut 1 (by simp) (by simp [refs, refsF, refsC]; omega)]
        simp (disch := (first | omega | (simp only [lnE] <;> omega) | (refine Fit.mono ‹Fit _ _ _› ?_ <;> (simp only [lnE] <;> omega)) | (refine Fit.draw ‹Fit _ _ _› ?_ ?_ <;> (simp only [lnE] <;> omega)) | (refine Fit.hid1 ‹Fit _ _ _› ?_ ?_ <;> (simp only [lnE] <;> omega)) | (refine Fit.hidc1 ‹Fit _ _ _› ?_ ?_ <;> (simp only [lnE] <;> omega)) | (refine Fit.hidc2 ‹Fit _ _ _› ?_ ?_ ?_ <;> (simp only [lnE] <;> omega)) | (refine Fit.draw1 ‹Fit _ _ _› ?_ ?_ ?_ <;> (simp only [lnE] <;> omega)) | (refine Fit.range0 ?_ ?_ <;> (simp only [lnE] <;> omega)) | fail)) only [syA, syB, argFr, D, E, T, C, undefv, eqF, aeq, sheqs, sheq, rdCells, cellsOf, fill, putAt, if_true, if_false, reduceIte, ↓reduceIte, reduceCtorEq, eq_self, Nat.reduceEqDiff, Nat.reduceAdd, Nat.reduceSub, Nat.reduceMul, Nat.reduceLT, Nat.reduceLeDiff, Nat.reducePow, Nat.reduceDiv, Nat.reduceMod, Int.reduceLT, Int.reduceLE, Int.reduceGT, Int.reduceGE, Int.reduceToNat, Int.reducePow, Int.reduceNeg, Int.reduceBEq, Int.reduceBNe, Int.reduceEq, Int.reduceAdd, Int.reduceSub, Int.reduceMul, cellv, sc, flatv, refs, refsF, refsC, hF.not0, hF.not1, hF.up0, hF.up1]
        exact mtake_loop hF hr hn rest (i + 1) hlr (by omega) x1 x2 x3 x4 x5 x6 x7 hs6
    · simp (disch := (first | omega | (simp only [lnE] <;> omega) | (refine Fit.mono ‹Fit _ _ _› ?_ <;> (simp only [lnE] <;> omega)) | (refine Fit.draw ‹Fit _ _ _› ?_ ?_ <;> (simp only [lnE] <;> omega)) | (refine Fit.hid1 ‹Fit _ _ _› ?_ ?_ <;> (simp only [lnE] <;> omega)) | (refine Fit.hidc1 ‹Fit _ _ _› ?_ ?_ <;> (simp only [lnE] <;> omega)) | (refine Fit.hidc2 ‹Fit _ _ _› ?_ ?_ ?_ <;> (simp only [lnE] <;> omega)) | (refine Fit.draw1 ‹Fit _ _ _› ?_ ?_ ?_ <;> (simp only [lnE] <;> omega)) | (refine Fit.range0 ?_ ?_ <;> (simp only [lnE] <;> omega)) | fail)) only [syA, syB, argFr, D, E, T, C, undefv, eqF, aeq, sheqs, sheq, rdCells, cellsOf, fill, putAt, if_true, if_false, reduceIte, ↓reduceIte, reduceCtorEq, eq_self, Nat.reduceEqDiff, Nat.reduceAdd, Nat.reduceSub, Nat.reduceMul, Nat.reduceLT, Nat.reduceLeDiff, Nat.reducePow, Nat.reduceDiv, Nat.reduceMod, Int.reduceLT, Int.reduceLE, Int.reduceGT, Int.reduceGE, Int.reduceToNat, Int.reducePow, Int.reduceNeg, Int.reduceBEq, Int.reduceBNe, Int.reduceEq, Int.reduceAdd, Int.reduceSub, Int.reduceMul, cellv, sc, flatv, refs, refsF, refsC, hF.not0, hF.not1, hF.up0, hF.up1, h1, h2, hb, hh, hcell, hst, he, rep5]
      exact .inr (.inl ⟨_, _, er, rfl, rfl, rfl, rfl, rfl⟩)
def mtV (k : Nat) (t : MS × Option (List Nat) × Int) : Value := .tuple #[.agg #[.int .i64 t.1.a, .int .i64 t.1.v, .int .i64 t.1.k, .int .i64 t.1.m, .int .i64 t.1.p, .int .u32 t.1.s, .int .i64 t.1.y], sl k (t.2.1.getD []).length t.2.1, .int .i64 t.2.2]
/-- TakeMark as a whole. -/
def mTakeN (n : Int) (l : List Nat) : MS × Option (List Nat) × Int := if inR n 1 65536 = true then mTake n mNone l else (mNone, none, 2)
theorem mtake_walk {hp : List Blk} {L : Nat} {H d : List Nat} {v : Value} {l : List Nat} (n : Int) (hF : Fit hp.length L H) (hr : Rd ⟨hp, L, H, []⟩ v l) (hn : l.length ≤ 1000) :
    Lrun env (.func 24) [.int .i64 n, v] ⟨hp, L, H, d⟩ = some (mtV hp.length (mTakeN n l), ⟨hp ++ slB ((mTakeN n l).2.1.getD []).length (mTakeN n l).2.1, L, H, d⟩) := by
  obtain ⟨a, e, rfl⟩ := hr.len
  rw [Lrun_sym 24 _ _ fn24]
  unfold mTakeN
  cases hi : inR n 1 65536 with
  | false => simp (disch := (first | omega | (simp only [lnE] <;> omega) | (refine Fit.mono ‹Fit _ _ _› ?_ <;> (simp only [lnE] <;> omega)) | (refine Fit.draw ‹Fit _ _ _› ?_ ?_ <;> (simp only [lnE] <;> omega)) | (refine Fit.hid1 ‹Fit _ _ _› ?_ ?_ <;> (simp only [lnE] <;> omega)) | (refine Fit.hidc1 ‹Fit _ _ _› ?_ ?_ <;> (simp only [lnE] <;> omega)) | (refine Fit.hidc2 ‹Fit _ _ _› ?_ ?_ ?_ <;> (simp only [lnE] <;> omega)) | (refine Fit.draw1 ‹Fit _ _ _› ?_ ?_ ?_ <;> (simp only [lnE] <;> omega)) | (refine Fit.range0 ?_ ?_ <;> (simp only [lnE] <;> omega)) | fail)) only [syA, syB, argFr, D, E, T, C, undefv, eqF, aeq, sheqs, sheq, rdCells, cellsOf, fill, putAt, if_true, if_false, reduceIte, ↓reduceIte, reduceCtorEq, eq_self, Nat.reduceEqDiff, Nat.reduceAdd, Nat.reduceSub, Nat.reduceMul, Nat.reduceLT, Nat.reduceLeDiff, Nat.reducePow, Nat.reduceDiv, Nat.reduceMod, Int.reduceLT, Int.reduceLE, Int.reduceGT, Int.reduceGE, Int.reduceToNat, Int.reducePow, Int.reduceNeg, Int.reduceBEq, Int.reduceBNe, Int.reduceEq, Int.reduceAdd, Int.reduceSub, Int.reduceMul, cellv, sc, flatv, refs, refsF, refsC, hF.not0, hF.not1, hF.up0, hF.up1, ac24, within_walk, hi, rep5, mtV, mNone, sl_none, slB_none]
  | true =>
    rw [if_pos rfl]
    rcases mtake_loop (n := n) hF hr hn l 0 rfl (by omega) 0 0 0 0 0 0 0 (by omega) with ⟨fr, ⟨z1, z2, z3, z4, z5, z6, z7⟩, h1, h2, h3⟩ | ⟨fr, nw, x, h1, h2, h3, h4, h5⟩ | ⟨fr, nw, ⟨z1, z2, z3, z4, z5, z6, z7⟩, r, k, h1, h2, h3, h4, h5, h6⟩
    · simp only [Int.natCast_zero, mC_eq] at h1
      have h2' : mTake n mNone l = (mNone, none, 50) := h2
      rw [h2']
      simp (disch := (first | omega | (simp only [lnE] <;> omega) | (refine Fit.mono ‹Fit _ _ _› ?_ <;> (simp only [lnE] <;> omega)) | (refine Fit.draw ‹Fit _ _ _› ?_ ?_ <;> (simp only [lnE] <;> omega)) | (refine Fit.hid1 ‹Fit _ _ _› ?_ ?_ <;> (simp only [lnE] <;> omega)) | (refine Fit.hidc1 ‹Fit _ _ _› ?_ ?_ <;> (simp only [lnE] <;> omega)) | (refine Fit.hidc2 ‹Fit _ _ _› ?_ ?_ ?_ <;> (simp only [lnE] <;> omega)) | (refine Fit.draw1 ‹Fit _ _ _› ?_ ?_ ?_ <;> (simp only [lnE] <;> omega)) | (refine Fit.range0 ?_ ?_ <;> (simp only [lnE] <;> omega)) | fail)) only [syA, syB, argFr, D, E, T, C, undefv, eqF, aeq, sheqs, sheq, rdCells, cellsOf, fill, putAt, if_true, if_false, reduceIte, ↓reduceIte, reduceCtorEq, eq_self, Nat.reduceEqDiff, Nat.reduceAdd, Nat.reduceSub, Nat.reduceMul, Nat.reduceLT, Nat.reduceLeDiff, Nat.reducePow, Nat.reduceDiv, Nat.reduceMod, Int.reduceLT, Int.reduceLE, Int.reduceGT, Int.reduceGE, Int.reduceToNat, Int.reducePow, Int.reduceNeg, Int.reduceBEq, Int.reduceBNe, Int.reduceEq, Int.reduceAdd, Int.reduceSub, Int.reduceMul, cellv, sc, flatv, refs, refsF, refsC, hF.not0, hF.not1, hF.up0, hF.up1, ac24, within_walk, hi, rep5, h1, h3, sl_none, slB_none, mtV, mNone, Int.natCast_zero]
    · simp only [Int.natCast_zero, mC_eq] at h1
      have h2' : mTake n mNone l = (mNone, none, x) := h2
      rw [h2']
      simp (disch := (first | omega | (simp only [lnE] <;> omega) | (refine Fit.mono ‹Fit _ _ _› ?_ <;> (simp only [lnE] <;> omega)) | (refine Fit.draw ‹Fit _ _ _› ?_ ?_ <;> (simp only [lnE] <;> omega)) | (refine Fit.hid1 ‹Fit _ _ _› ?_ ?_ <;> (simp only [lnE] <;> omega)) | (refine Fit.hidc1 ‹Fit _ _ _› ?_ ?_ <;> (simp only [lnE] <;> omega)) | (refine Fit.hidc2 ‹Fit _ _ _› ?_ ?_ ?_ <;> (simp only [lnE] <;> omega)) | (refine Fit.draw1 ‹Fit _ _ _› ?_ ?_ ?_ <;> (simp only [lnE] <;> omega)) | (refine Fit.range0 ?_ ?_ <;> (simp only [lnE] <;> omega)) | fail)) only [syA, syB, argFr, D, E, T, C, undefv, eqF, aeq, sheqs, sheq, rdCells, cellsOf, fill, putAt, if_true, if_false, reduceIte, ↓reduceIte, reduceCtorEq, eq_self, Nat.reduceEqDiff, Nat.reduceAdd, Nat.reduceSub, Nat.reduceMul, Nat.reduceLT, Nat.reduceLeDiff, Nat.reducePow, Nat.reduceDiv, Nat.reduceMod, Int.reduceLT, Int.reduceLE, Int.reduceGT, Int.reduceGE, Int.reduceToNat, Int.reducePow, Int.reduceNeg, Int.reduceBEq, Int.reduceBNe, Int.reduceEq, Int.reduceAdd, Int.reduceSub, Int.reduceMul, cellv, sc, flatv, refs, refsF, refsC, hF.not0, hF.not1, hF.up0, hF.up1, ac24, within_walk, hi, rep5, h1, h3, h4, h5, sl_none, slB_none, mtV, mNone, Int.natCast_zero]
    · simp only [Int.natCast_zero, mC_eq] at h1
      have h2' : mTake n mNone l = (⟨z1, z2, z3, z4, z5, z6, z7⟩, some r, 0) := h2
      rw [h2']
      simp (disch := (first | omega | (simp only [lnE] <;> omega) | (refine Fit.mono ‹Fit _ _ _› ?_ <;> (simp only [lnE] <;> omega)) | (refine Fit.draw ‹Fit _ _ _› ?_ ?_ <;> (simp only [lnE] <;> omega)) | (refine Fit.hid1 ‹Fit _ _ _› ?_ ?_ <;> (simp only [lnE] <;> omega)) | (refine Fit.hidc1 ‹Fit _ _ _› ?_ ?_ <;> (simp only [lnE] <;> omega)) | (refine Fit.hidc2 ‹Fit _ _ _› ?_ ?_ ?_ <;> (simp only [lnE] <;> omega)) | (refine Fit.draw1 ‹Fit _ _ _› ?_ ?_ ?_ <;> (simp only [lnE] <;> omega)) | (refine Fit.range0 ?_ ?_ <;> (simp only [lnE] <;> omega)) | fail)) only [syA, syB, argFr, D, E, T, C, undefv, eqF, aeq, sheqs, sheq, rdCells, cellsOf, fill, putAt, if_true, if_false, reduceIte, ↓reduceIte, reduceCtorEq, eq_self, Nat.reduceEqDiff, Nat.reduceAdd, Nat.reduceSub, Nat.reduceMul, Nat.reduceLT, Nat.reduceLeDiff, Nat.reducePow, Nat.reduceDiv, Nat.reduceMod, Int.reduceLT, Int.reduceLE, Int.reduceGT, Int.reduceGE, Int.reduceToNat, Int.reducePow, Int.reduceNeg, Int.reduceBEq, Int.reduceBNe, Int.reduceEq, Int.reduceAdd, Int.reduceSub, Int.reduceMul, cellv, sc, flatv, refs, refsF, refsC, hF.not0, hF.not1, hF.up0, hF.up1, ac24, within_walk, hi, rep5, h1, h3, h4, h5, sl_some, slB_some, mtV]
      rw [gc_keep (k + 1) (by simpa using h6) (by simp [refs, refsF, refsC]) (by simp [refs, refsF, refsC])]
      simp (disch := (first | omega | (simp only [lnE] <;> omega) | (refine Fit.mono ‹Fit _ _ _› ?_ <;> (simp only [lnE] <;> omega)) | (refine Fit.draw ‹Fit _ _ _› ?_ ?_ <;> (simp only [lnE] <;> omega)) | (refine Fit.hid1 ‹Fit _ _ _› ?_ ?_ <;> (simp only [lnE] <;> omega)) | (refine Fit.hidc1 ‹Fit _ _ _› ?_ ?_ <;> (simp only [lnE] <;> omega)) | (refine Fit.hidc2 ‹Fit _ _ _› ?_ ?_ ?_ <;> (simp only [lnE] <;> omega)) | (refine Fit.draw1 ‹Fit _ _ _› ?_ ?_ ?_ <;> (simp only [lnE] <;> omega)) | (refine Fit.range0 ?_ ?_ <;> (simp only [lnE] <;> omega)) | fail)) only [syA, syB, argFr, D, E, T, C, undefv, eqF, aeq, sheqs, sheq, rdCells, cellsOf, fill, putAt, if_true, if_false, reduceIte, ↓reduceIte, reduceCtorEq, eq_self, Nat.reduceEqDiff, Nat.reduceAdd, Nat.reduceSub, Nat.reduceMul, Nat.reduceLT, Nat.reduceLeDiff, Nat.reducePow, Nat.reduceDiv, Nat.reduceMod, Int.reduceLT, Int.reduceLE, Int.reduceGT, Int.reduceGE, Int.reduceToNat, Int.reducePow, Int.reduceNeg, Int.reduceBEq, Int.reduceBNe, Int.reduceEq, Int.reduceAdd, Int.reduceSub, Int.reduceMul, cellv, sc, flatv, refs, refsF, refsC, hF.not0, hF.not1, hF.up0, hF.up1, ren, renF, renC, one_new, List.map_cons, List.map_nil]
end VarA
end Go.Proofs.Ytpjjkmfidghkjaa
