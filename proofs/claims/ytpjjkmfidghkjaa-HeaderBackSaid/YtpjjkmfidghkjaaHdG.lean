/-
  HEADERS: walks of Take and TakeMark. Conditions: none.
-/
import Derived.Test.YtpjjkmfidghkjaaHdF
set_option linter.all false
namespace Go.Proofs.Ytpjjkmfidghkjaa
namespace VarA
open Go Go.RowKit AM ArEnv

/-- Reading a stream header: the number, the rest, the error. -/
def hTake (s : HS) : List Nat → Int × Option (List Nat) × Int
  | [] => (0, none, 50)
  | c :: l => if (hStep s c).2.2 = 0 then (if (hStep s c).2.1 = true then ((hStep s c).1.n, some l, 0) else hTake (hStep s c).1 l) else (0, none, (hStep s c).2.2)
/-- How the loop ends. -/
def HOut (hp : List Blk) (L : Nat) (H : List Nat) (R : Option (Ex × Fr × St)) (t : Int × Option (List Nat) × Int) : Prop :=
  (∃ fr y, R = some (.exit 0, fr, ⟨hp ++ [.cells 0 true [.int .i64 0], y], L, H, []⟩) ∧ t = (0, none, 50) ∧ fr.get 2 = some (.pointer (some ⟨hp.length, 0, some 0⟩))) ∨
  (∃ fr nw x, R = some (.ret, fr, ⟨hp ++ .cells 0 true [.int .i64 0] :: nw, L, H, []⟩) ∧ t = (0, none, x) ∧ fr.get 2 = some (.pointer (some ⟨hp.length, 0, some 0⟩)) ∧ fr.get 3 = some (.slice none 0 0) ∧ fr.get 4 = some (.int .i64 x)) ∨
  (∃ fr nw x r k, R = some (.ret, fr, ⟨hp ++ .cells 0 true [.int .i64 x] :: nw, L, H, []⟩) ∧ t = (x, some r, 0) ∧ fr.get 2 = some (.pointer (some ⟨hp.length, 0, some 0⟩)) ∧ fr.get 3 = some (sl (hp.length + (k + 1)) r.length (some r)) ∧ fr.get 4 = some (.int .i64 0) ∧ nw[k]? = some (.cells r.length true (u8s r)))
theorem htake_loop {hp : List Blk} {L : Nat} {H : List Nat} {a : Option Addr} {e : Nat} {l : List Nat} (hF : Fit hp.length L H) (hr : Rd ⟨hp, L, H, []⟩ (.slice a l.length e) l) (hn : l.length ≤ 1000) :
    ∀ (rest : List Nat) (i : Nat), l.drop i = rest → i ≤ l.length → ∀ s1 s2 s3 s4 : Int, HOut hp L H (Liter env lb22_0 [0, 13, 12, 11, 5, 2] (hp.length + 2) [(0, .slice a l.length e), (13, .int .i64 i), (12, .int .i64 l.length), (11, .slice a l.length e), (5, .pointer (some ⟨hp.length + 1, 0, some 0⟩)), (2, .pointer (some ⟨hp.length, 0, some 0⟩))] ⟨hp ++ [.cells 0 true [.int .i64 0], .cells 0 true [.int .i64 s1, .int .i64 s2, .int .i64 s3, .int .i64 s4]], L, H, []⟩) (hTake ⟨s1, s2, s3, s4⟩ rest)
  | [], i, hd, hi, s1, s2, s3, s4 => by
    have e1 : i = l.length := by have := congrArg List.length hd; simp at this; omega
    subst e1
    rw [iter_by lb22_0.eq_1]
    simp (disch := (first | omega | (simp only [lnE] <;> omega) | (refine Fit.mono ‹Fit _ _ _› ?_ <;> (simp only [lnE] <;> omega)) | (refine Fit.draw ‹Fit _ _ _› ?_ ?_ <;> (simp only [lnE] <;> omega)) | (refine Fit.hid1 ‹Fit _ _ _› ?_ ?_ <;> (simp only [lnE] <;> omega)) | (refine Fit.hidc1 ‹Fit _ _ _› ?_ ?_ <;> (simp only [lnE] <;> omega)) | (refine Fit.hidc2 ‹Fit _ _ _› ?_ ?_ ?_ <;> (simp only [lnE] <;> omega)) | (refine Fit.draw1 ‹Fit _ _ _› ?_ ?_ ?_ <;> (simp only [lnE] <;> omega)) | (refine Fit.range0 ?_ ?_ <;> (simp only [lnE] <;> omega)) | fail)) only [syA, syB, argFr, D, E, T, C, undefv, eqF, aeq, sheqs, sheq, rdCells, cellsOf, fill, putAt, if_true, if_false, reduceIte, ↓reduceIte, reduceCtorEq, eq_self, Nat.reduceEqDiff, Nat.reduceAdd, Nat.reduceSub, Nat.reduceMul, Nat.reduceLT, Nat.reduceLeDiff, Nat.reducePow, Nat.reduceDiv, Nat.reduceMod, Int.reduceLT, Int.reduceLE, Int.reduceGT, Int.reduceGE, Int.reduceToNat, Int.reducePow, Int.reduceNeg, Int.reduceBEq, Int.reduceBNe, Int.reduceEq, Int.reduceAdd, Int.reduceSub, Int.reduceMul, cellv, sc, flatv, refs, refsF, refsC, hF.not0, hF.not1, hF.up0, hF.up1]
    exact .inl ⟨_, _, rfl, rfl, rfl⟩
  | c :: rest, i, hd, hi, s1, s2, s3, s4 => by
    have hil : i < l.length := by have := congrArg List.length hd; simp at this; omega
    have hli : l[i] = c := by have := List.drop_eq_getElem_cons hil; rw [hd] at this; exact (List.cons.inj this).1.symm
    have hlr : l.drop (i + 1) = rest := by have := List.drop_eq_getElem_cons hil; rw [hd] at this; exact (List.cons.inj this).2.symm
    have hc : c < 256 := hli ▸ hr.by_.get hil
    obtain ⟨b, o, g, pl, cs, rfl, _, hh, hb, hcell⟩ := hr.at_ hil
    have hbl : b < hp.length := (List.getElem?_eq_some_iff.1 hb).1
    have h1 : (i : Int) < l.length := by omega
    have h2 : 0 ≤ (i : Int) ∧ (i : Int) < l.length := by omega
    rw [hli] at hcell
    simp only [] at hb hh
    have hst := fun nw L' H' (hF : Fit (hp ++ nw).length L' H') => hstep_walk s1 s2 s3 s4 c (by omega) (by omega) (hp := hp ++ nw) (L := L') (H := H') (d := []) hF
    have ht0 : hTake ⟨s1, s2, s3, s4⟩ (c :: rest) = if (hStep ⟨s1, s2, s3, s4⟩ c).2.2 = 0 then (if (hStep ⟨s1, s2, s3, s4⟩ c).2.1 = true then ((hStep ⟨s1, s2, s3, s4⟩ c).1.n, some rest, 0) else hTake (hStep ⟨s1, s2, s3, s4⟩ c).1 rest) else (0, none, (hStep ⟨s1, s2, s3, s4⟩ c).2.2) := rfl
    rw [ht0]
    clear ht0
    rcases hs : hStep ⟨s1, s2, s3, s4⟩ c with ⟨⟨x1, x2, x3, x4⟩, dn, er⟩
    simp only [hs, hsV] at hst ⊢
    clear hs
    rw [iter_by lb22_0.eq_1]
    by_cases he : er = 0
    · subst he
      cases dn with
      | true =>
        have he1 := hr.esz
        have h3 : 0 ≤ (i : Int) + 1 ∧ (i : Int) + 1 ≤ l.length := by omega
        have hrr : Rd ⟨hp, L, H, []⟩ (.slice (some ⟨b, o + (i + 1), some g⟩) (l.length - (i + 1)) e) rest := by
          obtain ⟨w, hw, hw2⟩ := hr.from_ (i := i + 1) (by omega)
          rw [hlr] at hw2
          simp only [sliceF_lo, he1, if_true, Int.toNat_natCast, Nat.mul_one] at hw
          rw [if_pos (by omega)] at hw
          cases hw; exact hw2
        have hcl := clone_walk (hp := hp ++ [.cells 0 true [.int .i64 0], .cells 0 true [.int .i64 s1, .int .i64 s2, .int .i64 s3, .int .i64 s4], .cells 0 true [.int .i64 x1, .int .i64 x2, .int .i64 x3, .int .i64 x4]]) (L := hp.length + 3) (H := H) (d := []) (hF.draw (by simp) (by simp)) hrr.app (by rw [← hlr]; simp; omega)
        simp (disch := (first | omega | (simp only [lnE] <;> omega) | (refine Fit.mono ‹Fit _ _ _› ?_ <;> (simp only [lnE] <;> omega)) | (refine Fit.draw ‹Fit _ _ _› ?_ ?_ <;> (simp only [lnE] <;> omega)) | (refine Fit.hid1 ‹Fit _ _ _› ?_ ?_ <;> (simp only [lnE] <;> omega)) | (refine Fit.hidc1 ‹Fit _ _ _› ?_ ?_ <;> (simp only [lnE] <;> omega)) | (refine Fit.hidc2 ‹Fit _ _ _› ?_ ?_ ?_ <;> (simp only [lnE] <;> omega)) | (refine Fit.draw1 ‹Fit _ _ _› ?_ ?_ ?_ <;> (simp only [lnE] <;> omega)) | (refine Fit.range0 ?_ ?_ <;> (simp only [lnE] <;> omega)) | fail)) only [syA, syB, argFr, D, E, T, C, undefv, eqF, aeq, sheqs, sheq, rdCells, cellsOf, fill, putAt, if_true, if_false, reduceIte, ↓reduceIte, reduceCtorEq, eq_self, Nat.reduceEqDiff, Nat.reduceAdd, Nat.reduceSub, Nat.reduceMul, Nat.reduceLT, Nat.reduceLeDiff, Nat.reducePow, Nat.reduceDiv, Nat.reduceMod, Int.reduceLT, Int.reduceLE, Int.reduceGT, Int.reduceGE, Int.reduceToNat, Int.reducePow, Int.reduceNeg, Int.reduceBEq, Int.reduceBNe, Int.reduceEq, Int.reduceAdd, Int.reduceSub, Int.reduceMul, cellv, sc, flatv, refs, refsF, refsC, hF.not0, hF.not1, hF.up0, hF.up1, h1, h2, h3, he1, hb, hh, hcell, hst, hcl]
        refine .inr (.inr ⟨_, _, x4, rest, 2, rfl, rfl, rfl, ?_, rfl, rfl⟩)
        simp only [get_cons, sl_some, List.length_append, List.length_cons, List.length_nil, Nat.zero_add, Nat.reduceAdd, if_true]; rfl
      | false =>
        simp (disch := (first | omega | (simp only [lnE] <;> omega) | (refine Fit.mono ‹Fit _ _ _› ?_ <;> (simp only [lnE] <;> omega)) | (refine Fit.draw ‹Fit _ _ _› ?_ ?_ <;> (simp only [lnE] <;> omega)) | (refine Fit.hid1 ‹Fit _ _ _› ?_ ?_ <;> (simp only [lnE] <;> omega)) | (refine Fit.hidc1 ‹Fit _ _ _› ?_ ?_ <;> (simp only [lnE] <;> omega)) | (refine Fit.hidc2 ‹Fit _ _ _› ?_ ?_ ?_ <;> (simp only [lnE] <;> omega)) | (refine Fit.draw1 ‹Fit _ _ _› ?_ ?_ ?_ <;> (simp only [lnE] <;> omega)) | (refine Fit.range0 ?_ ?_ <;> (simp only [lnE] <;> omega)) | fail)) only [syA, syB, argFr, D, E, T, C, undefv, eqF, aeq, sheqs, sheq, rdCells, cellsOf, fill, putAt, if_true, if_false, reduceIte, ↓reduceIte, reduceCtorEq, eq_self, Nat.reduceEqDiff, Nat.reduceAdd, Nat.reduceSub, Nat.reduceMul, Nat.reduceLT, Nat.reduceLeDiff, Nat.reducePow, Nat.reduceDiv, Nat.reduceMod, Int.reduceLT, Int.reduceLE, Int.reduceGT, Int.reduceGE, Int.reduceToNat, Int.reducePow, Int.reduceNeg, Int.reduceBEq, Int.reduceBNe, Int.reduceEq, Int.reduceAdd, Int.reduceSub, Int.reduceMul, cellv, sc, flatv, refs, refsF, refsC, hF.not0, hF.not1, hF.up0, hF.up1, h1, h2, hb, hh, hcell, hst]
        rw [gcFr_cut 2 (by simp) (by simp [refs, refsF, refsC]; omega)]
        simp (disch := (first | omega | (simp only [lnE] <;> omega) | (refine Fit.mono ‹Fit _ _ _› ?_ <;> (simp only [lnE] <;> omega)) | (refine Fit.draw ‹Fit _ _ _› ?_ ?_ <;> (simp only [lnE] <;> omega)) | (refine Fit.hid1 ‹Fit _ _ _› ?_ ?_ <;> (simp only [lnE] <;> omega)) | (refine Fit.hidc1 ‹Fit _ _ _› ?_ ?_ <;> (simp only [lnE] <;> omega)) | (refine Fit.hidc2 ‹Fit _ _ _› ?_ ?_ ?_ <;> (simp only [lnE] <;> omega)) | (refine Fit.draw1 ‹Fit _ _ _› ?_ ?_ ?_ <;> (simp only [lnE] <;> omega)) | (refine Fit.range0 ?_ ?_ <;> (simp only [lnE] <;> omega)) | fail)) only [syA, syB, argFr, D, E, T, C, undefv, eqF, aeq, sheqs, sheq, rdCells, cellsOf, fill, putAt, if_true, if_false, reduceIte, ↓reduceIte, reduceCtorEq, eq_self, Nat.reduceEqDiff, Nat.reduceAdd, Nat.reduceSub, Nat.reduceMul, Nat.reduceLT, Nat.reduceLeDiff, Nat.reducePow, Nat.reduceDiv, Nat.reduceMod, Int.reduceLT, Int.reduceLE, Int.reduceGT, Int.reduceGE, Int.reduceToNat, Int.reducePow, Int.reduceNeg, Int.reduceBEq, Int.reduceBNe, Int.reduceEq, Int.reduceAdd, Int.reduceSub, Int.reduceMul, cellv, sc, flatv, refs, refsF, refsC, hF.not0, hF.not1, hF.up0, hF.up1]
        exact htake_loop hF hr hn rest (i + 1) hlr (by omega) x1 x2 x3 x4
    · simp (disch := (first | omega | (simp only [lnE] <;> omega) | (refine Fit.mono ‹Fit _ _ _› ?_ <;> (simp only [lnE] <;> omega)) | (refine Fit.draw ‹Fit _ _ _› ?_ ?_ <;> (simp only [lnE] <;> omega)) | (refine Fit.hid1 ‹Fit _ _ _› ?_ ?_ <;> (simp only [lnE] <;> omega)) | (refine Fit.hidc1 ‹Fit _ _ _› ?_ ?_ <;> (simp only [lnE] <;> omega)) | (refine Fit.hidc2 ‹Fit _ _ _› ?_ ?_ ?_ <;> (simp only [lnE] <;> omega)) | (refine Fit.draw1 ‹Fit _ _ _› ?_ ?_ ?_ <;> (simp only [lnE] <;> omega)) | (refine Fit.range0 ?_ ?_ <;> (simp only [lnE] <;> omega)) | fail)) only [syA, syB, argFr, D, E, T, C, undefv, eqF, aeq, sheqs, sheq, rdCells, cellsOf, fill, putAt, if_true, if_false, reduceIte, ↓reduceIte, reduceCtorEq, eq_self, Nat.reduceEqDiff, Nat.reduceAdd, Nat.reduceSub, Nat.reduceMul, Nat.reduceLT, Nat.reduceLeDiff, Nat.reducePow, Nat.reduceDiv, Nat.reduceMod, Int.reduceLT, Int.reduceLE, Int.reduceGT, Int.reduceGE, Int.reduceToNat, Int.reducePow, Int.reduceNeg, Int.reduceBEq, Int.reduceBNe, Int.reduceEq, Int.reduceAdd, Int.reduceSub, Int.reduceMul, cellv, sc, flatv, refs, refsF, refsC, hF.not0, hF.not1, hF.up0, hF.up1, h1, h2, hb, hh, hcell, hst, he]
      exact .inr (.inl ⟨_, _, er, rfl, rfl, rfl, rfl, rfl⟩)
def htV (k : Nat) (t : Int × Option (List Nat) × Int) : Value := .tuple #[.agg #[.int .i64 t.1], sl k (t.2.1.getD []).length t.2.1, .int .i64 t.2.2]
theorem htake_walk {hp : List Blk} {L : Nat} {H d : List Nat} {v : Value} {l : List Nat} (hF : Fit hp.length L H) (hr : Rd ⟨hp, L, H, []⟩ v l) (hn : l.length ≤ 1000) :
    Lrun env (.func 22) [v] ⟨hp, L, H, d⟩ = some (htV hp.length (hTake ⟨0, 0, 0, 0⟩ l), ⟨hp ++ slB ((hTake ⟨0, 0, 0, 0⟩ l).2.1.getD []).length (hTake ⟨0, 0, 0, 0⟩ l).2.1, L, H, d⟩) := by
  obtain ⟨a, e, rfl⟩ := hr.len
  rw [Lrun_sym 22 _ _ fn22]
  rcases htake_loop hF hr hn l 0 rfl (by omega) 0 0 0 0 with ⟨fr, y, h1, h2, h3⟩ | ⟨fr, nw, x, h1, h2, h3, h4, h5⟩ | ⟨fr, nw, x, r, k, h1, h2, h3, h4, h5, h6⟩
  · simp only [Int.natCast_zero] at h1
    simp (disch := (first | omega | (simp only [lnE] <;> omega) | (refine Fit.mono ‹Fit _ _ _› ?_ <;> (simp only [lnE] <;> omega)) | (refine Fit.draw ‹Fit _ _ _› ?_ ?_ <;> (simp only [lnE] <;> omega)) | (refine Fit.hid1 ‹Fit _ _ _› ?_ ?_ <;> (simp only [lnE] <;> omega)) | (refine Fit.hidc1 ‹Fit _ _ _› ?_ ?_ <;> (simp only [lnE] <;> omega)) | (refine Fit.hidc2 ‹Fit _ _ _› ?_ ?_ ?_ <;> (simp only [lnE] <;> omega)) | (refine Fit.draw1 ‹Fit _ _ _› ?_ ?_ ?_ <;> (simp only [lnE] <;> omega)) | (refine Fit.range0 ?_ ?_ <;> (simp only [lnE] <;> omega)) | fail)) only [syA, syB, argFr, D, E, T, C, undefv, eqF, aeq, sheqs, sheq, rdCells, cellsOf, fill, putAt, if_true, if_false, reduceIte, ↓reduceIte, reduceCtorEq, eq_self, Nat.reduceEqDiff, Nat.reduceAdd, Nat.reduceSub, Nat.reduceMul, Nat.reduceLT, Nat.reduceLeDiff, Nat.reducePow, Nat.reduceDiv, Nat.reduceMod, Int.reduceLT, Int.reduceLE, Int.reduceGT, Int.reduceGE, Int.reduceToNat, Int.reducePow, Int.reduceNeg, Int.reduceBEq, Int.reduceBNe, Int.reduceEq, Int.reduceAdd, Int.reduceSub, Int.reduceMul, cellv, sc, flatv, refs, refsF, refsC, hF.not0, hF.not1, hF.up0, hF.up1, ac22, h1, h2, h3, sl_none, slB_none, htV]
  · simp only [Int.natCast_zero] at h1
    simp (disch := (first | omega | (simp only [lnE] <;> omega) | (refine Fit.mono ‹Fit _ _ _› ?_ <;> (simp only [lnE] <;> omega)) | (refine Fit.draw ‹Fit _ _ _› ?_ ?_ <;> (simp only [lnE] <;> omega)) | (refine Fit.hid1 ‹Fit _ _ _› ?_ ?_ <;> (simp only [lnE] <;> omega)) | (refine Fit.hidc1 ‹Fit _ _ _› ?_ ?_ <;> (simp only [lnE] <;> omega)) | (refine Fit.hidc2 ‹Fit _ _ _› ?_ ?_ ?_ <;> (simp only [lnE] <;> omega)) | (refine Fit.draw1 ‹Fit _ _ _› ?_ ?_ ?_ <;> (simp only [lnE] <;> omega)) | (refine Fit.range0 ?_ ?_ <;> (simp only [lnE] <;> omega)) | fail)) only [syA, syB, argFr, D, E, T, C, undefv, eqF, aeq, sheqs, sheq, rdCells, cellsOf, fill, putAt, if_true, if_false, reduceIte, ↓reduceIte, reduceCtorEq, eq_self, Nat.reduceEqDiff, Nat.reduceAdd, Nat.reduceSub, Nat.reduceMul, Nat.reduceLT, Nat.reduceLeDiff, Nat.reducePow, Nat.reduceDiv, Nat.reduceMod, Int.reduceLT, Int.reduceLE, Int.reduceGT, Int.reduceGE, Int.reduceToNat, Int.reducePow, Int.reduceNeg, Int.reduceBEq, Int.reduceBNe, Int.reduceEq, Int.reduceAdd, Int.reduceSub, Int.reduceMul, cellv, sc, flatv, refs, refsF, refsC, hF.not0, hF.not1, hF.up0, hF.up1, ac22, h1, h2, h3, h4, h5, sl_none, slB_none, htV]
  · simp only [Int.natCast_zero] at h1
    simp (disch := (first | omega | (simp only [lnE] <;> omega) | (refine Fit.mono ‹Fit _ _ _› ?_ <;> (simp only [lnE] <;> omega)) | (refine Fit.draw ‹Fit _ _ _› ?_ ?_ <;> (simp only [lnE] <;> omega)) | (refine Fit.hid1 ‹Fit _ _ _› ?_ ?_ <;> (simp only [lnE] <;> omega)) | (refine Fit.hidc1 ‹Fit _ _ _› ?_ ?_ <;> (simp only [lnE] <;> omega)) | (refine Fit.hidc2 ‹Fit _ _ _› ?_ ?_ ?_ <;> (simp only [lnE] <;> omega)) | (refine Fit.draw1 ‹Fit _ _ _› ?_ ?_ ?_ <;> (simp only [lnE] <;> omega)) | (refine Fit.range0 ?_ ?_ <;> (simp only [lnE] <;> omega)) | fail)) only [syA, syB, argFr, D, E, T, C, undefv, eqF, aeq, sheqs, sheq, rdCells, cellsOf, fill, putAt, if_true, if_false, reduceIte, ↓reduceIte, reduceCtorEq, eq_self, Nat.reduceEqDiff, Nat.reduceAdd, Nat.reduceSub, Nat.reduceMul, Nat.reduceLT, Nat.reduceLeDiff, Nat.reducePow, Nat.reduceDiv, Nat.reduceMod, Int.reduceLT, Int.reduceLE, Int.reduceGT, Int.reduceGE, Int.reduceToNat, Int.reducePow, Int.reduceNeg, Int.reduceBEq, Int.reduceBNe, Int.reduceEq, Int.reduceAdd, Int.reduceSub, Int.reduceMul, cellv, sc, flatv, refs, refsF, refsC, hF.not0, hF.not1, hF.up0, hF.up1, ac22, h1, h2, h3, h4, h5, sl_some, slB_some, htV]
    rw [gc_keep (k + 1) (by simpa using h6) (by simp [refs, refsF, refsC]) (by simp [refs, refsF, refsC])]
    simp (disch := (first | omega | (simp only [lnE] <;> omega) | (refine Fit.mono ‹Fit _ _ _› ?_ <;> (simp only [lnE] <;> omega)) | (refine Fit.draw ‹Fit _ _ _› ?_ ?_ <;> (simp only [lnE] <;> omega)) | (refine Fit.hid1 ‹Fit _ _ _› ?_ ?_ <;> (simp only [lnE] <;> omega)) | (refine Fit.hidc1 ‹Fit _ _ _› ?_ ?_ <;> (simp only [lnE] <;> omega)) | (refine Fit.hidc2 ‹Fit _ _ _› ?_ ?_ ?_ <;> (simp only [lnE] <;> omega)) | (refine Fit.draw1 ‹Fit _ _ _› ?_ ?_ ?_ <;> (simp only [lnE] <;> omega)) | (refine Fit.range0 ?_ ?_ <;> (simp only [lnE] <;> omega)) | fail)) only [syA, syB, argFr, D, E, T, C, undefv, eqF, aeq, sheqs, sheq, rdCells, cellsOf, fill, putAt, if_true, if_false, reduceIte, ↓reduceIte, reduceCtorEq, eq_self, Nat.reduceEqDiff, Nat.reduceAdd, Nat.reduceSub, Nat.reduceMul, Nat.reduceLT, Nat.reduceLeDiff, Nat.reducePow, Nat.reduceDiv, Nat.reduceMod, Int.reduceLT, Int.reduceLE, Int.reduceGT, Int.reduceGE, Int.reduceToNat, Int.reducePow, Int.reduceNeg, Int.reduceBEq, Int.reduceBNe, Int.reduceEq, Int.reduceAdd, Int.reduceSub, Int.reduceMul, cellv, sc, flatv, refs, refsF, refsC, hF.not0, hF.not1, hF.up0, hF.up1, ren, renF, renC, one_new, List.map_cons, List.map_nil]
end VarA
end Go.Proofs.Ytpjjkmfidghkjaa
