/-
  HEADERS: walks of the reference's Valid and Step of a stream header. Conditions: none.
-/
import Derived.Test.YtpjjkmfidghkjaaHrB
set_option linter.all false
namespace Go.Proofs.Ytpjjkmfidghkjaa
namespace VarA
open Go Go.RowKit AM ArEnv

/-- Some bytes' way. -/
def wFold : HS → List Nat → Option HS
  | o, [] => some o
  | o, c :: l => if (wayR o c).2 = 0 then wFold (wayR o c).1 l else none
theorem wayR_a {s : HS} {c : Int} (h : 0 ≤ s.a) : 0 ≤ (wayR s c).1.a := by
  unfold wayR
  repeat' split
  all_goals simp
  all_goals omega
/-- The bytes that should lead to a state. -/
def hBytes (s : HS) : List Nat := if s.a < 3 then [87, 80, 1].take s.a.toNat else if s.a = 3 then [87, 80, 1] ++ grp (grpN s.m) s.v.toNat else [87, 80, 1] ++ enc s.n.toNat
def rValid (s : HS) : Bool := !(decide (s.a < 0 ∨ 4 < s.a ∨ s.v < 0 ∨ s.n < 0 ∨ 65536 < s.n)) && (match wFold ⟨0, 0, 0, 0⟩ (hBytes s) with
  | some o => decide (o.a = s.a ∧ o.v = s.v ∧ o.m = s.m ∧ o.n = s.n)
  | none => false)
theorem rvalid_loop {hq : List Blk} {L : Nat} {H : List Nat} {a : Option Addr} {e q : Nat} {l : List Nat} (hF : Fit hq.length L H) (hr : Rd ⟨hq, L, H, []⟩ (.slice a l.length e) l) (hl : l.length ≤ 60) (hq' : q < hq.length) :
    ∀ (rest : List Nat) (i : Nat), l.drop i = rest → i ≤ l.length → ∀ s1 s2 s3 s4 : Int, 0 ≤ s1 → ∃ ex fr z1 z2 z3 z4 nx,
      Liter env lb15_0 [6, 3, 1, 7] (hq.length + 1) [(6, .pointer (some ⟨hq.length, 0, some 0⟩)), (3, .slice a l.length e), (1, .pointer (some ⟨q, 0, some 0⟩)), (7, .int .i64 i)] ⟨hq ++ [.cells 0 true [.int .i64 s1, .int .i64 s2, .int .i64 s3, .int .i64 s4]], L, H, []⟩ = some (ex, fr, ⟨hq ++ .cells 0 true [.int .i64 z1, .int .i64 z2, .int .i64 z3, .int .i64 z4] :: nx, L, H, []⟩) ∧
        ((ex = .exit 0 ∧ wFold ⟨s1, s2, s3, s4⟩ rest = some ⟨z1, z2, z3, z4⟩ ∧ fr.get 6 = some (.pointer (some ⟨hq.length, 0, some 0⟩)) ∧ fr.get 1 = some (.pointer (some ⟨q, 0, some 0⟩))) ∨
        (ex = .ret ∧ wFold ⟨s1, s2, s3, s4⟩ rest = none ∧ fr.get 2 = some (.bool false)))
  | [], i, hd, hi, s1, s2, s3, s4, h0 => by
    have e1 : i = l.length := by have := congrArg List.length hd; simp at this; omega
    subst e1
    rw [iter_by lb15_0.eq_1]
    simp (disch := (first | omega | (simp only [lnE] <;> omega) | (refine Fit.mono ‹Fit _ _ _› ?_ <;> (simp only [lnE] <;> omega)) | (refine Fit.draw ‹Fit _ _ _› ?_ ?_ <;> (simp only [lnE] <;> omega)) | (refine Fit.hid1 ‹Fit _ _ _› ?_ ?_ <;> (simp only [lnE] <;> omega)) | (refine Fit.hidc1 ‹Fit _ _ _› ?_ ?_ <;> (simp only [lnE] <;> omega)) | (refine Fit.hidc2 ‹Fit _ _ _› ?_ ?_ ?_ <;> (simp only [lnE] <;> omega)) | (refine Fit.draw1 ‹Fit _ _ _› ?_ ?_ ?_ <;> (simp only [lnE] <;> omega)) | (refine Fit.range0 ?_ ?_ <;> (simp only [lnE] <;> omega)) | fail)) only [syA, syB, argFr, D, E, T, C, undefv, eqF, aeq, sheqs, sheq, rdCells, cellsOf, fill, putAt, if_true, if_false, reduceIte, ↓reduceIte, reduceCtorEq, eq_self, Nat.reduceEqDiff, Nat.reduceAdd, Nat.reduceSub, Nat.reduceMul, Nat.reduceLT, Nat.reduceLeDiff, Nat.reducePow, Nat.reduceDiv, Nat.reduceMod, Int.reduceLT, Int.reduceLE, Int.reduceGT, Int.reduceGE, Int.reduceToNat, Int.reducePow, Int.reduceNeg, Int.reduceBEq, Int.reduceBNe, Int.reduceEq, Int.reduceAdd, Int.reduceSub, Int.reduceMul, cellv, sc, flatv, refs, refsF, refsC, hF.not0, hF.not1, hF.up0, hF.up1]
    exact ⟨_, _, s1, s2, s3, s4, [], rfl, .inl ⟨rfl, rfl, rfl, rfl⟩⟩
  | c :: rest, i, hd, hi, s1, s2, s3, s4, h0 => by
    have hil : i < l.length := by have := congrArg List.length hd; simp at this; omega
    have hli : l[i] = c := by have := List.drop_eq_getElem_cons hil; rw [hd] at this; exact (List.cons.inj this).1.symm
    have hlr : l.drop (i + 1) = rest := by have := List.drop_eq_getElem_cons hil; rw [hd] at this; exact (List.cons.inj this).2.symm
    have hc : c < 256 := hli ▸ hr.by_.get hil
    obtain ⟨b, o, g, pl, cs, rfl, _, hh, hb, hcell⟩ := hr.at_ hil
    have hbl : b < hq.length := (List.getElem?_eq_some_iff.1 hb).1
    have h1 : (i : Int) < l.length := by omega
    have h2 : 0 ≤ (i : Int) ∧ (i : Int) < l.length := by omega
    rw [hli] at hcell
    simp only [] at hh hb
    have hst := fun nw L' H' (hF : Fit (hq ++ nw).length L' H') => way_walk s1 s2 s3 s4 c h0 (by omega) (by omega) (hp := hq ++ nw) (L := L') (H := H') (d := []) hF
    have ha := wayR_a (s := ⟨s1, s2, s3, s4⟩) (c := c) h0
    have ht0 : wFold ⟨s1, s2, s3, s4⟩ (c :: rest) = if (wayR ⟨s1, s2, s3, s4⟩ c).2 = 0 then wFold (wayR ⟨s1, s2, s3, s4⟩ c).1 rest else none := rfl
    rw [ht0]
    clear ht0
    rcases hs0 : wayR ⟨s1, s2, s3, s4⟩ c with ⟨⟨x1, x2, x3, x4⟩, er⟩
    simp only [hs0, wV] at hst ha ⊢
    clear hs0
    rw [iter_by lb15_0.eq_1]
    by_cases he : er = 0
    · subst he
      obtain ⟨ex, fr, z1, z2, z3, z4, nx, g1, g2⟩ := rvalid_loop hF hr hl hq' rest (i + 1) hlr (by omega) x1 x2 x3 x4 ha
      simp (disch := (first | omega | (simp only [lnE] <;> omega) | (refine Fit.mono ‹Fit _ _ _› ?_ <;> (simp only [lnE] <;> omega)) | (refine Fit.draw ‹Fit _ _ _› ?_ ?_ <;> (simp only [lnE] <;> omega)) | (refine Fit.hid1 ‹Fit _ _ _› ?_ ?_ <;> (simp only [lnE] <;> omega)) | (refine Fit.hidc1 ‹Fit _ _ _› ?_ ?_ <;> (simp only [lnE] <;> omega)) | (refine Fit.hidc2 ‹Fit _ _ _› ?_ ?_ ?_ <;> (simp only [lnE] <;> omega)) | (refine Fit.draw1 ‹Fit _ _ _› ?_ ?_ ?_ <;> (simp only [lnE] <;> omega)) | (refine Fit.range0 ?_ ?_ <;> (simp only [lnE] <;> omega)) | fail)) only [syA, syB, argFr, D, E, T, C, undefv, eqF, aeq, sheqs, sheq, rdCells, cellsOf, fill, putAt, if_true, if_false, reduceIte, ↓reduceIte, reduceCtorEq, eq_self, Nat.reduceEqDiff, Nat.reduceAdd, Nat.reduceSub, Nat.reduceMul, Nat.reduceLT, Nat.reduceLeDiff, Nat.reducePow, Nat.reduceDiv, Nat.reduceMod, Int.reduceLT, Int.reduceLE, Int.reduceGT, Int.reduceGE, Int.reduceToNat, Int.reducePow, Int.reduceNeg, Int.reduceBEq, Int.reduceBNe, Int.reduceEq, Int.reduceAdd, Int.reduceSub, Int.reduceMul, cellv, sc, flatv, refs, refsF, refsC, hF.not0, hF.not1, hF.up0, hF.up1, h1, h2, hb, hh, hcell, hst]
      rw [gcFr_cut 1 (by simp) (by
        intro p hp r hr'
        simp only [List.mem_cons, List.not_mem_nil, or_false] at hp
        rcases hp with rfl | rfl | rfl | rfl <;> first
          | exact Nat.lt_succ_of_lt (hr.refs _ hr')
          | (simp [AM.refs, refsF, refsC] at hr'; done)
          | (simp [AM.refs, refsF, refsC] at hr'; omega))]
      simp (disch := (first | omega | (simp only [lnE] <;> omega) | (refine Fit.mono ‹Fit _ _ _› ?_ <;> (simp only [lnE] <;> omega)) | (refine Fit.draw ‹Fit _ _ _› ?_ ?_ <;> (simp only [lnE] <;> omega)) | (refine Fit.hid1 ‹Fit _ _ _› ?_ ?_ <;> (simp only [lnE] <;> omega)) | (refine Fit.hidc1 ‹Fit _ _ _› ?_ ?_ <;> (simp only [lnE] <;> omega)) | (refine Fit.hidc2 ‹Fit _ _ _› ?_ ?_ ?_ <;> (simp only [lnE] <;> omega)) | (refine Fit.draw1 ‹Fit _ _ _› ?_ ?_ ?_ <;> (simp only [lnE] <;> omega)) | (refine Fit.range0 ?_ ?_ <;> (simp only [lnE] <;> omega)) | fail)) only [syA, syB, argFr, D, E, T, C, undefv, eqF, aeq, sheqs, sheq, rdCells, cellsOf, fill, putAt, if_true, if_false, reduceIte, ↓reduceIte, reduceCtorEq, eq_self, Nat.reduceEqDiff, Nat.reduceAdd, Nat.reduceSub, Nat.reduceMul, Nat.reduceLT, Nat.reduceLeDiff, Nat.reducePow, Nat.reduceDiv, Nat.reduceMod, Int.reduceLT, Int.reduceLE, Int.reduceGT, Int.reduceGE, Int.reduceToNat, Int.reducePow, Int.reduceNeg, Int.reduceBEq, Int.reduceBNe, Int.reduceEq, Int.reduceAdd, Int.reduceSub, Int.reduceMul, cellv, sc, flatv, refs, refsF, refsC, hF.not0, hF.not1, hF.up0, hF.up1]
      exact ⟨ex, fr, z1, z2, z3, z4, nx, g1, g2⟩
    · simp (disch := (first | omega | (simp only [lnE] <;> omega) | (refine Fit.mono ‹Fit _ _ _› ?_ <;> (simp only [lnE] <;> omega)) | (refine Fit.draw ‹Fit _ _ _› ?_ ?_ <;> (simp only [lnE] <;> omega)) | (refine Fit.hid1 ‹Fit _ _ _› ?_ ?_ <;> (simp only [lnE] <;> omega)) | (refine Fit.hidc1 ‹Fit _ _ _› ?_ ?_ <;> (simp only [lnE] <;> omega)) | (refine Fit.hidc2 ‹Fit _ _ _› ?_ ?_ ?_ <;> (simp only [lnE] <;> omega)) | (refine Fit.draw1 ‹Fit _ _ _› ?_ ?_ ?_ <;> (simp only [lnE] <;> omega)) | (refine Fit.range0 ?_ ?_ <;> (simp only [lnE] <;> omega)) | fail)) only [syA, syB, argFr, D, E, T, C, undefv, eqF, aeq, sheqs, sheq, rdCells, cellsOf, fill, putAt, if_true, if_false, reduceIte, ↓reduceIte, reduceCtorEq, eq_self, Nat.reduceEqDiff, Nat.reduceAdd, Nat.reduceSub, Nat.reduceMul, Nat.reduceLT, Nat.reduceLeDiff, Nat.reducePow, Nat.reduceDiv, Nat.reduceMod, Int.reduceLT, Int.reduceLE, Int.reduceGT, Int.reduceGE, Int.reduceToNat, Int.reducePow, Int.reduceNeg, Int.reduceBEq, Int.reduceBNe, Int.reduceEq, Int.reduceAdd, Int.reduceSub, Int.reduceMul, cellv, sc, flatv, refs, refsF, refsC, hF.not0, hF.not1, hF.up0, hF.up1, h1, h2, hb, hh, hcell, hst, he]
      exact ⟨_, _, s1, s2, s3, s4, _, rfl, rfl, rfl⟩
theorem rvalid_walk (a v m n : Int) (hv' : v ≤ 9223372036854775807) {hp : List Blk} {L : Nat} {H d : List Nat} (hF : Fit hp.length L H) :
    Lrun env (.func 15) [.agg #[.int .i64 a, .int .i64 v, .int .i64 m, .int .i64 n]] ⟨hp, L, H, d⟩ = some (.bool (rValid ⟨a, v, m, n⟩), ⟨hp, L, H, d⟩) := by
  rw [Lrun_sym 15 _ _ fn15]
  have bad : (a < 0 ∨ 4 < a ∨ v < 0 ∨ n < 0 ∨ 65536 < n) → rValid ⟨a, v, m, n⟩ = false := fun h => by
    unfold rValid; rw [decide_eq_true h]; rfl
  by_cases c1 : a < 0
  · rw [bad (by omega)]; simp (disch := (first | omega | (simp only [lnE] <;> omega) | (refine Fit.mono ‹Fit _ _ _› ?_ <;> (simp only [lnE] <;> omega)) | (refine Fit.draw ‹Fit _ _ _› ?_ ?_ <;> (simp only [lnE] <;> omega)) | (refine Fit.hid1 ‹Fit _ _ _› ?_ ?_ <;> (simp only [lnE] <;> omega)) | (refine Fit.hidc1 ‹Fit _ _ _› ?_ ?_ <;> (simp only [lnE] <;> omega)) | (refine Fit.hidc2 ‹Fit _ _ _› ?_ ?_ ?_ <;> (simp only [lnE] <;> omega)) | (refine Fit.draw1 ‹Fit _ _ _› ?_ ?_ ?_ <;> (simp only [lnE] <;> omega)) | (refine Fit.range0 ?_ ?_ <;> (simp only [lnE] <;> omega)) | fail)) only [syA, syB, argFr, D, E, T, C, undefv, eqF, aeq, sheqs, sheq, rdCells, cellsOf, fill, putAt, if_true, if_false, reduceIte, ↓reduceIte, reduceCtorEq, eq_self, Nat.reduceEqDiff, Nat.reduceAdd, Nat.reduceSub, Nat.reduceMul, Nat.reduceLT, Nat.reduceLeDiff, Nat.reducePow, Nat.reduceDiv, Nat.reduceMod, Int.reduceLT, Int.reduceLE, Int.reduceGT, Int.reduceGE, Int.reduceToNat, Int.reducePow, Int.reduceNeg, Int.reduceBEq, Int.reduceBNe, Int.reduceEq, Int.reduceAdd, Int.reduceSub, Int.reduceMul, cellv, sc, flatv, refs, refsF, refsC, hF.not0, hF.not1, hF.up0, hF.up1, ac15, c1]; done
  by_cases c2 : a > 4
  · rw [bad (by omega)]; simp (disch := (first | omega | (simp only [lnE] <;> omega) | (refine Fit.mono ‹Fit _ _ _› ?_ <;> (simp only [lnE] <;> omega)) | (refine Fit.draw ‹Fit _ _ _› ?_ ?_ <;> (simp only [lnE] <;> omega)) | (refine Fit.hid1 ‹Fit _ _ _› ?_ ?_ <;> (simp only [lnE] <;> omega)) | (refine Fit.hidc1 ‹Fit _ _ _› ?_ ?_ <;> (simp only [lnE] <;> omega)) | (refine Fit.hidc2 ‹Fit _ _ _› ?_ ?_ ?_ <;> (simp only [lnE] <;> omega)) | (refine Fit.draw1 ‹Fit _ _ _› ?_ ?_ ?_ <;> (simp only [lnE] <;> omega)) | (refine Fit.range0 ?_ ?_ <;> (simp only [lnE] <;> omega)) | fail)) only [syA, syB, argFr, D, E, T, C, undefv, eqF, aeq, sheqs, sheq, rdCells, cellsOf, fill, putAt, if_true, if_false, reduceIte, ↓reduceIte, reduceCtorEq, eq_self, Nat.reduceEqDiff, Nat.reduceAdd, Nat.reduceSub, Nat.reduceMul, Nat.reduceLT, Nat.reduceLeDiff, Nat.reducePow, Nat.reduceDiv, Nat.reduceMod, Int.reduceLT, Int.reduceLE, Int.reduceGT, Int.reduceGE, Int.reduceToNat, Int.reducePow, Int.reduceNeg, Int.reduceBEq, Int.reduceBNe, Int.reduceEq, Int.reduceAdd, Int.reduceSub, Int.reduceMul, cellv, sc, flatv, refs, refsF, refsC, hF.not0, hF.not1, hF.up0, hF.up1, ac15, c1, c2]; done
  by_cases c3 : v < 0
  · rw [bad (by omega)]; simp (disch := (first | omega | (simp only [lnE] <;> omega) | (refine Fit.mono ‹Fit _ _ _› ?_ <;> (simp only [lnE] <;> omega)) | (refine Fit.draw ‹Fit _ _ _› ?_ ?_ <;> (simp only [lnE] <;> omega)) | (refine Fit.hid1 ‹Fit _ _ _› ?_ ?_ <;> (simp only [lnE] <;> omega)) | (refine Fit.hidc1 ‹Fit _ _ _› ?_ ?_ <;> (simp only [lnE] <;> omega)) | (refine Fit.hidc2 ‹Fit _ _ _› ?_ ?_ ?_ <;> (simp only [lnE] <;> omega)) | (refine Fit.draw1 ‹Fit _ _ _› ?_ ?_ ?_ <;> (simp only [lnE] <;> omega)) | (refine Fit.range0 ?_ ?_ <;> (simp only [lnE] <;> omega)) | fail)) only [syA, syB, argFr, D, E, T, C, undefv, eqF, aeq, sheqs, sheq, rdCells, cellsOf, fill, putAt, if_true, if_false, reduceIte, ↓reduceIte, reduceCtorEq, eq_self, Nat.reduceEqDiff, Nat.reduceAdd, Nat.reduceSub, Nat.reduceMul, Nat.reduceLT, Nat.reduceLeDiff, Nat.reducePow, Nat.reduceDiv, Nat.reduceMod, Int.reduceLT, Int.reduceLE, Int.reduceGT, Int.reduceGE, Int.reduceToNat, Int.reducePow, Int.reduceNeg, Int.reduceBEq, Int.reduceBNe, Int.reduceEq, Int.reduceAdd, Int.reduceSub, Int.reduceMul, cellv, sc, flatv, refs, refsF, refsC, hF.not0, hF.not1, hF.up0, hF.up1, ac15, c1, c2, c3]; done
  by_cases c4 : n < 0
  · rw [bad (by omega)]; simp (disch := (first | omega | (simp only [lnE] <;> omega) | (refine Fit.mono ‹Fit _ _ _› ?_ <;> (simp only [lnE] <;> omega)) | (refine Fit.draw ‹Fit _ _ _› ?_ ?_ <;> (simp only [lnE] <;> omega)) | (refine Fit.hid1 ‹Fit _ _ _› ?_ ?_ <;> (simp only [lnE] <;> omega)) | (refine Fit.hidc1 ‹Fit _ _ _› ?_ ?_ <;> (simp only [lnE] <;> omega)) | (refine Fit.hidc2 ‹Fit _ _ _› ?_ ?_ ?_ <;> (simp only [lnE] <;> omega)) | (refine Fit.draw1 ‹Fit _ _ _› ?_ ?_ ?_ <;> (simp only [lnE] <;> omega)) | (refine Fit.range0 ?_ ?_ <;> (simp only [lnE] <;> omega)) | fail)) only [syA, syB, argFr, D, E, T, C, undefv, eqF, aeq, sheqs, sheq, rdCells, cellsOf, fill, putAt, if_true, if_false, reduceIte, ↓reduceIte, reduceCtorEq, eq_self, Nat.reduceEqDiff, Nat.reduceAdd, Nat.reduceSub, Nat.reduceMul, Nat.reduceLT, Nat.reduceLeDiff, Nat.reducePow, Nat.reduceDiv, Nat.reduceMod, Int.reduceLT, Int.reduceLE, Int.reduceGT, Int.reduceGE, Int.reduceToNat, Int.reducePow, Int.reduceNeg, Int.reduceBEq, Int.reduceBNe, Int.reduceEq, Int.reduceAdd, Int.reduceSub, Int.reduceMul, cellv, sc, flatv, refs, refsF, refsC, hF.not0, hF.not1, hF.up0, hF.up1, ac15, c1, c2, c3, c4]; done
  by_cases c5 : n > 65536
  · rw [bad (by omega)]; simp (disch := (first | omega | (simp only [lnE] <;> omega) | (refine Fit.mono ‹Fit _ _ _› ?_ <;> (simp only [lnE] <;> omega)) | (refine Fit.draw ‹Fit _ _ _› ?_ ?_ <;> (simp only [lnE] <;> omega)) | (refine Fit.hid1 ‹Fit _ _ _› ?_ ?_ <;> (simp only [lnE] <;> omega)) | (refine Fit.hidc1 ‹Fit _ _ _› ?_ ?_ <;> (simp only [lnE] <;> omega)) | (refine Fit.hidc2 ‹Fit _ _ _› ?_ ?_ ?_ <;> (simp only [lnE] <;> omega)) | (refine Fit.draw1 ‹Fit _ _ _› ?_ ?_ ?_ <;> (simp only [lnE] <;> omega)) | (refine Fit.range0 ?_ ?_ <;> (simp only [lnE] <;> omega)) | fail)) only [syA, syB, argFr, D, E, T, C, undefv, eqF, aeq, sheqs, sheq, rdCells, cellsOf, fill, putAt, if_true, if_false, reduceIte, ↓reduceIte, reduceCtorEq, eq_self, Nat.reduceEqDiff, Nat.reduceAdd, Nat.reduceSub, Nat.reduceMul, Nat.reduceLT, Nat.reduceLeDiff, Nat.reducePow, Nat.reduceDiv, Nat.reduceMod, Int.reduceLT, Int.reduceLE, Int.reduceGT, Int.reduceGE, Int.reduceToNat, Int.reducePow, Int.reduceNeg, Int.reduceBEq, Int.reduceBNe, Int.reduceEq, Int.reduceAdd, Int.reduceSub, Int.reduceMul, cellv, sc, flatv, refs, refsF, refsC, hF.not0, hF.not1, hF.up0, hF.up1, ac15, c1, c2, c3, c4, c5]; done
  have good : rValid ⟨a, v, m, n⟩ = (match wFold ⟨0, 0, 0, 0⟩ (hBytes ⟨a, v, m, n⟩) with
      | some o => decide (o.a = a ∧ o.v = v ∧ o.m = m ∧ o.n = n)
      | none => false) := by
    unfold rValid; rw [decide_eq_false (by simp only []; omega)]; rfl
  rw [good]
  by_cases h3 : a < 3
  · have hby : hBytes ⟨a, v, m, n⟩ = [87, 80, 1].take a.toNat := by unfold hBytes; rw [if_pos h3]
    rw [hby]
    have hln : ([87, 80, 1].take a.toNat : List Nat).length = a.toNat := by simp; omega
    have r1 := (Rd.whole (hp := hp ++ [.cells 0 true [.int .i64 a, .int .i64 v, .int .i64 m, .int .i64 n], .cells 0 true (u8s [87, 80, 1])]) (L := L) (H := H) (d := []) (b := hp.length + 1) (g := 0) (e := 1) (l := [87, 80, 1]) (by rw [get_new]; rfl) (hF.not1 1) (by intro x hx; simp at hx; omega) (.inr rfl)).upto' (j := a.toNat) (by show _ ≤ 3; omega)
    have hlp := rvalid_loop (hq := hp ++ [.cells 0 true [.int .i64 a, .int .i64 v, .int .i64 m, .int .i64 n], .cells 0 true (u8s [87, 80, 1])]) (L := L) (H := H) (q := hp.length) (a := some ⟨hp.length + 1, 0, some 0⟩) (e := 1) (l := [87, 80, 1].take a.toNat) (hF.mono (by simp)) (by rw [hln]; exact r1) (by rw [hln]; omega) (by simp) ([87, 80, 1].take a.toNat) 0 rfl (by omega) 0 0 0 0 (by omega)
    rw [hln] at hlp
    obtain ⟨ex, fr, z1, z2, z3, z4, nx, g1, g2⟩ := hlp
    simp only [Int.natCast_zero, List.length_append, List.length_cons, List.length_nil, Nat.zero_add, Nat.reduceAdd, List.append_assoc, List.cons_append, List.nil_append, u8s_cons, u8s_nil, Int.cast_ofNat_Int, Int.natCast_one] at g1 g2
    have h4 : ¬ a = 4 := by omega
    have h3' : ¬ a = 3 := by omega
    have b1 : 0 ≤ a ∧ a ≤ 3 := by omega
    rcases g2 with ⟨rfl, g2, g3, g4⟩ | ⟨rfl, g2, g3⟩
    · rw [g2]
      simp (disch := (first | omega | (simp only [lnE] <;> omega) | (refine Fit.mono ‹Fit _ _ _› ?_ <;> (simp only [lnE] <;> omega)) | (refine Fit.draw ‹Fit _ _ _› ?_ ?_ <;> (simp only [lnE] <;> omega)) | (refine Fit.hid1 ‹Fit _ _ _› ?_ ?_ <;> (simp only [lnE] <;> omega)) | (refine Fit.hidc1 ‹Fit _ _ _› ?_ ?_ <;> (simp only [lnE] <;> omega)) | (refine Fit.hidc2 ‹Fit _ _ _› ?_ ?_ ?_ <;> (simp only [lnE] <;> omega)) | (refine Fit.draw1 ‹Fit _ _ _› ?_ ?_ ?_ <;> (simp only [lnE] <;> omega)) | (refine Fit.range0 ?_ ?_ <;> (simp only [lnE] <;> omega)) | fail)) only [syA, syB, argFr, D, E, T, C, undefv, eqF, aeq, sheqs, sheq, rdCells, cellsOf, fill, putAt, if_true, if_false, reduceIte, ↓reduceIte, reduceCtorEq, eq_self, Nat.reduceEqDiff, Nat.reduceAdd, Nat.reduceSub, Nat.reduceMul, Nat.reduceLT, Nat.reduceLeDiff, Nat.reducePow, Nat.reduceDiv, Nat.reduceMod, Int.reduceLT, Int.reduceLE, Int.reduceGT, Int.reduceGE, Int.reduceToNat, Int.reducePow, Int.reduceNeg, Int.reduceBEq, Int.reduceBNe, Int.reduceEq, Int.reduceAdd, Int.reduceSub, Int.reduceMul, cellv, sc, flatv, refs, refsF, refsC, hF.not0, hF.not1, hF.up0, hF.up1, ac15, c1, c2, c3, c4, c5, h3, h3', h4, b1, small, g1, g3, g4]
      refine some_bool ?_
      rw [Bool.eq_iff_iff]; simp
    · rw [g2]
      simp (disch := (first | omega | (simp only [lnE] <;> omega) | (refine Fit.mono ‹Fit _ _ _› ?_ <;> (simp only [lnE] <;> omega)) | (refine Fit.draw ‹Fit _ _ _› ?_ ?_ <;> (simp only [lnE] <;> omega)) | (refine Fit.hid1 ‹Fit _ _ _› ?_ ?_ <;> (simp only [lnE] <;> omega)) | (refine Fit.hidc1 ‹Fit _ _ _› ?_ ?_ <;> (simp only [lnE] <;> omega)) | (refine Fit.hidc2 ‹Fit _ _ _› ?_ ?_ ?_ <;> (simp only [lnE] <;> omega)) | (refine Fit.draw1 ‹Fit _ _ _› ?_ ?_ ?_ <;> (simp only [lnE] <;> omega)) | (refine Fit.range0 ?_ ?_ <;> (simp only [lnE] <;> omega)) | fail)) only [syA, syB, argFr, D, E, T, C, undefv, eqF, aeq, sheqs, sheq, rdCells, cellsOf, fill, putAt, if_true, if_false, reduceIte, ↓reduceIte, reduceCtorEq, eq_self, Nat.reduceEqDiff, Nat.reduceAdd, Nat.reduceSub, Nat.reduceMul, Nat.reduceLT, Nat.reduceLeDiff, Nat.reducePow, Nat.reduceDiv, Nat.reduceMod, Int.reduceLT, Int.reduceLE, Int.reduceGT, Int.reduceGE, Int.reduceToNat, Int.reducePow, Int.reduceNeg, Int.reduceBEq, Int.reduceBNe, Int.reduceEq, Int.reduceAdd, Int.reduceSub, Int.reduceMul, cellv, sc, flatv, refs, refsF, refsC, hF.not0, hF.not1, hF.up0, hF.up1, ac15, c1, c2, c3, c4, c5, h3, h3', h4, b1, small, g1, g3]
  · obtain ⟨x, rfl⟩ : ∃ x : Nat, v = x := ⟨v.toNat, by omega⟩
    obtain ⟨N, rfl⟩ : ∃ N : Nat, n = N := ⟨n.toNat, by omega⟩
    by_cases e3 : a = 3
    · subst e3
      have hby : hBytes ⟨3, x, m, N⟩ = [87, 80, 1] ++ grp (grpN m) x := by unfold hBytes; rw [if_neg (by simp), if_pos rfl]; rfl
      rw [hby]
      have hgw := fun nw => groups_walk x (by omega) m (hp := hp ++ nw) (L := L) (H := H) (d := []) (hF.mono (by simp))
      by_cases hk : grpN m = 0
      · have hO : grpO m x = none := by unfold grpO; rw [if_pos hk]
        rw [hO] at hgw
        rw [hk]
        have r1 := Rd.whole (hp := hp ++ [.cells 0 true [.int .i64 3, .int .i64 x, .int .i64 m, .int .i64 N], .cells 0 true (u8s [87, 80, 1])]) (L := L) (H := H) (d := []) (b := hp.length + 1) (g := 0) (e := 1) (l := [87, 80, 1]) (by rw [get_new]; rfl) (hF.not1 1) (by intro x hx; simp at hx; omega) (.inr rfl)
        have hlp := rvalid_loop (hq := hp ++ [.cells 0 true [.int .i64 3, .int .i64 x, .int .i64 m, .int .i64 N], .cells 0 true (u8s [87, 80, 1])]) (L := L) (H := H) (q := hp.length) (hF.mono (by simp)) r1 (by simp) (by simp) [87, 80, 1] 0 rfl (by omega) 0 0 0 0 (by omega)
        obtain ⟨ex, fr, z1, z2, z3, z4, nx, g1, g2⟩ := hlp
        simp only [Int.natCast_zero, List.length_append, List.length_cons, List.length_nil, Nat.zero_add, Nat.reduceAdd, List.append_assoc, List.cons_append, List.nil_append, u8s_cons, u8s_nil, Int.cast_ofNat_Int, Int.natCast_one] at g1 g2
        simp only [sl_none, slB_none, List.append_nil] at hgw
        have hl0 : [87, 80, 1] ++ grp 0 x = [87, 80, 1] := rfl
        rw [hl0]
        rcases g2 with ⟨rfl, g2, g3, g4⟩ | ⟨rfl, g2, g3⟩
        · rw [g2]
          simp (disch := (first | omega | (simp only [lnE] <;> omega) | (refine Fit.mono ‹Fit _ _ _› ?_ <;> (simp only [lnE] <;> omega)) | (refine Fit.draw ‹Fit _ _ _› ?_ ?_ <;> (simp only [lnE] <;> omega)) | (refine Fit.hid1 ‹Fit _ _ _› ?_ ?_ <;> (simp only [lnE] <;> omega)) | (refine Fit.hidc1 ‹Fit _ _ _› ?_ ?_ <;> (simp only [lnE] <;> omega)) | (refine Fit.hidc2 ‹Fit _ _ _› ?_ ?_ ?_ <;> (simp only [lnE] <;> omega)) | (refine Fit.draw1 ‹Fit _ _ _› ?_ ?_ ?_ <;> (simp only [lnE] <;> omega)) | (refine Fit.range0 ?_ ?_ <;> (simp only [lnE] <;> omega)) | fail)) only [syA, syB, argFr, D, E, T, C, undefv, eqF, aeq, sheqs, sheq, rdCells, cellsOf, fill, putAt, if_true, if_false, reduceIte, ↓reduceIte, reduceCtorEq, eq_self, Nat.reduceEqDiff, Nat.reduceAdd, Nat.reduceSub, Nat.reduceMul, Nat.reduceLT, Nat.reduceLeDiff, Nat.reducePow, Nat.reduceDiv, Nat.reduceMod, Int.reduceLT, Int.reduceLE, Int.reduceGT, Int.reduceGE, Int.reduceToNat, Int.reducePow, Int.reduceNeg, Int.reduceBEq, Int.reduceBNe, Int.reduceEq, Int.reduceAdd, Int.reduceSub, Int.reduceMul, cellv, sc, flatv, refs, refsF, refsC, hF.not0, hF.not1, hF.up0, hF.up1, ac15, c1, c2, c3, c4, c5, hgw, small, append_zero, g1, g3, g4]
          refine some_bool ?_
          rw [Bool.eq_iff_iff]; simp
        · rw [g2]
          simp (disch := (first | omega | (simp only [lnE] <;> omega) | (refine Fit.mono ‹Fit _ _ _› ?_ <;> (simp only [lnE] <;> omega)) | (refine Fit.draw ‹Fit _ _ _› ?_ ?_ <;> (simp only [lnE] <;> omega)) | (refine Fit.hid1 ‹Fit _ _ _› ?_ ?_ <;> (simp only [lnE] <;> omega)) | (refine Fit.hidc1 ‹Fit _ _ _› ?_ ?_ <;> (simp only [lnE] <;> omega)) | (refine Fit.hidc2 ‹Fit _ _ _› ?_ ?_ ?_ <;> (simp only [lnE] <;> omega)) | (refine Fit.draw1 ‹Fit _ _ _› ?_ ?_ ?_ <;> (simp only [lnE] <;> omega)) | (refine Fit.range0 ?_ ?_ <;> (simp only [lnE] <;> omega)) | fail)) only [syA, syB, argFr, D, E, T, C, undefv, eqF, aeq, sheqs, sheq, rdCells, cellsOf, fill, putAt, if_true, if_false, reduceIte, ↓reduceIte, reduceCtorEq, eq_self, Nat.reduceEqDiff, Nat.reduceAdd, Nat.reduceSub, Nat.reduceMul, Nat.reduceLT, Nat.reduceLeDiff, Nat.reducePow, Nat.reduceDiv, Nat.reduceMod, Int.reduceLT, Int.reduceLE, Int.reduceGT, Int.reduceGE, Int.reduceToNat, Int.reducePow, Int.reduceNeg, Int.reduceBEq, Int.reduceBNe, Int.reduceEq, Int.reduceAdd, Int.reduceSub, Int.reduceMul, cellv, sc, flatv, refs, refsF, refsC, hF.not0, hF.not1, hF.up0, hF.up1, ac15, c1, c2, c3, c4, c5, hgw, small, append_zero, g1, g3]
      · have hO : grpO m x = some (grp (grpN m) x) := by unfold grpO; rw [if_neg hk]
        rw [hO] at hgw
        have hgl := grp_length (grpN m) x
        have hgb := grp_by (grpN m) x
        have hk5 : grpN m ≤ 5 := by unfold grpN; omega
        generalize grp (grpN m) x = gr at hgw hgl hgb ⊢
        generalize grpG (grpN m) = gG at hgw
        have a1 := append_end (hp := hp ++ [.cells 0 true [.int .i64 3, .int .i64 x, .int .i64 m, .int .i64 N], .cells 0 true (u8s [87, 80, 1]), .cells gG true (u8s gr)]) (L := L) (H := H) (d := []) (b := hp.length + 1) (g := 0) (l0 := [87, 80, 1]) (l := gr) (by rw [get_new]; rfl) (by have := hF.1; omega) (hF.not1 1) (by simp; omega)
        rw [if_neg (by intro h; rw [h] at hgl; simp at hgl; omega)] at a1
        have hbb : By ([87, 80, 1] ++ gr) := By.append (by intro x hx; simp at hx; omega) hgb
        have hll : ([87, 80, 1] ++ gr).length ≤ 60 := by simp; omega
        have htk : (u8s gr).take gr.length = u8s gr := List.take_of_length_le (by simp [u8s])
        generalize [87, 80, 1] ++ gr = bb at a1 hbb hll ⊢
        have r1 := Rd.whole (hp := hp ++ [.cells 0 true [.int .i64 3, .int .i64 x, .int .i64 m, .int .i64 N], .cells bb.length true (u8s bb), .cells gG true (u8s gr)]) (L := L) (H := H) (d := []) (b := hp.length + 1) (g := bb.length) (e := 1) (l := bb) (by rw [get_new]; rfl) (hF.not1 1) hbb (.inr rfl)
        have hlp := rvalid_loop (hq := hp ++ [.cells 0 true [.int .i64 3, .int .i64 x, .int .i64 m, .int .i64 N], .cells bb.length true (u8s bb), .cells gG true (u8s gr)]) (L := L) (H := H) (q := hp.length) (hF.mono (by simp)) r1 hll (by simp) bb 0 rfl (by omega) 0 0 0 0 (by omega)
        obtain ⟨ex, fr, z1, z2, z3, z4, nx, g1, g2⟩ := hlp
        simp only [Int.natCast_zero, List.length_append, List.length_cons, List.length_nil, Nat.zero_add, Nat.reduceAdd, List.append_assoc, List.cons_append, List.nil_append, u8s_cons, u8s_nil, Int.cast_ofNat_Int, Int.natCast_one, set_new, List.set_cons_succ, List.set_cons_zero] at g1 g2 a1
        simp only [sl_some, slB_some] at hgw
        rcases g2 with ⟨rfl, g2, g3, g4⟩ | ⟨rfl, g2, g3⟩
        · rw [g2]
          simp (disch := (first | omega | (simp only [lnE] <;> omega) | (refine Fit.mono ‹Fit _ _ _› ?_ <;> (simp only [lnE] <;> omega)) | (refine Fit.draw ‹Fit _ _ _› ?_ ?_ <;> (simp only [lnE] <;> omega)) | (refine Fit.hid1 ‹Fit _ _ _› ?_ ?_ <;> (simp only [lnE] <;> omega)) | (refine Fit.hidc1 ‹Fit _ _ _› ?_ ?_ <;> (simp only [lnE] <;> omega)) | (refine Fit.hidc2 ‹Fit _ _ _› ?_ ?_ ?_ <;> (simp only [lnE] <;> omega)) | (refine Fit.draw1 ‹Fit _ _ _› ?_ ?_ ?_ <;> (simp only [lnE] <;> omega)) | (refine Fit.range0 ?_ ?_ <;> (simp only [lnE] <;> omega)) | fail)) only [syA, syB, argFr, D, E, T, C, undefv, eqF, aeq, sheqs, sheq, rdCells, cellsOf, fill, putAt, if_true, if_false, reduceIte, ↓reduceIte, reduceCtorEq, eq_self, Nat.reduceEqDiff, Nat.reduceAdd, Nat.reduceSub, Nat.reduceMul, Nat.reduceLT, Nat.reduceLeDiff, Nat.reducePow, Nat.reduceDiv, Nat.reduceMod, Int.reduceLT, Int.reduceLE, Int.reduceGT, Int.reduceGE, Int.reduceToNat, Int.reducePow, Int.reduceNeg, Int.reduceBEq, Int.reduceBNe, Int.reduceEq, Int.reduceAdd, Int.reduceSub, Int.reduceMul, cellv, sc, flatv, refs, refsF, refsC, hF.not0, hF.not1, hF.up0, hF.up1, ac15, c1, c2, c3, c4, c5, hgw, small, a1, htk, g1, g3, g4]
          refine some_bool ?_
          rw [Bool.eq_iff_iff]; simp
        · rw [g2]
          simp (disch := (first | omega | (simp only [lnE] <;> omega) | (refine Fit.mono ‹Fit _ _ _› ?_ <;> (simp only [lnE] <;> omega)) | (refine Fit.draw ‹Fit _ _ _› ?_ ?_ <;> (simp only [lnE] <;> omega)) | (refine Fit.hid1 ‹Fit _ _ _› ?_ ?_ <;> (simp only [lnE] <;> omega)) | (refine Fit.hidc1 ‹Fit _ _ _› ?_ ?_ <;> (simp only [lnE] <;> omega)) | (refine Fit.hidc2 ‹Fit _ _ _› ?_ ?_ ?_ <;> (simp only [lnE] <;> omega)) | (refine Fit.draw1 ‹Fit _ _ _› ?_ ?_ ?_ <;> (simp only [lnE] <;> omega)) | (refine Fit.range0 ?_ ?_ <;> (simp only [lnE] <;> omega)) | fail)) only [syA, syB, argFr, D, E, T, C, undefv, eqF, aeq, sheqs, sheq, rdCells, cellsOf, fill, putAt, if_true, if_false, reduceIte, ↓reduceIte, reduceCtorEq, eq_self, Nat.reduceEqDiff, Nat.reduceAdd, Nat.reduceSub, Nat.reduceMul, Nat.reduceLT, Nat.reduceLeDiff, Nat.reducePow, Nat.reduceDiv, Nat.reduceMod, Int.reduceLT, Int.reduceLE, Int.reduceGT, Int.reduceGE, Int.reduceToNat, Int.reducePow, Int.reduceNeg, Int.reduceBEq, Int.reduceBNe, Int.reduceEq, Int.reduceAdd, Int.reduceSub, Int.reduceMul, cellv, sc, flatv, refs, refsF, refsC, hF.not0, hF.not1, hF.up0, hF.up1, ac15, c1, c2, c3, c4, c5, hgw, small, a1, htk, g1, g3]
    · obtain rfl : a = 4 := by omega
      have hby : hBytes ⟨4, x, m, N⟩ = [87, 80, 1] ++ enc N := by unfold hBytes; rw [if_neg (by simp), if_neg (by simp)]; rfl
      rw [hby]
      have hgw := fun nw => refPut_walk (hp := hp ++ nw) (L := L) (H := H) (d := []) (hF.mono (by simp)) N (by omega)
      have hgl := enc_len_le N (by omega)
      have hgb := enc_by N
      have hgn := enc_ne N
      generalize enc N = gr at hgw hgl hgb hgn ⊢
      generalize pg N = gG at hgw
      have a1 := append_end (hp := hp ++ [.cells 0 true [.int .i64 4, .int .i64 x, .int .i64 m, .int .i64 N], .cells 0 true (u8s [87, 80, 1]), .cells gG true (u8s gr)]) (L := L) (H := H) (d := []) (b := hp.length + 1) (g := 0) (l0 := [87, 80, 1]) (l := gr) (by rw [get_new]; rfl) (by have := hF.1; omega) (hF.not1 1) (by simp; omega)
      rw [if_neg hgn] at a1
      have hbb : By ([87, 80, 1] ++ gr) := By.append (by intro x hx; simp at hx; omega) hgb
      have hll : ([87, 80, 1] ++ gr).length ≤ 60 := by simp; omega
      have htk : (u8s gr).take gr.length = u8s gr := List.take_of_length_le (by simp [u8s])
      generalize [87, 80, 1] ++ gr = bb at a1 hbb hll ⊢
      have r1 := Rd.whole (hp := hp ++ [.cells 0 true [.int .i64 4, .int .i64 x, .int .i64 m, .int .i64 N], .cells bb.length true (u8s bb), .cells gG true (u8s gr)]) (L := L) (H := H) (d := []) (b := hp.length + 1) (g := bb.length) (e := 1) (l := bb) (by rw [get_new]; rfl) (hF.not1 1) hbb (.inr rfl)
      have hlp := rvalid_loop (hq := hp ++ [.cells 0 true [.int .i64 4, .int .i64 x, .int .i64 m, .int .i64 N], .cells bb.length true (u8s bb), .cells gG true (u8s gr)]) (L := L) (H := H) (q := hp.length) (hF.mono (by simp)) r1 hll (by simp) bb 0 rfl (by omega) 0 0 0 0 (by omega)
      obtain ⟨ex, fr, z1, z2, z3, z4, nx, g1, g2⟩ := hlp
      simp only [Int.natCast_zero, List.length_append, List.length_cons, List.length_nil, Nat.zero_add, Nat.reduceAdd, List.append_assoc, List.cons_append, List.nil_append, u8s_cons, u8s_nil, Int.cast_ofNat_Int, Int.natCast_one, set_new, List.set_cons_succ, List.set_cons_zero] at g1 g2 a1
      simp only [sl_some, slB_some] at hgw
      rcases g2 with ⟨rfl, g2, g3, g4⟩ | ⟨rfl, g2, g3⟩
      · rw [g2]
        simp (disch := (first | omega | (simp only [lnE] <;> omega) | (refine Fit.mono ‹Fit _ _ _› ?_ <;> (simp only [lnE] <;> omega)) | (refine Fit.draw ‹Fit _ _ _› ?_ ?_ <;> (simp only [lnE] <;> omega)) | (refine Fit.hid1 ‹Fit _ _ _› ?_ ?_ <;> (simp only [lnE] <;> omega)) | (refine Fit.hidc1 ‹Fit _ _ _› ?_ ?_ <;> (simp only [lnE] <;> omega)) | (refine Fit.hidc2 ‹Fit _ _ _› ?_ ?_ ?_ <;> (simp only [lnE] <;> omega)) | (refine Fit.draw1 ‹Fit _ _ _› ?_ ?_ ?_ <;> (simp only [lnE] <;> omega)) | (refine Fit.range0 ?_ ?_ <;> (simp only [lnE] <;> omega)) | fail)) only [syA, syB, argFr, D, E, T, C, undefv, eqF, aeq, sheqs, sheq, rdCells, cellsOf, fill, putAt, if_true, if_false, reduceIte, ↓reduceIte, reduceCtorEq, eq_self, Nat.reduceEqDiff, Nat.reduceAdd, Nat.reduceSub, Nat.reduceMul, Nat.reduceLT, Nat.reduceLeDiff, Nat.reducePow, Nat.reduceDiv, Nat.reduceMod, Int.reduceLT, Int.reduceLE, Int.reduceGT, Int.reduceGE, Int.reduceToNat, Int.reducePow, Int.reduceNeg, Int.reduceBEq, Int.reduceBNe, Int.reduceEq, Int.reduceAdd, Int.reduceSub, Int.reduceMul, cellv, sc, flatv, refs, refsF, refsC, hF.not0, hF.not1, hF.up0, hF.up1, ac15, c1, c2, c3, c4, c5, hgw, small, a1, htk, g1, g3, g4]
        refine some_bool ?_
        rw [Bool.eq_iff_iff]; simp
      · rw [g2]
        simp (disch := (first | omega | (simp only [lnE] <;> omega) | (refine Fit.mono ‹Fit _ _ _› ?_ <;> (simp only [lnE] <;> omega)) | (refine Fit.draw ‹Fit _ _ _› ?_ ?_ <;> (simp only [lnE] <;> omega)) | (refine Fit.hid1 ‹Fit _ _ _› ?_ ?_ <;> (simp only [lnE] <;> omega)) | (refine Fit.hidc1 ‹Fit _ _ _› ?_ ?_ <;> (simp only [lnE] <;> omega)) | (refine Fit.hidc2 ‹Fit _ _ _› ?_ ?_ ?_ <;> (simp only [lnE] <;> omega)) | (refine Fit.draw1 ‹Fit _ _ _› ?_ ?_ ?_ <;> (simp only [lnE] <;> omega)) | (refine Fit.range0 ?_ ?_ <;> (simp only [lnE] <;> omega)) | fail)) only [syA, syB, argFr, D, E, T, C, undefv, eqF, aeq, sheqs, sheq, rdCells, cellsOf, fill, putAt, if_true, if_false, reduceIte, ↓reduceIte, reduceCtorEq, eq_self, Nat.reduceEqDiff, Nat.reduceAdd, Nat.reduceSub, Nat.reduceMul, Nat.reduceLT, Nat.reduceLeDiff, Nat.reducePow, Nat.reduceDiv, Nat.reduceMod, Int.reduceLT, Int.reduceLE, Int.reduceGT, Int.reduceGE, Int.reduceToNat, Int.reducePow, Int.reduceNeg, Int.reduceBEq, Int.reduceBNe, Int.reduceEq, Int.reduceAdd, Int.reduceSub, Int.reduceMul, cellv, sc, flatv, refs, refsF, refsC, hF.not0, hF.not1, hF.up0, hF.up1, ac15, c1, c2, c3, c4, c5, hgw, small, a1, htk, g1, g3]
end VarA
end Go.Proofs.Ytpjjkmfidghkjaa
