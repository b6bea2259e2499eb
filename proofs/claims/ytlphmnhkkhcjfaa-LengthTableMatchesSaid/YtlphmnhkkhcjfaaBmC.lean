/-
  THE BIT WRITER's reference: Bytes. Conditions: none.
-/
import Derived.Test.YtlphmnhkkhcjfaaBmB
set_option linter.all false
section
namespace Go.Proofs.Ytlphmnhkkhcjfaa
namespace Bt
open Go Go.RowKit AM ArEnv
variable {hp : List Blk} {L : Nat} {H : List Nat} {s : Nat} {l : List Nat}

def gv (l : List Nat) (p : Nat) : Nat → Nat
  | 0 => 0
  | j + 1 => 2 * gv l p j + g l (p + j)
theorem gv_lt (h : Bits l) (p : Nat) : ∀ j, gv l p j < 2 ^ j
  | 0 => by simp [gv]
  | j + 1 => by
    have := gv_lt h p j
    have := g_lt h (p + j)
    rw [gv, Nat.pow_succ]; omega
theorem gv_byt (l : List Nat) (i : Nat) : gv l (8 * i) 8 = byt l i := by
  simp only [gv, byt, Nat.add_zero]; omega
theorem bytsN_succ (l : List Nat) (i : Nat) : bytsN l (i + 1) = bytsN l i ++ [byt l i] := by simp [bytsN, List.range_succ]
theorem inner_loop {hq : List Blk} {out : Value} {base p : Nat} (hb : Bits l) (h0 : l.length ≠ 0) (hs : hq[s]? = some (.cells l.length true (is l))) (hsH : H.contains s = false) (hl : l.length ≤ 100000) (hp8 : p ≤ 100000) (hbase : hq.length ≤ base) : ∀ (n j : Nat), j + n = 8 →
    ∃ fr, Liter env lb25_0 [5, 6, 4, 3, 0] base [(5, .int .i64 (gv l p j : Nat)), (6, .int .i64 (p + j : Nat)), (4, .int .i64 p), (3, out), (0, .slice (some ⟨s, 0, some l.length⟩) l.length 1)] ⟨hq, L, H, []⟩
      = some (.exit 2, fr, ⟨hq, L, H, []⟩) ∧ fr.get 5 = some (.int .i64 (gv l p 8 : Nat)) ∧ fr.get 4 = some (.int .i64 p) ∧ fr.get 3 = some out ∧ fr.get 0 = some (.slice (some ⟨s, 0, some l.length⟩) l.length 1)
  | 0, j, e => by
    obtain rfl : j = 8 := by omega
    have h1 : ¬ ((p + 8 : Nat) : Int) < (p : Int) + 8 := by omega
    rw [iter_by lb25_0.eq_1]
    simp (disch := (first | omega | (simp only [lnE] <;> omega) | (refine Fit.mono ‹Fit _ _ _› ?_ <;> (simp only [lnE] <;> omega)) | (refine Fit.draw ‹Fit _ _ _› ?_ ?_ <;> (simp only [lnE] <;> omega)) | (refine Fit.hid1 ‹Fit _ _ _› ?_ ?_ <;> (simp only [lnE] <;> omega)) | (refine Fit.hidc1 ‹Fit _ _ _› ?_ ?_ <;> (simp only [lnE] <;> omega)) | (refine Fit.hidc2 ‹Fit _ _ _› ?_ ?_ ?_ <;> (simp only [lnE] <;> omega)) | (refine Fit.draw1 ‹Fit _ _ _› ?_ ?_ ?_ <;> (simp only [lnE] <;> omega)) | (refine Fit.range0 ?_ ?_ <;> (simp only [lnE] <;> omega)) | fail)) only [syA, syB, argFr, D, E, T, C, undefv, eqF, aeq, sheqs, sheq, rdCells, cellsOf, fill, putAt, if_true, if_false, reduceIte, ↓reduceIte, reduceCtorEq, eq_self, Nat.reduceEqDiff, Nat.reduceAdd, Nat.reduceSub, Nat.reduceMul, Nat.reduceLT, Nat.reduceLeDiff, Nat.reducePow, Nat.reduceDiv, Nat.reduceMod, Int.reduceLT, Int.reduceLE, Int.reduceGT, Int.reduceGE, Int.reduceToNat, Int.reducePow, Int.reduceNeg, Int.reduceBEq, Int.reduceBNe, Int.reduceEq, Int.reduceAdd, Int.reduceSub, Int.reduceMul, cellv, sc, flatv, refs, refsF, refsC, h1]
    exact ⟨_, rfl, rfl, rfl, rfl, rfl⟩
  | n + 1, j, e => by
    obtain ⟨fr, ih, h1, h2, h3, h4⟩ := inner_loop (out := out) hb h0 hs hsH hl hp8 hbase n (j + 1) (by omega)
    refine ⟨fr, ?_, h1, h2, h3, h4⟩
    have hlt : ((p + j : Nat) : Int) < (p : Int) + 8 := by omega
    have hv := gv_lt hb p j
    have hpw : 2 ^ j ≤ 2 ^ 7 := Nat.pow_le_pow_right (by decide) (by omega)
    have hg := g_lt hb (p + j)
    have hgs : gv l p (j + 1) = 2 * gv l p j + g l (p + j) := rfl
    rw [hgs] at ih
    rw [show p + (j + 1) = p + j + 1 by omega] at ih
    simp only [Int.natCast_add, Int.natCast_one, Int.natCast_mul, Int.cast_ofNat_Int] at ih hlt ⊢
    rw [iter_by lb25_0.eq_1]
    by_cases c : p + j < l.length
    · have hc : (p : Int) + (j : Int) < (l.length : Nat) := by omega
      have hc0 : (0 : Int) ≤ (p : Int) + (j : Int) := by omega
      have ht : ((p : Int) + (j : Int)).toNat = p + j := by omega
      have hr : (is l)[p + j]? = some (.int .i64 (g l (p + j) : Nat)) := by simp [is, c, g_in c]
      generalize gv l p j = x at *
      generalize g l (p + j) = y at *
      simp (disch := (first | omega | (simp only [lnE] <;> omega) | (refine Fit.mono ‹Fit _ _ _› ?_ <;> (simp only [lnE] <;> omega)) | (refine Fit.draw ‹Fit _ _ _› ?_ ?_ <;> (simp only [lnE] <;> omega)) | (refine Fit.hid1 ‹Fit _ _ _› ?_ ?_ <;> (simp only [lnE] <;> omega)) | (refine Fit.hidc1 ‹Fit _ _ _› ?_ ?_ <;> (simp only [lnE] <;> omega)) | (refine Fit.hidc2 ‹Fit _ _ _› ?_ ?_ ?_ <;> (simp only [lnE] <;> omega)) | (refine Fit.draw1 ‹Fit _ _ _› ?_ ?_ ?_ <;> (simp only [lnE] <;> omega)) | (refine Fit.range0 ?_ ?_ <;> (simp only [lnE] <;> omega)) | fail)) only [syA, syB, argFr, D, E, T, C, undefv, eqF, aeq, sheqs, sheq, rdCells, cellsOf, fill, putAt, if_true, if_false, reduceIte, ↓reduceIte, reduceCtorEq, eq_self, Nat.reduceEqDiff, Nat.reduceAdd, Nat.reduceSub, Nat.reduceMul, Nat.reduceLT, Nat.reduceLeDiff, Nat.reducePow, Nat.reduceDiv, Nat.reduceMod, Int.reduceLT, Int.reduceLE, Int.reduceGT, Int.reduceGE, Int.reduceToNat, Int.reducePow, Int.reduceNeg, Int.reduceBEq, Int.reduceBNe, Int.reduceEq, Int.reduceAdd, Int.reduceSub, Int.reduceMul, cellv, sc, flatv, refs, refsF, refsC, hlt, hc, hc0, ht, hs, hsH, hr]
      exact ih
    · have hc : ¬ (p : Int) + (j : Int) < (l.length : Nat) := by omega
      have hr := g_out (l := l) (p := p + j) (by omega)
      rw [hr] at ih
      generalize gv l p j = x at *
      simp only [Int.natCast_zero, Int.add_zero] at ih
      simp (disch := (first | omega | (simp only [lnE] <;> omega) | (refine Fit.mono ‹Fit _ _ _› ?_ <;> (simp only [lnE] <;> omega)) | (refine Fit.draw ‹Fit _ _ _› ?_ ?_ <;> (simp only [lnE] <;> omega)) | (refine Fit.hid1 ‹Fit _ _ _› ?_ ?_ <;> (simp only [lnE] <;> omega)) | (refine Fit.hidc1 ‹Fit _ _ _› ?_ ?_ <;> (simp only [lnE] <;> omega)) | (refine Fit.hidc2 ‹Fit _ _ _› ?_ ?_ ?_ <;> (simp only [lnE] <;> omega)) | (refine Fit.draw1 ‹Fit _ _ _› ?_ ?_ ?_ <;> (simp only [lnE] <;> omega)) | (refine Fit.range0 ?_ ?_ <;> (simp only [lnE] <;> omega)) | fail)) only [syA, syB, argFr, D, E, T, C, undefv, eqF, aeq, sheqs, sheq, rdCells, cellsOf, fill, putAt, if_true, if_false, reduceIte, ↓reduceIte, reduceCtorEq, eq_self, Nat.reduceEqDiff, Nat.reduceAdd, Nat.reduceSub, Nat.reduceMul, Nat.reduceLT, Nat.reduceLeDiff, Nat.reducePow, Nat.reduceDiv, Nat.reduceMod, Int.reduceLT, Int.reduceLE, Int.reduceGT, Int.reduceGE, Int.reduceToNat, Int.reducePow, Int.reduceNeg, Int.reduceBEq, Int.reduceBNe, Int.reduceEq, Int.reduceAdd, Int.reduceSub, Int.reduceMul, cellv, sc, flatv, refs, refsF, refsC, hlt, hc]
      exact ih
def oN (l : List Nat) (i : Nat) : Option (List Nat) := if i = 0 then none else some (bytsN l i)
theorem refbytes_loop (hb : Bits l) (h0 : l.length ≠ 0) (hs : hp[s]? = some (.cells l.length true (is l))) (hsH : H.contains s = false) (hl : l.length ≤ 20000) (hF : Fit hp.length L H) : ∀ (n i : Nat), i + n = nb l →
    ∃ fr, Liter env lb25_1 [4, 3, 0] hp.length [(4, .int .i64 (8 * i : Nat)), (3, sl hp.length i (oN l i)), (0, .slice (some ⟨s, 0, some l.length⟩) l.length 1)] ⟨hp ++ slB i (oN l i), L, H, []⟩
      = some (.exit 0, fr, ⟨hp ++ slB (nb l) (oN l (nb l)), L, H, []⟩) ∧ fr.get 3 = some (sl hp.length (nb l) (oN l (nb l)))
  | 0, i, e => by
    obtain rfl : i = nb l := by omega
    have h1 : ¬ ((8 * nb l : Nat) : Int) < (l.length : Nat) := by unfold nb; omega
    rw [iter_by lb25_1.eq_1]
    simp (disch := (first | omega | (simp only [lnE] <;> omega) | (refine Fit.mono ‹Fit _ _ _› ?_ <;> (simp only [lnE] <;> omega)) | (refine Fit.draw ‹Fit _ _ _› ?_ ?_ <;> (simp only [lnE] <;> omega)) | (refine Fit.hid1 ‹Fit _ _ _› ?_ ?_ <;> (simp only [lnE] <;> omega)) | (refine Fit.hidc1 ‹Fit _ _ _› ?_ ?_ <;> (simp only [lnE] <;> omega)) | (refine Fit.hidc2 ‹Fit _ _ _› ?_ ?_ ?_ <;> (simp only [lnE] <;> omega)) | (refine Fit.draw1 ‹Fit _ _ _› ?_ ?_ ?_ <;> (simp only [lnE] <;> omega)) | (refine Fit.range0 ?_ ?_ <;> (simp only [lnE] <;> omega)) | fail)) only [syA, syB, argFr, D, E, T, C, undefv, eqF, aeq, sheqs, sheq, rdCells, cellsOf, fill, putAt, if_true, if_false, reduceIte, ↓reduceIte, reduceCtorEq, eq_self, Nat.reduceEqDiff, Nat.reduceAdd, Nat.reduceSub, Nat.reduceMul, Nat.reduceLT, Nat.reduceLeDiff, Nat.reducePow, Nat.reduceDiv, Nat.reduceMod, Int.reduceLT, Int.reduceLE, Int.reduceGT, Int.reduceGE, Int.reduceToNat, Int.reducePow, Int.reduceNeg, Int.reduceBEq, Int.reduceBNe, Int.reduceEq, Int.reduceAdd, Int.reduceSub, Int.reduceMul, cellv, sc, flatv, refs, refsF, refsC, h1]
    exact ⟨_, rfl, rfl⟩
  | n + 1, i, e => by
    have hsl := (List.getElem?_eq_some_iff.1 hs).1
    have h1 : ((8 * i : Nat) : Int) < (l.length : Nat) := by unfold nb at e; omega
    obtain ⟨fr, ih, h3⟩ := refbytes_loop hb h0 hs hsH hl hF n (i + 1) (by omega)
    refine ⟨fr, ?_, h3⟩
    have e3 : oN l (i + 1) = some (bytsN l (i + 1)) := if_neg (by omega)
    have hby := byt_lt hb i
    have hbl : (bytsN l (i + 1)).length = i + 1 := bytsN_length ..
    rw [e3, sl_some, slB_some, hbl, show 8 * (i + 1) = 8 * i + 8 by omega] at ih
    simp only [Int.natCast_add, Int.cast_ofNat_Int] at ih
    have hgb := gv_byt l i
    have hcv : IntKind.u8.wrap ((byt l i : Nat) : Int) = (byt l i : Nat) := wu8 (by omega) (by omega)
    rw [iter_by lb25_1.eq_1]
    by_cases hi0 : i = 0
    · subst hi0
      have e1 : oN l 0 = none := rfl
      rw [e1, sl_none, slB_none, List.append_nil]
      obtain ⟨fr2, j1, j2, j3, j4, j5⟩ := inner_loop (L := L) (p := 8 * 0) (out := .slice none 0 0) (base := hp.length) hb h0 hs hsH (by omega) (by omega) (Nat.le_refl _) 8 0 rfl
      rw [hgb] at j2
      rw [show gv l (8 * 0) 0 = 0 from rfl] at j1
      simp only [Nat.mul_zero, Nat.add_zero, Int.natCast_zero, Int.zero_add] at *
      have hbs : bytsN l 1 = [byt l 0] := rfl
      have happ := append_nil1 (hp := hp ++ [.cells 0 true (u8s [byt l 0])]) (L := L) (H := H) (d := []) (l := [byt l 0]) (by simp) (by simp)
      simp only [List.length_append, List.length_cons, List.length_nil, Nat.zero_add, List.append_assoc, List.cons_append, List.nil_append, u8s, List.map_cons, List.map_nil] at happ
      rw [hbs] at ih
      simp (disch := (first | omega | (simp only [lnE] <;> omega) | (refine Fit.mono ‹Fit _ _ _› ?_ <;> (simp only [lnE] <;> omega)) | (refine Fit.draw ‹Fit _ _ _› ?_ ?_ <;> (simp only [lnE] <;> omega)) | (refine Fit.hid1 ‹Fit _ _ _› ?_ ?_ <;> (simp only [lnE] <;> omega)) | (refine Fit.hidc1 ‹Fit _ _ _› ?_ ?_ <;> (simp only [lnE] <;> omega)) | (refine Fit.hidc2 ‹Fit _ _ _› ?_ ?_ ?_ <;> (simp only [lnE] <;> omega)) | (refine Fit.draw1 ‹Fit _ _ _› ?_ ?_ ?_ <;> (simp only [lnE] <;> omega)) | (refine Fit.range0 ?_ ?_ <;> (simp only [lnE] <;> omega)) | fail)) only [syA, syB, argFr, D, E, T, C, undefv, eqF, aeq, sheqs, sheq, rdCells, cellsOf, fill, putAt, if_true, if_false, reduceIte, ↓reduceIte, reduceCtorEq, eq_self, Nat.reduceEqDiff, Nat.reduceAdd, Nat.reduceSub, Nat.reduceMul, Nat.reduceLT, Nat.reduceLeDiff, Nat.reducePow, Nat.reduceDiv, Nat.reduceMod, Int.reduceLT, Int.reduceLE, Int.reduceGT, Int.reduceGE, Int.reduceToNat, Int.reducePow, Int.reduceNeg, Int.reduceBEq, Int.reduceBNe, Int.reduceEq, Int.reduceAdd, Int.reduceSub, Int.reduceMul, cellv, sc, flatv, refs, refsF, refsC, hF.not0, hF.not1, hF.up0, hF.up1, h1, j1, j2, j3, j4, j5, hcv, sm1, happ]
      rw [gcFr_one 1 (g := 1) (cs := u8s [byt l 0]) rfl (by
        intro p hp' r hr
        simp only [List.mem_cons, List.not_mem_nil, or_false] at hp'
        rcases hp' with rfl | rfl | rfl
        · simp [AM.refs, refsF, refsC] at hr
        · simp [AM.refs, refsF, refsC] at hr; exact .inr hr
        · simp [AM.refs, refsF, refsC] at hr; subst hr; exact .inl hsl) ⟨_, List.mem_cons_of_mem _ List.mem_cons_self, by simp [AM.refs, refsF, refsC]⟩]
      simp only [List.map_cons, List.map_nil, rn_slice, rn_int, one_new, one_old hsl, againX_some]
      exact ih
    · have e1 : oN l i = some (bytsN l i) := if_neg hi0
      have hbi : (bytsN l i).length = i := bytsN_length ..
      rw [e1, sl_some, slB_some, hbi]
      have hs2 : (hp ++ [Blk.cells i true (u8s (bytsN l i))])[s]? = some (.cells l.length true (is l)) := by rw [List.getElem?_append_left hsl, hs]
      obtain ⟨fr2, j1, j2, j3, j4, j5⟩ := inner_loop (L := L) (p := 8 * i) (out := .slice (some ⟨hp.length, 0, some i⟩) i 1) (base := hp.length + 1) hb h0 hs2 hsH (by omega) (by omega) (by simp) 8 0 rfl
      rw [hgb] at j2
      rw [show gv l (8 * i) 0 = 0 from rfl] at j1
      simp only [Nat.add_zero, Int.natCast_zero] at j1
      have happ := append_full (hp := hp ++ [.cells i true (u8s (bytsN l i)), .cells 0 true (u8s [byt l i])]) (L := L) (H := H) (d := []) (b := hp.length) (l0 := bytsN l i) (l := [byt l i]) (by rw [get_new0, hbi]) hF.1 hF.not0 (by rw [hbi]; simp; unfold nb at e; omega)
      rw [← bytsN_succ, hbl, hbi, set_new0] at happ
      simp only [List.length_cons, List.length_nil, Nat.zero_add, u8s, List.map_cons, List.map_nil] at happ
      simp only [u8s] at j1 ⊢
      simp (disch := (first | omega | (simp only [lnE] <;> omega) | (refine Fit.mono ‹Fit _ _ _› ?_ <;> (simp only [lnE] <;> omega)) | (refine Fit.draw ‹Fit _ _ _› ?_ ?_ <;> (simp only [lnE] <;> omega)) | (refine Fit.hid1 ‹Fit _ _ _› ?_ ?_ <;> (simp only [lnE] <;> omega)) | (refine Fit.hidc1 ‹Fit _ _ _› ?_ ?_ <;> (simp only [lnE] <;> omega)) | (refine Fit.hidc2 ‹Fit _ _ _› ?_ ?_ ?_ <;> (simp only [lnE] <;> omega)) | (refine Fit.draw1 ‹Fit _ _ _› ?_ ?_ ?_ <;> (simp only [lnE] <;> omega)) | (refine Fit.range0 ?_ ?_ <;> (simp only [lnE] <;> omega)) | fail)) only [syA, syB, argFr, D, E, T, C, undefv, eqF, aeq, sheqs, sheq, rdCells, cellsOf, fill, putAt, if_true, if_false, reduceIte, ↓reduceIte, reduceCtorEq, eq_self, Nat.reduceEqDiff, Nat.reduceAdd, Nat.reduceSub, Nat.reduceMul, Nat.reduceLT, Nat.reduceLeDiff, Nat.reducePow, Nat.reduceDiv, Nat.reduceMod, Int.reduceLT, Int.reduceLE, Int.reduceGT, Int.reduceGE, Int.reduceToNat, Int.reducePow, Int.reduceNeg, Int.reduceBEq, Int.reduceBNe, Int.reduceEq, Int.reduceAdd, Int.reduceSub, Int.reduceMul, cellv, sc, flatv, refs, refsF, refsC, hF.not0, hF.not1, hF.up0, hF.up1, h1, j1, j2, j3, j4, j5, hcv, sm1, happ]
      rw [gcFr_one 0 (g := i + 1) (cs := u8s (bytsN l (i + 1))) rfl (by
        intro p hp' r hr
        simp only [List.mem_cons, List.not_mem_nil, or_false] at hp'
        rcases hp' with rfl | rfl | rfl
        · simp [AM.refs, refsF, refsC] at hr
        · simp [AM.refs, refsF, refsC] at hr; exact .inr hr
        · simp [AM.refs, refsF, refsC] at hr; subst hr; exact .inl hsl) ⟨_, List.mem_cons_of_mem _ List.mem_cons_self, by simp [AM.refs, refsF, refsC]⟩]
      simp only [List.map_cons, List.map_nil, rn_slice, rn_int, Nat.add_zero, one_new0, one_old hsl, againX_some]
      exact ih
/-- Bytes gives what the writer's Bytes gives. -/
theorem refbytes_walk (hb : Bits l) (hs : l.length ≠ 0 → hp[s]? = some (Ib l)) (hsH : l.length ≠ 0 → H.contains s = false) (hl : l.length ≤ 20000) (hF : Fit hp.length L H) (d : List Nat) :
    Lrun env (.func 25) [slI s l] ⟨hp, L, H, d⟩ = some (sl hp.length (nb l) (ob l), ⟨hp ++ slB (nb l) (ob l), L, H, d⟩) := by
  rw [Lrun_sym 25 _ _ fn25]
  by_cases h0 : l.length = 0
  · have e1 : slI s l = .slice none 0 0 := if_pos h0
    have e2 : ob l = none := if_pos h0
    rw [e1, e2, sl_none, slB_none, List.append_nil]
    have it := iter_by (env := env) lb25_1.eq_1
    simp (disch := (first | omega | (simp only [lnE] <;> omega) | (refine Fit.mono ‹Fit _ _ _› ?_ <;> (simp only [lnE] <;> omega)) | (refine Fit.draw ‹Fit _ _ _› ?_ ?_ <;> (simp only [lnE] <;> omega)) | (refine Fit.hid1 ‹Fit _ _ _› ?_ ?_ <;> (simp only [lnE] <;> omega)) | (refine Fit.hidc1 ‹Fit _ _ _› ?_ ?_ <;> (simp only [lnE] <;> omega)) | (refine Fit.hidc2 ‹Fit _ _ _› ?_ ?_ ?_ <;> (simp only [lnE] <;> omega)) | (refine Fit.draw1 ‹Fit _ _ _› ?_ ?_ ?_ <;> (simp only [lnE] <;> omega)) | (refine Fit.range0 ?_ ?_ <;> (simp only [lnE] <;> omega)) | fail)) only [syA, syB, argFr, D, E, T, C, undefv, eqF, aeq, sheqs, sheq, rdCells, cellsOf, fill, putAt, if_true, if_false, reduceIte, ↓reduceIte, reduceCtorEq, eq_self, Nat.reduceEqDiff, Nat.reduceAdd, Nat.reduceSub, Nat.reduceMul, Nat.reduceLT, Nat.reduceLeDiff, Nat.reducePow, Nat.reduceDiv, Nat.reduceMod, Int.reduceLT, Int.reduceLE, Int.reduceGT, Int.reduceGE, Int.reduceToNat, Int.reducePow, Int.reduceNeg, Int.reduceBEq, Int.reduceBNe, Int.reduceEq, Int.reduceAdd, Int.reduceSub, Int.reduceMul, cellv, sc, flatv, refs, refsF, refsC, hF.not0, hF.not1, hF.up0, hF.up1, ac25, it, Int.natCast_zero]
  · have e1 : slI s l = .slice (some ⟨s, 0, some l.length⟩) l.length 1 := if_neg h0
    have e2 : ob l = some (byts l) := if_neg h0
    obtain ⟨fr, h1, h2⟩ := refbytes_loop hb h0 (hs h0) (hsH h0) hl hF (nb l) 0 (by omega)
    have e3 : oN l (nb l) = some (byts l) := if_neg (nb_pos h0)
    have e4 : oN l 0 = none := rfl
    rw [e3, e4, sl_none, slB_none, List.append_nil, slB_some] at h1
    rw [e3, sl_some] at h2
    rw [e1, e2, sl_some, slB_some]
    simp only [Nat.mul_zero, Int.natCast_zero] at h1
    simp (disch := (first | omega | (simp only [lnE] <;> omega) | (refine Fit.mono ‹Fit _ _ _› ?_ <;> (simp only [lnE] <;> omega)) | (refine Fit.draw ‹Fit _ _ _› ?_ ?_ <;> (simp only [lnE] <;> omega)) | (refine Fit.hid1 ‹Fit _ _ _› ?_ ?_ <;> (simp only [lnE] <;> omega)) | (refine Fit.hidc1 ‹Fit _ _ _› ?_ ?_ <;> (simp only [lnE] <;> omega)) | (refine Fit.hidc2 ‹Fit _ _ _› ?_ ?_ ?_ <;> (simp only [lnE] <;> omega)) | (refine Fit.draw1 ‹Fit _ _ _› ?_ ?_ ?_ <;> (simp only [lnE] <;> omega)) | (refine Fit.range0 ?_ ?_ <;> (simp only [lnE] <;> omega)) | fail)) only [syA, syB, argFr, D, E, T, C, undefv, eqF, aeq, sheqs, sheq, rdCells, cellsOf, fill, putAt, if_true, if_false, reduceIte, ↓reduceIte, reduceCtorEq, eq_self, Nat.reduceEqDiff, Nat.reduceAdd, Nat.reduceSub, Nat.reduceMul, Nat.reduceLT, Nat.reduceLeDiff, Nat.reducePow, Nat.reduceDiv, Nat.reduceMod, Int.reduceLT, Int.reduceLE, Int.reduceGT, Int.reduceGE, Int.reduceToNat, Int.reducePow, Int.reduceNeg, Int.reduceBEq, Int.reduceBNe, Int.reduceEq, Int.reduceAdd, Int.reduceSub, Int.reduceMul, cellv, sc, flatv, refs, refsF, refsC, hF.not0, hF.not1, hF.up0, hF.up1, ac25, h1, h2]
    rw [gcY_slice]
    rfl
end Bt
end Go.Proofs.Ytlphmnhkkhcjfaa
end
