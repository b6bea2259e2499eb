/-
  SORTED SUFFIXES: walks of the reference on the abstract machine. Conditions: none.
-/
import Derived.Test.YtlphmnhkkhcjfaaSufPlain
import Derived.Test.YtlphmnhkkhcjfaaIntKit
import Derived.Test.YtlphmnhkkhcjfaaArEnv
set_option linter.all false
namespace Go.Proofs.Ytlphmnhkkhcjfaa
namespace AM
open Go Go.RowKit
theorem drop_step {t : List Nat} {i k : Nat} (hi : i < t.length) (hk : k < t.length) (h : t[i] = t[k]) : (t.drop i < t.drop k ↔ t.drop (i + 1) < t.drop (k + 1)) := by
  rw [List.drop_eq_getElem_cons hi, List.drop_eq_getElem_cons hk, List.cons_lt_cons_iff]
  simp [h]
theorem drop_lt {t : List Nat} {i k : Nat} (hi : i < t.length) (hk : k < t.length) (h : t[i] ≠ t[k]) : (t.drop i < t.drop k ↔ t[i] < t[k]) := by
  rw [List.drop_eq_getElem_cons hi, List.drop_eq_getElem_cons hk, List.cons_lt_cons_iff]
  simp [h]
theorem drop_end {t : List Nat} {i : Nat} (hi : i < t.length) : t.drop t.length < t.drop i := by
  rw [List.drop_length, List.drop_eq_getElem_cons hi]; exact List.nil_lt_cons _ _
/-- The place where a position goes in, from behind. -/
def insK (t : List Nat) (i : Nat) (out : List Nat) : Nat → Nat
  | 0 => 0
  | k + 1 => if t.drop i < t.drop (out.getD k 0) then insK t i out k else k + 1
theorem insK_le (t : List Nat) (i : Nat) (out : List Nat) : ∀ k, insK t i out k ≤ k
  | 0 => Nat.le_refl _
  | k + 1 => by
    have := insK_le t i out k
    unfold insK; split <;> omega
theorem insK_after (t : List Nat) (i : Nat) (out : List Nat) : ∀ k j, insK t i out k ≤ j → j < k → t.drop i < t.drop (out.getD j 0)
  | 0, j, _, h => absurd h (Nat.not_lt_zero _)
  | k + 1, j, h1, h2 => by
    unfold insK at h1
    split at h1
    · rename_i h3
      by_cases hj : j = k
      · subst hj; exact h3
      · exact insK_after t i out k j h1 (by omega)
    · omega
theorem insK_stop (t : List Nat) (i : Nat) (out : List Nat) : ∀ k, 0 < insK t i out k → ¬ t.drop i < t.drop (out.getD (insK t i out k - 1) 0)
  | 0, h => absurd h (Nat.lt_irrefl _)
  | k + 1, h => by
    by_cases h3 : t.drop i < t.drop (out.getD k 0)
    · have e : insK t i out (k + 1) = insK t i out k := if_pos h3
      rw [e] at h ⊢; exact insK_stop t i out k h
    · have e : insK t i out (k + 1) = k + 1 := if_neg h3
      rw [e]; exact h3
def insO (t : List Nat) (i : Nat) (out : List Nat) : List Nat := out.take (insK t i out out.length) ++ i :: out.drop (insK t i out out.length)
def ordR (t : List Nat) : Nat → List Nat
  | 0 => []
  | n + 1 => insO t n (ordR t n)
theorem ordR_ok (t : List Nat) : ∀ n, n ≤ t.length + 1 → (ordR t n).Perm (List.range n) ∧ (ordR t n).Pairwise fun i k => t.drop i < t.drop k
  | 0, _ => by simp [ordR]
  | n + 1, hn => by
    obtain ⟨hp, hs⟩ := ordR_ok t n (by omega)
    have hm : ∀ j ∈ ordR t n, j < n := fun j hj => List.mem_range.1 (hp.mem_iff.1 hj)
    simp only [ordR, insO]
    generalize ordR t n = out at *
    have hk := insK_le t n out out.length
    have haf := insK_after t n out out.length
    have hst := insK_stop t n out out.length
    generalize insK t n out out.length = k at *
    have ho : out = out.take k ++ out.drop k := (List.take_append_drop k out).symm
    have gD : ∀ j (h : j < out.length), out.getD j 0 = out[j] := fun j h => by rw [List.getD_eq_getElem?_getD, List.getElem?_eq_getElem h, Option.getD_some]
    refine ⟨?_, ?_⟩
    · rw [List.range_succ]
      refine List.perm_middle.trans ?_
      rw [List.take_append_drop]
      exact (List.Perm.cons n hp).trans (List.perm_append_singleton n _).symm
    · have hs2 := hs
      rw [ho, List.pairwise_append] at hs2
      rw [List.pairwise_append, List.pairwise_cons]
      have hb : ∀ x ∈ out.drop k, t.drop n < t.drop x := by
        intro x hx
        obtain ⟨j, hj, rfl⟩ := List.getElem_of_mem hx
        rw [List.length_drop] at hj
        rw [List.getElem_drop, ← gD _ (by omega)]
        exact haf (k + j) (by omega) (by omega)
      have ha : ∀ x ∈ out.take k, t.drop x < t.drop n := by
        intro x hx
        have hk0 : 0 < k := by
          rcases Nat.eq_zero_or_pos k with h | h
          · rw [h] at hx; simp at hx
          · exact h
        have h1 := hst hk0
        rw [gD _ (by omega)] at h1
        have h2 : t.drop out[k - 1] < t.drop n := by
          rcases suf_tri (t.drop n) (t.drop out[k - 1]) with h3 | h3 | h3
          · exact absurd h3 h1
          · have h4 := congrArg List.length h3
            have h5 := hm out[k - 1] (List.getElem_mem _)
            simp only [List.length_drop] at h4
            omega
          · exact h3
        obtain ⟨j, hj, rfl⟩ := List.getElem_of_mem hx
        rw [List.length_take] at hj
        rw [List.getElem_take]
        by_cases hjk : j = k - 1
        · subst hjk; exact h2
        · exact suf_tra (List.pairwise_iff_getElem.1 hs j (k - 1) (by omega) (by omega) (by omega)) h2
      refine ⟨hs2.1, ⟨hb, hs2.2.1⟩, ?_⟩
      intro x hx y hy
      rcases List.mem_cons.1 hy with rfl | hy
      · exact ha x hx
      · exact suf_tra (ha x hx) (hb y hy)
theorem ordR_ord (t : List Nat) : Ord t (ordR t (t.length + 1)) := ⟨(ordR_ok t _ (Nat.le_refl _)).1, (ordR_ok t _ (Nat.le_refl _)).2⟩
theorem ordR_len (t : List Nat) {n : Nat} (h : n ≤ t.length + 1) : (ordR t n).length = n := by rw [(ordR_ok t n h).1.length_eq, List.length_range]
theorem turnR_is (t : List Nat) : (turnR t).1 = colO t (ordR t (t.length + 1)) ∧ (turnR t).2.1 = (ordR t (t.length + 1)).idxOf 0 := by
  obtain ⟨o, h, e⟩ := turnR_ord t
  rwa [h.uniq (ordR_ord t)] at e
end AM
namespace ArA
open Go Go.RowKit AM ArEnv
section
variable {hp : List Blk} {L : Nat} {H d : List Nat}
theorem sless_loop (hF : Fit hp.length L H) {a : Option Addr} {e : Nat} {t : List Nat} (hr : Rd ⟨hp, L, H, []⟩ (.slice a t.length e) t) (hm : t.length ≤ 1048576) :
    ∀ (n i k : Nat), t.length - i = n → i ≤ t.length → k ≤ t.length → ∃ fr, ∃ i' k' : Nat,
    Liter env lb86_0 [1, 2, 0] hp.length [(1, .int .i64 i), (2, .int .i64 k), (0, .slice a t.length e)] ⟨hp, L, H, []⟩ =
      some (.exit 0, fr, ⟨hp, L, H, []⟩) ∧ fr.get 1 = some (.int .i64 i') ∧ fr.get 2 = some (.int .i64 k') ∧ fr.get 0 = some (.slice a t.length e) ∧ i' ≤ t.length ∧ k' ≤ t.length ∧ (t.drop i < t.drop k ↔ t.drop i' < t.drop k') ∧ (i' = k' ∨ i' = t.length ∨ k' = t.length ∨ t[i']? ≠ t[k']?) := by
  intro n
  induction n with
  | zero =>
    intro i k hn hi hk
    obtain rfl : i = t.length := by omega
    rw [iter_by lb86_0.eq_1]
    simp (disch := (first | omega | (simp only [lnE] <;> omega) | (refine Fit.mono ‹Fit _ _ _› ?_ <;> (simp only [lnE] <;> omega)) | (refine Fit.draw ‹Fit _ _ _› ?_ ?_ <;> (simp only [lnE] <;> omega)) | (refine Fit.hid1 ‹Fit _ _ _› ?_ ?_ <;> (simp only [lnE] <;> omega)) | (refine Fit.draw1 ‹Fit _ _ _› ?_ ?_ ?_ <;> (simp only [lnE] <;> omega)) | (refine Fit.range0 ?_ ?_ <;> (simp only [lnE] <;> omega)) | fail)) only [syA, syB, argFr, D, E, T, C, undefv, eqF, aeq, sheqs, sheq, rdCells, cellsOf, fill, putAt, if_true, if_false, reduceIte, ↓reduceIte, reduceCtorEq, eq_self, Nat.reduceEqDiff, Nat.reduceAdd, Nat.reduceSub, Nat.reduceMul, Nat.reduceLT, Nat.reduceLeDiff, Nat.reducePow, Nat.reduceDiv, Nat.reduceMod, Int.reduceLT, Int.reduceLE, Int.reduceGT, Int.reduceGE, Int.reduceToNat, Int.reducePow, Int.reduceNeg, Int.reduceBEq, Int.reduceBNe, Int.reduceEq, Int.reduceAdd, Int.reduceSub, Int.reduceMul, cellv, sc, flatv, refs, refsF, refsC, hF.not0, hF.not1, hF.up0, hF.up1]
    exact ⟨_, t.length, k, rfl, rfl, rfl, rfl, Nat.le_refl _, hk, Iff.rfl, .inr (.inl rfl)⟩
  | succ n ih =>
    intro i k hn hi hk
    have c1 : (i : Int) < t.length := by omega
    by_cases hkl : k = t.length
    · subst hkl
      rw [iter_by lb86_0.eq_1]
      simp (disch := (first | omega | (simp only [lnE] <;> omega) | (refine Fit.mono ‹Fit _ _ _› ?_ <;> (simp only [lnE] <;> omega)) | (refine Fit.draw ‹Fit _ _ _› ?_ ?_ <;> (simp only [lnE] <;> omega)) | (refine Fit.hid1 ‹Fit _ _ _› ?_ ?_ <;> (simp only [lnE] <;> omega)) | (refine Fit.draw1 ‹Fit _ _ _› ?_ ?_ ?_ <;> (simp only [lnE] <;> omega)) | (refine Fit.range0 ?_ ?_ <;> (simp only [lnE] <;> omega)) | fail)) only [syA, syB, argFr, D, E, T, C, undefv, eqF, aeq, sheqs, sheq, rdCells, cellsOf, fill, putAt, if_true, if_false, reduceIte, ↓reduceIte, reduceCtorEq, eq_self, Nat.reduceEqDiff, Nat.reduceAdd, Nat.reduceSub, Nat.reduceMul, Nat.reduceLT, Nat.reduceLeDiff, Nat.reducePow, Nat.reduceDiv, Nat.reduceMod, Int.reduceLT, Int.reduceLE, Int.reduceGT, Int.reduceGE, Int.reduceToNat, Int.reducePow, Int.reduceNeg, Int.reduceBEq, Int.reduceBNe, Int.reduceEq, Int.reduceAdd, Int.reduceSub, Int.reduceMul, cellv, sc, flatv, refs, refsF, refsC, hF.not0, hF.not1, hF.up0, hF.up1, c1]
      exact ⟨_, i, t.length, rfl, rfl, rfl, rfl, hi, Nat.le_refl _, Iff.rfl, .inr (.inr (.inl rfl))⟩
    · have c2 : (k : Int) < t.length := by omega
      have c3 : 0 ≤ (i : Int) ∧ (i : Int) < t.length := by omega
      have c4 : 0 ≤ (k : Int) ∧ (k : Int) < t.length := by omega
      have li : i < t.length := by omega
      have lk : k < t.length := by omega
      obtain ⟨fr, i', k', e1, e2⟩ := ih (i + 1) (k + 1) (by omega) (by omega) (by omega)
      obtain ⟨b, o, g, pl, cs, rfl, _, hh, hb, hcell⟩ := hr.at_ li
      obtain ⟨b', o', g', pl', cs', he, _, hh', hb', hcell'⟩ := hr.at_ lk
      cases he
      simp only [] at hb hh hb'
      rw [hb] at hb'
      cases hb'
      by_cases hbytes : t[i] = t[k]
      · have c5 : ((t[i] : Nat) : Int) = (t[k] : Nat) := by omega
        by_cases hik : i = k
        · subst hik
          rw [iter_by lb86_0.eq_1]
          simp (disch := (first | omega | (simp only [lnE] <;> omega) | (refine Fit.mono ‹Fit _ _ _› ?_ <;> (simp only [lnE] <;> omega)) | (refine Fit.draw ‹Fit _ _ _› ?_ ?_ <;> (simp only [lnE] <;> omega)) | (refine Fit.hid1 ‹Fit _ _ _› ?_ ?_ <;> (simp only [lnE] <;> omega)) | (refine Fit.draw1 ‹Fit _ _ _› ?_ ?_ ?_ <;> (simp only [lnE] <;> omega)) | (refine Fit.range0 ?_ ?_ <;> (simp only [lnE] <;> omega)) | fail)) only [syA, syB, argFr, D, E, T, C, undefv, eqF, aeq, sheqs, sheq, rdCells, cellsOf, fill, putAt, if_true, if_false, reduceIte, ↓reduceIte, reduceCtorEq, eq_self, Nat.reduceEqDiff, Nat.reduceAdd, Nat.reduceSub, Nat.reduceMul, Nat.reduceLT, Nat.reduceLeDiff, Nat.reducePow, Nat.reduceDiv, Nat.reduceMod, Int.reduceLT, Int.reduceLE, Int.reduceGT, Int.reduceGE, Int.reduceToNat, Int.reducePow, Int.reduceNeg, Int.reduceBEq, Int.reduceBNe, Int.reduceEq, Int.reduceAdd, Int.reduceSub, Int.reduceMul, cellv, sc, flatv, refs, refsF, refsC, hF.not0, hF.not1, hF.up0, hF.up1, c1, c2, c3, c4, hb, hh, hcell]
          exact ⟨_, i, i, rfl, rfl, rfl, rfl, hi, hi, Iff.rfl, .inl rfl⟩
        · have c6 : ¬ (i : Int) = k := by omega
          rw [iter_by lb86_0.eq_1]
          simp (disch := (first | omega | (simp only [lnE] <;> omega) | (refine Fit.mono ‹Fit _ _ _› ?_ <;> (simp only [lnE] <;> omega)) | (refine Fit.draw ‹Fit _ _ _› ?_ ?_ <;> (simp only [lnE] <;> omega)) | (refine Fit.hid1 ‹Fit _ _ _› ?_ ?_ <;> (simp only [lnE] <;> omega)) | (refine Fit.draw1 ‹Fit _ _ _› ?_ ?_ ?_ <;> (simp only [lnE] <;> omega)) | (refine Fit.range0 ?_ ?_ <;> (simp only [lnE] <;> omega)) | fail)) only [syA, syB, argFr, D, E, T, C, undefv, eqF, aeq, sheqs, sheq, rdCells, cellsOf, fill, putAt, if_true, if_false, reduceIte, ↓reduceIte, reduceCtorEq, eq_self, Nat.reduceEqDiff, Nat.reduceAdd, Nat.reduceSub, Nat.reduceMul, Nat.reduceLT, Nat.reduceLeDiff, Nat.reducePow, Nat.reduceDiv, Nat.reduceMod, Int.reduceLT, Int.reduceLE, Int.reduceGT, Int.reduceGE, Int.reduceToNat, Int.reducePow, Int.reduceNeg, Int.reduceBEq, Int.reduceBNe, Int.reduceEq, Int.reduceAdd, Int.reduceSub, Int.reduceMul, cellv, sc, flatv, refs, refsF, refsC, hF.not0, hF.not1, hF.up0, hF.up1, c1, c2, c3, c4, hb, hh, hcell, hcell', c5, c6]
          refine ⟨fr, i', k', e1, e2.1, e2.2.1, e2.2.2.1, e2.2.2.2.1, e2.2.2.2.2.1, ?_, e2.2.2.2.2.2.2⟩
          rw [drop_step li lk hbytes]; exact e2.2.2.2.2.2.1
      · have c5 : ¬ ((t[i] : Nat) : Int) = (t[k] : Nat) := by omega
        rw [iter_by lb86_0.eq_1]
        simp (disch := (first | omega | (simp only [lnE] <;> omega) | (refine Fit.mono ‹Fit _ _ _› ?_ <;> (simp only [lnE] <;> omega)) | (refine Fit.draw ‹Fit _ _ _› ?_ ?_ <;> (simp only [lnE] <;> omega)) | (refine Fit.hid1 ‹Fit _ _ _› ?_ ?_ <;> (simp only [lnE] <;> omega)) | (refine Fit.draw1 ‹Fit _ _ _› ?_ ?_ ?_ <;> (simp only [lnE] <;> omega)) | (refine Fit.range0 ?_ ?_ <;> (simp only [lnE] <;> omega)) | fail)) only [syA, syB, argFr, D, E, T, C, undefv, eqF, aeq, sheqs, sheq, rdCells, cellsOf, fill, putAt, if_true, if_false, reduceIte, ↓reduceIte, reduceCtorEq, eq_self, Nat.reduceEqDiff, Nat.reduceAdd, Nat.reduceSub, Nat.reduceMul, Nat.reduceLT, Nat.reduceLeDiff, Nat.reducePow, Nat.reduceDiv, Nat.reduceMod, Int.reduceLT, Int.reduceLE, Int.reduceGT, Int.reduceGE, Int.reduceToNat, Int.reducePow, Int.reduceNeg, Int.reduceBEq, Int.reduceBNe, Int.reduceEq, Int.reduceAdd, Int.reduceSub, Int.reduceMul, cellv, sc, flatv, refs, refsF, refsC, hF.not0, hF.not1, hF.up0, hF.up1, c1, c2, c3, c4, hb, hh, hcell, hcell', c5]
        refine ⟨_, i, k, rfl, rfl, rfl, rfl, hi, hk, Iff.rfl, .inr (.inr (.inr ?_))⟩
        rw [List.getElem?_eq_getElem li, List.getElem?_eq_getElem lk]
        intro h; exact hbytes (Option.some.inj h)
theorem sless_walk (hF : Fit hp.length L H) {v : Value} {t : List Nat} (hr : Rd ⟨hp, L, H, []⟩ v t) (hm : t.length ≤ 1048576) {i k : Nat} (hi : i ≤ t.length) (hk : k ≤ t.length) :
    Lrun env (.func 86) [v, .int .i64 i, .int .i64 k] ⟨hp, L, H, d⟩ = some (.bool (decide (t.drop i < t.drop k)), ⟨hp, L, H, d⟩) := by
  obtain ⟨a, e, rfl⟩ := hr.len
  obtain ⟨fr, i', k', e1, e2, e3, e4, e5, e6, e7, e8⟩ := sless_loop (hp := hp) (L := L) (H := H) hF hr hm (t.length - i) i k rfl hi hk
  have c1 : ¬ (i : Int) < 0 := by omega
  have c2 : ¬ (i : Int) > t.length := by omega
  have c3 : ¬ (k : Int) < 0 := by omega
  have c4 : ¬ (k : Int) > t.length := by omega
  rw [Lrun_sym 86 _ _ fn86]
  have hd : decide (t.drop i < t.drop k) = decide (t.drop i' < t.drop k') := by rw [decide_eq_decide]; exact e7
  rw [hd]
  by_cases h1 : i' = k'
  · subst h1
    have h2 : decide (t.drop i' < t.drop i') = false := by rw [decide_eq_false_iff_not]; exact suf_irr _
    rw [h2]
    simp (disch := (first | omega | (simp only [lnE] <;> omega) | (refine Fit.mono ‹Fit _ _ _› ?_ <;> (simp only [lnE] <;> omega)) | (refine Fit.draw ‹Fit _ _ _› ?_ ?_ <;> (simp only [lnE] <;> omega)) | (refine Fit.hid1 ‹Fit _ _ _› ?_ ?_ <;> (simp only [lnE] <;> omega)) | (refine Fit.draw1 ‹Fit _ _ _› ?_ ?_ ?_ <;> (simp only [lnE] <;> omega)) | (refine Fit.range0 ?_ ?_ <;> (simp only [lnE] <;> omega)) | fail)) only [syA, syB, argFr, D, E, T, C, undefv, eqF, aeq, sheqs, sheq, rdCells, cellsOf, fill, putAt, if_true, if_false, reduceIte, ↓reduceIte, reduceCtorEq, eq_self, Nat.reduceEqDiff, Nat.reduceAdd, Nat.reduceSub, Nat.reduceMul, Nat.reduceLT, Nat.reduceLeDiff, Nat.reducePow, Nat.reduceDiv, Nat.reduceMod, Int.reduceLT, Int.reduceLE, Int.reduceGT, Int.reduceGE, Int.reduceToNat, Int.reducePow, Int.reduceNeg, Int.reduceBEq, Int.reduceBNe, Int.reduceEq, Int.reduceAdd, Int.reduceSub, Int.reduceMul, cellv, sc, flatv, refs, refsF, refsC, hF.not0, hF.not1, hF.up0, hF.up1, ac86, c1, c2, c3, c4, e1, e2, e3, e4]
  · have c5 : ¬ (i' : Int) = k' := by omega
    by_cases h2 : k' = t.length
    · subst h2
      have h3 : decide (t.drop i' < t.drop t.length) = false := by rw [decide_eq_false_iff_not, List.drop_length]; exact List.not_lt_nil _
      rw [h3]
      simp (disch := (first | omega | (simp only [lnE] <;> omega) | (refine Fit.mono ‹Fit _ _ _› ?_ <;> (simp only [lnE] <;> omega)) | (refine Fit.draw ‹Fit _ _ _› ?_ ?_ <;> (simp only [lnE] <;> omega)) | (refine Fit.hid1 ‹Fit _ _ _› ?_ ?_ <;> (simp only [lnE] <;> omega)) | (refine Fit.draw1 ‹Fit _ _ _› ?_ ?_ ?_ <;> (simp only [lnE] <;> omega)) | (refine Fit.range0 ?_ ?_ <;> (simp only [lnE] <;> omega)) | fail)) only [syA, syB, argFr, D, E, T, C, undefv, eqF, aeq, sheqs, sheq, rdCells, cellsOf, fill, putAt, if_true, if_false, reduceIte, ↓reduceIte, reduceCtorEq, eq_self, Nat.reduceEqDiff, Nat.reduceAdd, Nat.reduceSub, Nat.reduceMul, Nat.reduceLT, Nat.reduceLeDiff, Nat.reducePow, Nat.reduceDiv, Nat.reduceMod, Int.reduceLT, Int.reduceLE, Int.reduceGT, Int.reduceGE, Int.reduceToNat, Int.reducePow, Int.reduceNeg, Int.reduceBEq, Int.reduceBNe, Int.reduceEq, Int.reduceAdd, Int.reduceSub, Int.reduceMul, cellv, sc, flatv, refs, refsF, refsC, hF.not0, hF.not1, hF.up0, hF.up1, ac86, c1, c2, c3, c4, c5, e1, e2, e3, e4]
    · have c6 : ¬ (k' : Int) = t.length := by omega
      by_cases h3 : i' = t.length
      · subst h3
        have h4 : decide (t.drop t.length < t.drop k') = true := by rw [decide_eq_true_eq]; exact drop_end (by omega)
        rw [h4]
        simp (disch := (first | omega | (simp only [lnE] <;> omega) | (refine Fit.mono ‹Fit _ _ _› ?_ <;> (simp only [lnE] <;> omega)) | (refine Fit.draw ‹Fit _ _ _› ?_ ?_ <;> (simp only [lnE] <;> omega)) | (refine Fit.hid1 ‹Fit _ _ _› ?_ ?_ <;> (simp only [lnE] <;> omega)) | (refine Fit.draw1 ‹Fit _ _ _› ?_ ?_ ?_ <;> (simp only [lnE] <;> omega)) | (refine Fit.range0 ?_ ?_ <;> (simp only [lnE] <;> omega)) | fail)) only [syA, syB, argFr, D, E, T, C, undefv, eqF, aeq, sheqs, sheq, rdCells, cellsOf, fill, putAt, if_true, if_false, reduceIte, ↓reduceIte, reduceCtorEq, eq_self, Nat.reduceEqDiff, Nat.reduceAdd, Nat.reduceSub, Nat.reduceMul, Nat.reduceLT, Nat.reduceLeDiff, Nat.reducePow, Nat.reduceDiv, Nat.reduceMod, Int.reduceLT, Int.reduceLE, Int.reduceGT, Int.reduceGE, Int.reduceToNat, Int.reducePow, Int.reduceNeg, Int.reduceBEq, Int.reduceBNe, Int.reduceEq, Int.reduceAdd, Int.reduceSub, Int.reduceMul, cellv, sc, flatv, refs, refsF, refsC, hF.not0, hF.not1, hF.up0, hF.up1, ac86, c1, c2, c3, c4, c5, c6, e1, e2, e3, e4]
      · have c7 : ¬ (i' : Int) = t.length := by omega
        have li : i' < t.length := by omega
        have lk : k' < t.length := by omega
        have hne : t[i'] ≠ t[k'] := by
          intro h
          rcases e8 with h4 | h4 | h4 | h4
          · exact h1 h4
          · exact h3 h4
          · exact h2 h4
          · rw [List.getElem?_eq_getElem li, List.getElem?_eq_getElem lk, h] at h4; exact h4 rfl
        have h5 : decide (t.drop i' < t.drop k') = decide (((t[i'] : Nat) : Int) < (t[k'] : Nat)) := by
          rw [decide_eq_decide, drop_lt li lk hne]; omega
        rw [h5]
        have c8 : 0 ≤ (i' : Int) ∧ (i' : Int) < t.length := by omega
        have c9 : 0 ≤ (k' : Int) ∧ (k' : Int) < t.length := by omega
        obtain ⟨b, o, g, pl, cs, rfl, _, hh, hb, hcell⟩ := hr.at_ li
        obtain ⟨b', o', g', pl', cs', he, _, hh', hb', hcell'⟩ := hr.at_ lk
        cases he
        simp only [] at hb hh hb'
        rw [hb] at hb'
        cases hb'
        simp (disch := (first | omega | (simp only [lnE] <;> omega) | (refine Fit.mono ‹Fit _ _ _› ?_ <;> (simp only [lnE] <;> omega)) | (refine Fit.draw ‹Fit _ _ _› ?_ ?_ <;> (simp only [lnE] <;> omega)) | (refine Fit.hid1 ‹Fit _ _ _› ?_ ?_ <;> (simp only [lnE] <;> omega)) | (refine Fit.draw1 ‹Fit _ _ _› ?_ ?_ ?_ <;> (simp only [lnE] <;> omega)) | (refine Fit.range0 ?_ ?_ <;> (simp only [lnE] <;> omega)) | fail)) only [syA, syB, argFr, D, E, T, C, undefv, eqF, aeq, sheqs, sheq, rdCells, cellsOf, fill, putAt, if_true, if_false, reduceIte, ↓reduceIte, reduceCtorEq, eq_self, Nat.reduceEqDiff, Nat.reduceAdd, Nat.reduceSub, Nat.reduceMul, Nat.reduceLT, Nat.reduceLeDiff, Nat.reducePow, Nat.reduceDiv, Nat.reduceMod, Int.reduceLT, Int.reduceLE, Int.reduceGT, Int.reduceGE, Int.reduceToNat, Int.reducePow, Int.reduceNeg, Int.reduceBEq, Int.reduceBNe, Int.reduceEq, Int.reduceAdd, Int.reduceSub, Int.reduceMul, cellv, sc, flatv, refs, refsF, refsC, hF.not0, hF.not1, hF.up0, hF.up1, ac86, c1, c2, c3, c4, c5, c6, c7, c8, c9, e1, e2, e3, e4, hb, hh, hcell, hcell']
/-- The inner loop of the order: where the position goes in. -/
theorem oin_loop (hF : Fit hp.length L H) {v : Value} {t out : List Nat} {i b : Nat} (hr : Rd ⟨hp, L, H, []⟩ v t) (hm : t.length ≤ 1048576) (hi : i ≤ t.length) (ho : ∀ j ∈ out, j ≤ t.length) (hol : out.length ≤ 1048577) (hb : out ≠ [] → hp[b]? = some (.cells out.length true (i64n out))) (hh : H.contains b = false) :
    ∀ k : Nat, k ≤ out.length → ∃ fr,
    Liter env lb70_0 [5, 0, 4, 3] hp.length [(5, .int .i64 k), (0, v), (4, .int .i64 i), (3, iv b out)] ⟨hp, L, H, []⟩ =
      some (.exit 2, fr, ⟨hp, L, H, []⟩) ∧ fr.get 5 = some (.int .i64 (insK t i out k : Nat)) ∧ fr.get 0 = some v ∧ fr.get 4 = some (.int .i64 i) ∧ fr.get 3 = some (iv b out)
  | 0, hk => by
    rw [iter_by lb70_0.eq_1]
    simp (disch := (first | omega | (simp only [lnE] <;> omega) | (refine Fit.mono ‹Fit _ _ _› ?_ <;> (simp only [lnE] <;> omega)) | (refine Fit.draw ‹Fit _ _ _› ?_ ?_ <;> (simp only [lnE] <;> omega)) | (refine Fit.hid1 ‹Fit _ _ _› ?_ ?_ <;> (simp only [lnE] <;> omega)) | (refine Fit.draw1 ‹Fit _ _ _› ?_ ?_ ?_ <;> (simp only [lnE] <;> omega)) | (refine Fit.range0 ?_ ?_ <;> (simp only [lnE] <;> omega)) | fail)) only [syA, syB, argFr, D, E, T, C, undefv, eqF, aeq, sheqs, sheq, rdCells, cellsOf, fill, putAt, if_true, if_false, reduceIte, ↓reduceIte, reduceCtorEq, eq_self, Nat.reduceEqDiff, Nat.reduceAdd, Nat.reduceSub, Nat.reduceMul, Nat.reduceLT, Nat.reduceLeDiff, Nat.reducePow, Nat.reduceDiv, Nat.reduceMod, Int.reduceLT, Int.reduceLE, Int.reduceGT, Int.reduceGE, Int.reduceToNat, Int.reducePow, Int.reduceNeg, Int.reduceBEq, Int.reduceBNe, Int.reduceEq, Int.reduceAdd, Int.reduceSub, Int.reduceMul, cellv, sc, flatv, refs, refsF, refsC, hF.not0, hF.not1, hF.up0, hF.up1]
    exact ⟨_, rfl, rfl, rfl, rfl, rfl⟩
  | k + 1, hk => by
    have hne : out ≠ [] := by intro h; rw [h] at hk; simp at hk
    have lk : k < out.length := by omega
    have hb := hb hne
    have hcell := i64n_get (l := out) lk
    have hin : out[k] ≤ t.length := ho _ (List.getElem_mem _)
    have c1 : ((k + 1 : Nat) : Int) > 0 := by omega
    have c2 : ((k + 1 : Nat) : Int) - 1 = k := by omega
    have c3 : 0 ≤ (k : Int) ∧ (k : Int) < out.length := by omega
    have gD : out.getD k 0 = out[k] := by rw [List.getD_eq_getElem?_getD, List.getElem?_eq_getElem lk, Option.getD_some]
    have hl := sless_walk (hp := hp) (L := L) (H := H) (d := []) hF hr hm hi hin
    rw [iter_by lb70_0.eq_1]
    by_cases hc : t.drop i < t.drop out[k]
    · obtain ⟨fr, e1, e2⟩ := oin_loop hF hr hm hi ho hol (fun _ => hb) hh k (by omega)
      have hi2 : insK t i out (k + 1) = insK t i out k := by rw [insK, gD, if_pos hc]
      rw [iv_ne hne] at e1 e2 ⊢
      rw [decide_eq_true hc] at hl
      rw [hi2]
      simp (disch := (first | omega | (simp only [lnE] <;> omega) | (refine Fit.mono ‹Fit _ _ _› ?_ <;> (simp only [lnE] <;> omega)) | (refine Fit.draw ‹Fit _ _ _› ?_ ?_ <;> (simp only [lnE] <;> omega)) | (refine Fit.hid1 ‹Fit _ _ _› ?_ ?_ <;> (simp only [lnE] <;> omega)) | (refine Fit.draw1 ‹Fit _ _ _› ?_ ?_ ?_ <;> (simp only [lnE] <;> omega)) | (refine Fit.range0 ?_ ?_ <;> (simp only [lnE] <;> omega)) | fail)) only [syA, syB, argFr, D, E, T, C, undefv, eqF, aeq, sheqs, sheq, rdCells, cellsOf, fill, putAt, if_true, if_false, reduceIte, ↓reduceIte, reduceCtorEq, eq_self, Nat.reduceEqDiff, Nat.reduceAdd, Nat.reduceSub, Nat.reduceMul, Nat.reduceLT, Nat.reduceLeDiff, Nat.reducePow, Nat.reduceDiv, Nat.reduceMod, Int.reduceLT, Int.reduceLE, Int.reduceGT, Int.reduceGE, Int.reduceToNat, Int.reducePow, Int.reduceNeg, Int.reduceBEq, Int.reduceBNe, Int.reduceEq, Int.reduceAdd, Int.reduceSub, Int.reduceMul, cellv, sc, flatv, refs, refsF, refsC, hF.not0, hF.not1, hF.up0, hF.up1, c1, c2, c3, hb, hh, hcell, hl]
      exact ⟨fr, e1, e2⟩
    · have hi2 : insK t i out (k + 1) = k + 1 := by rw [insK, gD, if_neg hc]
      rw [iv_ne hne]
      rw [decide_eq_false hc] at hl
      rw [hi2]
      simp (disch := (first | omega | (simp only [lnE] <;> omega) | (refine Fit.mono ‹Fit _ _ _› ?_ <;> (simp only [lnE] <;> omega)) | (refine Fit.draw ‹Fit _ _ _› ?_ ?_ <;> (simp only [lnE] <;> omega)) | (refine Fit.hid1 ‹Fit _ _ _› ?_ ?_ <;> (simp only [lnE] <;> omega)) | (refine Fit.draw1 ‹Fit _ _ _› ?_ ?_ ?_ <;> (simp only [lnE] <;> omega)) | (refine Fit.range0 ?_ ?_ <;> (simp only [lnE] <;> omega)) | fail)) only [syA, syB, argFr, D, E, T, C, undefv, eqF, aeq, sheqs, sheq, rdCells, cellsOf, fill, putAt, if_true, if_false, reduceIte, ↓reduceIte, reduceCtorEq, eq_self, Nat.reduceEqDiff, Nat.reduceAdd, Nat.reduceSub, Nat.reduceMul, Nat.reduceLT, Nat.reduceLeDiff, Nat.reducePow, Nat.reduceDiv, Nat.reduceMod, Int.reduceLT, Int.reduceLE, Int.reduceGT, Int.reduceGE, Int.reduceToNat, Int.reducePow, Int.reduceNeg, Int.reduceBEq, Int.reduceBNe, Int.reduceEq, Int.reduceAdd, Int.reduceSub, Int.reduceMul, cellv, sc, flatv, refs, refsF, refsC, hF.not0, hF.not1, hF.up0, hF.up1, c1, c2, c3, hb, hh, hcell, hl]
      exact ⟨_, rfl, rfl, rfl, rfl, rfl⟩
end
end ArA
end Go.Proofs.Ytlphmnhkkhcjfaa
