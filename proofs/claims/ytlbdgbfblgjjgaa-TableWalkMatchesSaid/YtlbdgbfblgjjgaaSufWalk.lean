/-
  SORTED SUFFIXES: walks of the reference on the abstract machine. Conditions: none.
-/
import Derived.Test.YtlbdgbfblgjjgaaSufPlain
import Derived.Test.YtlbdgbfblgjjgaaIntKit
import Derived.Test.YtlbdgbfblgjjgaaArEnv
set_option linter.all false
namespace Go.Proofs.Ytlbdgbfblgjjgaa
namespace AM
open Go Go.RowKit
theorem drop_step {t : List Nat} {i k : Nat} (hi : i < t.length) (hk : k < t.length) (h : t[i] = t[k]) : (t.drop i < t.drop k ↔ t.drop (i + 1) < t.drop (k + 1)) := by
  rw [List.drop_eq_getElem_cons hi, List.drop_eq_getElem_cons hk, List.cons_lt_cons_iff]
  simp [h]
theorem drop_lt {t : List Nat} {i k : Nat} (hi : i < t.length) (hk : k < t.length) (h : t[i] ≠ t[k]) : (t.drop i < t.drop k ↔ t[i] < t[k]) := by
  rw [List.drop_eq_getElem_cons hi, List.drop_eq_getElem_cons hk, List.cons_lt_cons_iff]
  simp [h]
theorem drop_end {t : List Nat} {i : Nat} (hi : i < t.length) : t.drop t.length < t.drop i := by
  rw [List.drop_length, List.drop_eq_getElem_cons hi]; exact List.nil_lt_cons _ _
/-- The place where a position goes in, from behind. -/
def insK (t : List Nat) (i : Nat) (out : List Nat) : Nat → Nat
  | 0 => 0
  | k + 1 => if t.drop i < t.drop (out.getD k 0) then insK t i out k else k + 1
theorem insK_le (t : List Nat) (i : Nat) (out : List Nat) : ∀ k, insK t i out k ≤ k
  | 0 => Nat.le_refl _
  | k + 1 => by
    have := insK_le t i out k
    unfold insK; split <;> omega
theorem insK_after (t : List Nat) (i : Nat) (out : List Nat) : ∀ k j, insK t i out k ≤ j → j < k → t.drop i < t.drop (out.getD j 0)
  | 0, j, _, h => absurd h (Nat.not_lt_zero _)
  | k + 1, j, h1, h2 => by
    unfold insK at h1
    split at h1
    · rename_i h3
      by_cases hj : j = k
      · subst hj; exact h3
      · exact insK_after t i out k j h1 (by omega)
    · omega
theorem insK_stop (t : List Nat) (i : Nat) (out : List Nat) : ∀ k, 0 < insK t i out k → ¬ t.drop i < t.drop (out.getD (insK t i out k - 1) 0)
  | 0, h => absurd h (Nat.lt_irrefl _)
  | k + 1, h => by
    by_cases h3 : t.drop i < t.drop (out.getD k 0)
    · have e : insK t i out (k + 1) = insK t i out k := if_pos h3
      rw [e] at h ⊢; exact insK_stop t i out k h
    · have e : insK t i out (k + 1) = k + 1 := if_neg h3
      rw [e]; exact h3
def insO (t : List Nat) (i : Nat) (out : List Nat) : List Nat := out.take (insK t i out out.length) ++ i :: out.drop (insK t i out out.length)
def ordR (t : List Nat) : Nat → List Nat
  | 0 => []
  | n + 1 => insO t n (ordR t n)
theorem ordR_ok (t : List Nat) : ∀ n, n ≤ t.length + 1 → (ordR t n).Perm (List.range n) ∧ (ordR t n).Pairwise fun i k => t.drop i < t.drop k
  | 0, _ => by simp [ordR]
  | n + 1, hn => by
    obtain ⟨hp, hs⟩ := ordR_ok t n (by omega)
    have hm : ∀ j ∈ ordR t n, j < n := fun j hj => List.mem_range.1 (hp.mem_iff.1 hj)
    simp only [ordR, insO]
    generalize ordR t n = out at *
    have hk := insK_le t n out out.length
    have haf := insK_after t n out out.length
    have hst := insK_stop t n out out.length
    generalize insK t n out out.length = k at *
    have ho : out = out.take k ++ out.drop k := (List.take_append_drop k out).symm
    have gD : ∀ j (h : j < out.length), out.getD j 0 = out[j] := fun j h => by rw [List.getD_eq_getElem?_getD, List.getElem?_eq_getElem h, Option.getD_some]
    refine ⟨?_, ?_⟩
    · rw [List.range_succ]
      refine List.perm_middle.trans ?_
      rw [List.take_append_drop]
      exact (List.Perm.cons n hp).trans (List.perm_append_singleton n _).symm
    · have hs2 := hs
      rw [ho, List.pairwise_append] at hs2
      rw [List.pairwise_append, List.pairwise_cons]
      have hb : ∀ x ∈ out.drop k, t.drop n < t.drop x := by
        intro x hx
        obtain ⟨j, hj, rfl⟩ := List.getElem_of_mem hx
        rw [List.length_drop] at hj
        rw [List.getElem_drop, ← gD _ (by omega)]
        exact haf (k + j) (by omega) (by omega)
      have ha : ∀ x ∈ out.take k, t.drop x < t.drop n := by
        intro x hx
        have hk0 : 0 < k := by
          rcases Nat.eq_zero_or_pos k with h | h
          · rw [h] at hx; simp at hx
          · exact h
        have h1 := hst hk0
        rw [gD _ (by omega)] at h1
        have h2 : t.drop out[k - 1] < t.drop n := by
          rcases suf_tri (t.drop n) (t.drop out[k - 1]) with h3 | h3 | h3
          · exact absurd h3 h1
          · have h4 := congrArg List.length h3
            have h5 := hm out[k - 1] (List.getElem_mem _)
            simp only [List.length_drop] at h4
            omega
          · exact h3
        obtain ⟨j, hj, rfl⟩ := List.getElem_of_mem hx
        rw [List.length_take] at hj
        rw [List.getElem_take]
        by_cases hjk : j = k - 1
        · subst hjk; exact h2
        · exact suf_tra (List.pairwise_iff_getElem.1 hs j (k - 1) (by omega) (by omega) (by omega)) h2
      refine ⟨hs2.1, ⟨hb, hs2.2.1⟩, ?_⟩
      intro x hx y hy
      rcases List.mem_cons.1 hy with rfl | hy
      · exact ha x hx
      · exact suf_tra (ha x hx) (hb y hy)
theorem ordR_ord (t : List Nat) : Ord t (ordR t (t.length + 1)) := ⟨(ordR_ok t _ (Nat.le_refl _)).1, (ordR_ok t _ (Nat.le_refl _)).2⟩
theorem ordR_len (t : List Nat) {n : Nat} (h : n ≤ t.length + 1) : (ordR t n).length = n := by rw [(ordR_ok t n h).1.length_eq, List.length_range]
theorem turnR_is (t : List Nat) : (turnR t).1 = colO t (ordR t (t.length + 1)) ∧ (turnR t).2.1 = (ordR t (t.length + 1)).idxOf 0 := by
  obtain ⟨o, h, e⟩ := turnR_ord t
  rwa [h.uniq (ordR_ord t)] at e
end AM
namespace ArA
open Go Go.RowKit AM ArEnv
section
variable {hp : List Blk} {L : Nat} {H d : List Nat}
end
end ArA
end Go.Proofs.Ytlbdgbfblgjjgaa
