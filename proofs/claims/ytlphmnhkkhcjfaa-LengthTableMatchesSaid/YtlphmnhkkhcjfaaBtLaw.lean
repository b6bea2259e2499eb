/-
  THE BIT WRITER's laws: parts. Conditions: none.
-/
import Derived.Test.YtlphmnhkkhcjfaaBtF
set_option linter.all false
section
namespace Go.Proofs.Ytlphmnhkkhcjfaa
namespace Bt
open Go Go.RowKit AM ArEnv
variable {hp : List Blk} {L : Nat} {H : List Nat} {a k a2 k2 : Nat} {l l2 : List Nat}

/-- Another writer stays as it is. -/
theorem Ws.frame {m : List Nat} (w : Ws hp L H a k l) (w2 : Ws hp L H a2 k2 l2) (ha : a ≠ a2) (hk : l.length ≠ 0 → l2.length ≠ 0 → k ≠ k2) (hF : Fit hp.length L H) : Ws (Bt.wset hp a k m) L H a2 (if l2.length = 0 then (Bt.wset hp a k m).length else k2) l2 := by
  have hka : a2 ≠ k := fun e => by
    subst e
    by_cases h0 : l.length = 0
    · have := w.k0 h0; have := w2.lt; omega
    · have := (w2.w.symm.trans (w.b h0)); simp [Wr, Wb] at this
  have g2 := wset_other (m := m) w w2.lt (Ne.symm ha) hka
  by_cases h2 : l2.length = 0
  · rw [if_pos h2]
    have hn : l2 = [] := List.eq_nil_of_length_eq_zero h2
    subst hn
    have hle := wset_length_le (hp := hp) (a := a) (k := k) (m := m)
    have := w2.lt
    exact ⟨by rw [g2, w2.w]; rfl, fun h => absurd h2 h, fun _ => rfl, w2.aL, Nat.le_trans hF.1 hle, w2.aH, hF.2.not hle, by omega, w2.bits⟩
  · rw [if_neg h2]
    have hk2a : k2 ≠ a := fun e => by
      subst e
      have := (w.w.symm.trans (w2.b h2)); simp [Wr, Wb] at this
    have hk2k : k2 ≠ k := fun e => by
      by_cases h0 : l.length = 0
      · have := w.k0 h0; have := w2.klt h2; omega
      · exact hk h0 h2 e.symm
    exact ⟨by rw [g2, w2.w], fun _ => by rw [wset_other w (w2.klt h2) hk2a hk2k, w2.b h2], fun h => absurd h h2, w2.aL, w2.kL, w2.aH, w2.kH, w2.ne, w2.bits⟩
end Bt
end Go.Proofs.Ytlphmnhkkhcjfaa
end
