/-
  RankWalkBad: New fails for spans that are not valid and for distances below 1, and succeeds for valid arguments if the index is valid: the run. Conditions: none.
-/
import Derived.Test.YtlbdgbfblgjjgaaRwF
import Derived.Test.YtlbdgbfblgjjgaaRkM
set_option linter.all false
namespace Go.Proofs.Ytlbdgbfblgjjgaa
namespace ArA
open Go Go.RowKit AM ArEnv
theorem rl_has {l : List Nat} {sz e : Nat} : (rl l (sz + e)).has (0 : Nat) l.length = true ∧ (rl l (sz + e)).has l.length sz = true := by
  constructor <;> (rw [Arn.has_iff, rl_live]; omega)
theorem rl_valid9 {l : List Nat} {sz e : Nat} {kk : Int} (h1 : 1 ≤ l.length) (h2 : l.length ≤ 65536) (h3 : 1 ≤ kk ∧ kk ≤ 65536) (hs : rSize l.length kk = sz) : rValid (rl l (sz + e)) (0 : Nat) l.length l.length sz kk = true := by
  obtain ⟨a1, a2⟩ := rl_has (l := l) (sz := sz) (e := e)
  unfold rValid rApart
  rw [a1, a2, hs]
  simp; omega
end ArA
end Go.Proofs.Ytlbdgbfblgjjgaa
