/-
  THE WAY BACK: walks of the reference's Back and Valid. Conditions: none.
-/
import Derived.Test.YtlbdgbfblgjjgaaBk17
set_option linter.all false
namespace Go.Proofs.Ytlbdgbfblgjjgaa
namespace ArA
open Go Go.RowKit AM ArEnv
section
variable {L : Nat} {H d : List Nat}
theorem vw_fst {f g : Nat → Nat} {x : List Nat} {ix : Nat} : ∀ (n r st st' : Nat), (vw f x ix n r st).1 = (vw g x ix n r st').1
  | 0, r, st, st' => rfl
  | n + 1, r, st, st' => by
    unfold vw
    split
    · rfl
    · exact vw_fst n _ _ _
end
end ArA
end Go.Proofs.Ytlbdgbfblgjjgaa
