/-
  SORTED SUFFIXES: walks of the reference's Order and Turn. Conditions: none.
-/
import Derived.Test.YtlbdgbfblgjjgaaSufWalk
set_option linter.all false
namespace Go.Proofs.Ytlbdgbfblgjjgaa
namespace AM
open Go Go.RowKit
theorem Rd.ren_one {σ : St} {v : Value} {l : List Nat} (h : Rd σ v l) {n m : Nat} (hn : σ.heap.length ≤ n) : ren (AM.one n m) v = v := by
  rcases h.form with ⟨rfl, rfl⟩ | ⟨b, o, g, e, pl, cs, rfl, _, hh, hb, _⟩
  · rfl
  · have := (List.getElem?_eq_some_iff.1 hb).1
    simp only [ren, renF, renC, one_old (show b < n by omega)]
theorem Rd.refs_lt {σ : St} {v : Value} {l : List Nat} (h : Rd σ v l) {n : Nat} (hn : σ.heap.length ≤ n) : ∀ r ∈ AM.refs v, r < n := fun r hr => by have := h.refs r hr; omega
theorem iv_ren {n m : Nat} : ∀ l : List Nat, ren (AM.one n m) (iv m l) = if n ≤ m then iv n l else ren (AM.one n m) (iv m l)
  | [] => by split <;> rfl
  | x :: l => by
    split
    · rename_i h
      obtain ⟨k, rfl⟩ : ∃ k, m = n + k := ⟨m - n, by omega⟩
      simp only [iv_cons, ren, renF, renC, one_new]
    · rfl
end AM
namespace ArA
open Go Go.RowKit AM ArEnv
section
variable {hp : List Blk} {L : Nat} {H d : List Nat}
end
end ArA
end Go.Proofs.Ytlbdgbfblgjjgaa
