/-
  A SLICE OF INTEGERS THAT CAN BE READ. Conditions: none.
-/
import Derived.Test.YtlbdgbfblgjjgaaArPlain
set_option linter.all false
namespace Go.Proofs.Ytlbdgbfblgjjgaa
namespace AM
open Go Go.RowKit
/-- A slice of integers that can be read. -/
structure Ri (hp : List Blk) (v : Value) (zs : List Int) : Prop where
  form : (v = .slice none 0 0 ∧ zs = []) ∨ ∃ b, v = .slice (some ⟨b, 0, some 0⟩) zs.length 0 ∧ hp[b]? = some (.cells 0 true (zs.map (Value.int .i64)))
theorem Ri.lenF {hp : List Blk} {v : Value} {zs : List Int} (h : Ri hp v zs) : lenF v = some (.int .i64 zs.length) := by
  rcases h.form with ⟨rfl, rfl⟩ | ⟨b, rfl, _⟩ <;> rfl
theorem Ri.at_ {hp : List Blk} {v : Value} {zs : List Int} (h : Ri hp v zs) {i : Nat} (hi : i < zs.length) : ∃ b, v = .slice (some ⟨b, 0, some 0⟩) zs.length 0 ∧ b < hp.length ∧ hp[b]? = some (.cells 0 true (zs.map (Value.int .i64))) ∧ (zs.map (Value.int .i64))[i]? = some (.int .i64 zs[i]) := by
  rcases h.form with ⟨rfl, rfl⟩ | ⟨b, rfl, hb⟩
  · simp at hi
  · exact ⟨b, rfl, (List.getElem?_eq_some_iff.1 hb).1, hb, by simp [hi]⟩
end AM
namespace ArA
open Go Go.RowKit AM
theorem Ri_app {hp nw : List Blk} {v : Value} {zs : List Int} (h : Ri hp v zs) : Ri (hp ++ nw) v zs := by
  rcases h.form with h1 | ⟨b, h1, hb⟩
  · exact ⟨.inl h1⟩
  · exact ⟨.inr ⟨b, h1, by rw [List.getElem?_append_left (List.getElem?_eq_some_iff.1 hb).1]; exact hb⟩⟩
theorem Ri_put {hp nw : List Blk} {v : Value} {zs : List Int} {r q : Nat} {A : Arn} (h : Ri hp v zs) (hr : hp.length ≤ r) (hq : hp.length ≤ q) : Ri (put (hp ++ nw) r q A) v zs := by
  rcases h.form with h1 | ⟨b, h1, hb⟩
  · exact ⟨.inl h1⟩
  · have hbl := (List.getElem?_eq_some_iff.1 hb).1
    exact ⟨.inr ⟨b, h1, by rw [put_o (by omega) (by omega), List.getElem?_append_left hbl]; exact hb⟩⟩
theorem Rd_keep {hp hp2 : List Blk} {L L' : Nat} {H d d' : List Nat} {v : Value} {l : List Nat} (k : Rd ⟨hp, L, H, d⟩ v l) (h : ∀ i, i < hp.length → hp2[i]? = hp[i]?) : Rd ⟨hp2, L', H, d'⟩ v l :=
  k.more fun b x hx hh => ⟨by rw [← hx]; exact h b (List.getElem?_eq_some_iff.1 hx).1, hh⟩
theorem Ri.of_law {hp bs : List Blk} {va : Value} {zs : List Int} (R : (va = .slice none 0 0 ∧ zs.length = 0 ∧ bs = []) ∨ (va = .slice (some ⟨hp.length, 0, some 0⟩) zs.length 0 ∧ bs = [.cells 0 true (zs.map (Value.int .i64))])) : Ri (hp ++ bs) va zs := by
  rcases R with ⟨rfl, h, rfl⟩ | ⟨rfl, rfl⟩
  · exact ⟨.inl ⟨rfl, List.eq_nil_of_length_eq_zero h⟩⟩
  · exact ⟨.inr ⟨_, rfl, by rw [get_new0]⟩⟩
end ArA
end Go.Proofs.Ytlbdgbfblgjjgaa
