/-
  THE BIT WRITER's laws: the operations' rows, the loop that carries them out. Conditions: none.
-/
import Derived.Test.YtlphmnhkkhcjfaaBdA
import Derived.Test.YtlphmnhkkhcjfaaARows
set_option linter.all false
section
namespace Go.Proofs.Ytlphmnhkkhcjfaa
namespace Bt
open Go Go.RowKit AM ArEnv

/-- Rows of operations that can be read. -/
def Rw (hp : List Blk) (H : List Nat) (v : Value) (ds : List Dd) : Prop :=
  (v = .slice none 0 0 ∧ ds = []) ∨ ∃ b, v = .slice (some ⟨b, 0, some 0⟩) ds.length 0 ∧ H.contains b = false ∧ hp[b]? = some (.cells 0 true (ds.map drow).flatten)
theorem Rw.lenF {hp : List Blk} {H : List Nat} {v : Value} {ds : List Dd} (h : Rw hp H v ds) : lenF v = some (.int .i64 ds.length) := by
  rcases h with ⟨rfl, rfl⟩ | ⟨b, rfl, _⟩ <;> rfl
theorem Rw.len {hp : List Blk} {H : List Nat} {v : Value} {ds : List Dd} (h : Rw hp H v ds) : ∃ p e, v = .slice p ds.length e := by
  rcases h with ⟨rfl, rfl⟩ | ⟨b, rfl, _⟩
  · exact ⟨_, _, rfl⟩
  · exact ⟨_, _, rfl⟩
theorem Rw.refs {hp : List Blk} {H : List Nat} {v : Value} {ds : List Dd} (h : Rw hp H v ds) : ∀ r ∈ refs v, r < hp.length := by
  rcases h with ⟨rfl, rfl⟩ | ⟨b, rfl, _, hb⟩
  · simp [AM.refs, refsF, refsC]
  · have := (List.getElem?_eq_some_iff.1 hb).1
    intro r hr
    simp [AM.refs, refsF, refsC] at hr
    omega
theorem Rw.more {hp hq : List Blk} {H H' : List Nat} {v : Value} {ds : List Dd} (h : Rw hp H v ds) (hm : ∀ b x, hp[b]? = some x → H.contains b = false → hq[b]? = some x ∧ H'.contains b = false) : Rw hq H' v ds := by
  rcases h with h | ⟨b, rfl, h1, h2⟩
  · exact .inl h
  · have := hm b _ h2 h1
    exact .inr ⟨b, rfl, this.2, this.1⟩
theorem Rw.app {hp : List Blk} {H : List Nat} {v : Value} {ds : List Dd} (h : Rw hp H v ds) (nw : List Blk) : Rw (hp ++ nw) H v ds :=
  h.more fun b x hx hh => ⟨by rw [List.getElem?_append_left (List.getElem?_eq_some_iff.1 hx).1, hx], hh⟩
/-- A row: where it lies, and what lies there. -/
theorem Rw.at_ {hp : List Blk} {H : List Nat} {v : Value} {ds : List Dd} (h : Rw hp H v ds) {i : Nat} (hi : i < ds.length) :
    ∃ b cs, v = .slice (some ⟨b, 0, some 0⟩) ds.length 0 ∧ H.contains b = false ∧ hp[b]? = some (.cells 0 true cs) ∧ cs[i * 3]? = some (.int .u32 ds[i].v) ∧ cs[i * 3 + 1]? = some (.int .i64 ds[i].w) ∧ cs[i * 3 + 2]? = some (.bool ds[i].pad) ∧ (cs.drop (i * 3)).take 3 = drow ds[i] ∧ i * 3 + 3 ≤ cs.length := by
  rcases h with ⟨rfl, rfl⟩ | ⟨b, rfl, h1, h2⟩
  · simp at hi
  · have hl : ∀ l ∈ ds.map drow, l.length = 3 := fun l hl => by
      obtain ⟨d, _, rfl⟩ := List.mem_map.1 hl
      rfl
    have hg : ∀ k, k < 3 → (ds.map drow).flatten[i * 3 + k]? = (drow ds[i])[k]? := fun k hk => by
      rw [flat_get hl i k hk, List.getElem?_map, List.getElem?_eq_getElem hi]; rfl
    have hlen : (ds.map drow).flatten.length = ds.length * 3 := by rw [flat_len hl, List.length_map]
    have g0 := hg 0 (by omega)
    refine ⟨b, _, rfl, h1, h2, g0, hg 1 (by omega), hg 2 (by omega), ?_, by omega⟩
    refine List.ext_getElem? fun k => ?_
    rw [List.getElem?_take]
    split
    · next hk => rw [List.getElem?_drop, hg k hk]
    · next hk => rw [List.getElem?_eq_none (by rw [drow_length]; omega)]
theorem rn_slice (f : Nat → Nat) (b o n e : Nat) (s : Option Nat) : ren f (.slice (some ⟨b, o, s⟩) n e) = .slice (some ⟨f b, o, s⟩) n e := rfl
theorem rn_int (f : Nat → Nat) (k : IntKind) (n : Int) : ren f (.int k n) = .int k n := rfl
def wbl (m : List Nat) : List Blk := if m.length = 0 then [] else [Wb m]
section
variable {q : List Blk} {L : Nat} {H : List Nat} {a : Nat}
end
end Bt
end Go.Proofs.Ytlphmnhkkhcjfaa
end
