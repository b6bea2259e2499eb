/-
  THE BIT WRITER's laws: the operations' rows, the loop that carries them out. Conditions: none.
-/
import Derived.Test.YtlphmnhkkhcjfaaBdA
import Derived.Test.YtlphmnhkkhcjfaaARows
set_option linter.all false
section
namespace Go.Proofs.Ytlphmnhkkhcjfaa
namespace Bt
open Go Go.RowKit AM ArEnv

/-- Rows of operations that can be read. -/
def Rw (hp : List Blk) (H : List Nat) (v : Value) (ds : List Dd) : Prop :=
  (v = .slice none 0 0 ∧ ds = []) ∨ ∃ b, v = .slice (some ⟨b, 0, some 0⟩) ds.length 0 ∧ H.contains b = false ∧ hp[b]? = some (.cells 0 true (ds.map drow).flatten)
theorem Rw.lenF {hp : List Blk} {H : List Nat} {v : Value} {ds : List Dd} (h : Rw hp H v ds) : lenF v = some (.int .i64 ds.length) := by
  rcases h with ⟨rfl, rfl⟩ | ⟨b, rfl, _⟩ <;> rfl
theorem Rw.len {hp : List Blk} {H : List Nat} {v : Value} {ds : List Dd} (h : Rw hp H v ds) : ∃ p e, v = .slice p ds.length e := by
  rcases h with ⟨rfl, rfl⟩ | ⟨b, rfl, _⟩
  · exact ⟨_, _, rfl⟩
  · exact ⟨_, _, rfl⟩
theorem Rw.refs {hp : List Blk} {H : List Nat} {v : Value} {ds : List Dd} (h : Rw hp H v ds) : ∀ r ∈ refs v, r < hp.length := by
  rcases h with ⟨rfl, rfl⟩ | ⟨b, rfl, _, hb⟩
  · simp [AM.refs, refsF, refsC]
  · have := (List.getElem?_eq_some_iff.1 hb).1
    intro r hr
    simp [AM.refs, refsF, refsC] at hr
    omega
theorem Rw.more {hp hq : List Blk} {H H' : List Nat} {v : Value} {ds : List Dd} (h : Rw hp H v ds) (hm : ∀ b x, hp[b]? = some x → H.contains b = false → hq[b]? = some x ∧ H'.contains b = false) : Rw hq H' v ds := by
  rcases h with h | ⟨b, rfl, h1, h2⟩
  · exact .inl h
  · have := hm b _ h2 h1
    exact .inr ⟨b, rfl, this.2, this.1⟩
theorem Rw.app {hp : List Blk} {H : List Nat} {v : Value} {ds : List Dd} (h : Rw hp H v ds) (nw : List Blk) : Rw (hp ++ nw) H v ds :=
  h.more fun b x hx hh => ⟨by rw [List.getElem?_append_left (List.getElem?_eq_some_iff.1 hx).1, hx], hh⟩
/-- A row: where it lies, and what lies there. -/
theorem Rw.at_ {hp : List Blk} {H : List Nat} {v : Value} {ds : List Dd} (h : Rw hp H v ds) {i : Nat} (hi : i < ds.length) :
    ∃ b cs, v = .slice (some ⟨b, 0, some 0⟩) ds.length 0 ∧ H.contains b = false ∧ hp[b]? = some (.cells 0 true cs) ∧ cs[i * 3]? = some (.int .u32 ds[i].v) ∧ cs[i * 3 + 1]? = some (.int .i64 ds[i].w) ∧ cs[i * 3 + 2]? = some (.bool ds[i].pad) ∧ (cs.drop (i * 3)).take 3 = drow ds[i] ∧ i * 3 + 3 ≤ cs.length := by
  rcases h with ⟨rfl, rfl⟩ | ⟨b, rfl, h1, h2⟩
  · simp at hi
  · have hl : ∀ l ∈ ds.map drow, l.length = 3 := fun l hl => by
      obtain ⟨d, _, rfl⟩ := List.mem_map.1 hl
      rfl
    have hg : ∀ k, k < 3 → (ds.map drow).flatten[i * 3 + k]? = (drow ds[i])[k]? := fun k hk => by
      rw [flat_get hl i k hk, List.getElem?_map, List.getElem?_eq_getElem hi]; rfl
    have hlen : (ds.map drow).flatten.length = ds.length * 3 := by rw [flat_len hl, List.length_map]
    have g0 := hg 0 (by omega)
    refine ⟨b, _, rfl, h1, h2, g0, hg 1 (by omega), hg 2 (by omega), ?_, by omega⟩
    refine List.ext_getElem? fun k => ?_
    rw [List.getElem?_take]
    split
    · next hk => rw [List.getElem?_drop, hg k hk]
    · next hk => rw [List.getElem?_eq_none (by rw [drow_length]; omega)]
theorem rs_slice (b o n e : Nat) (s : Option Nat) : AM.refs (.slice (some ⟨b, o, s⟩) n e) = [b] := rfl
theorem rs_ptr (b o : Nat) (s : Option Nat) : AM.refs (.pointer (some ⟨b, o, s⟩)) = [b] := rfl
theorem rs_int (k : IntKind) (n : Int) : AM.refs (.int k n) = [] := rfl
theorem rn_slice (f : Nat → Nat) (b o n e : Nat) (s : Option Nat) : ren f (.slice (some ⟨b, o, s⟩) n e) = .slice (some ⟨f b, o, s⟩) n e := rfl
theorem rn_ptr (f : Nat → Nat) (b o : Nat) (s : Option Nat) : ren f (.pointer (some ⟨b, o, s⟩)) = .pointer (some ⟨f b, o, s⟩) := rfl
theorem rn_int (f : Nat → Nat) (k : IntKind) (n : Int) : ren f (.int k n) = .int k n := rfl
def wbl (m : List Nat) : List Blk := if m.length = 0 then [] else [Wb m]
section
variable {q : List Blk} {L : Nat} {H : List Nat} {a : Nat}
theorem wset_app (w : Ws q L H a q.length []) (nw : List Blk) (m : List Nat) : wset (q ++ nw) a (q.length + nw.length) m = q.set a (Wr (q.length + nw.length) m) ++ (nw ++ wbl m) := by
  have hlt := w.lt
  unfold wbl
  by_cases h0 : m.length = 0
  · have : m = [] := List.eq_nil_of_length_eq_zero h0
    subst this
    rw [wset_nil h0, if_pos h0, List.append_nil, set_same (by rw [w.w]; rfl)]
  · have e : q.length + nw.length = (q ++ nw).length := by simp
    rw [if_neg h0, e, wset_new h0, List.set_append_left _ _ hlt, List.append_assoc]
/-- The end of a round: the numbers and the writer's bytes are kept. -/
theorem gc_two (w : Ws q L H a q.length []) {nw : List Blk} {x y g n e i : Nat} {s : Option Nat} {cs : List Value} {m : List Nat} {v : Value} (hx : nw[x]? = some (.cells g true cs)) (hxy : x ≠ y) (hy : m.length ≠ 0 → nw[y]? = some (Wb m)) (hv : ∀ r ∈ refs v, r < q.length) :
    gcFr q.length [(4, .slice (some ⟨q.length + x, 0, s⟩) n e), (5, .int .i64 ((i : Int) + 1)), (3, .pointer (some ⟨a, 0, some 0⟩)), (0, v)] ⟨q.set a (Wr (q.length + y) m) ++ nw, L, H, dirt a [] m⟩
      = some ([(4, .slice (some ⟨q.length, 0, s⟩) n e), (5, .int .i64 ((i : Int) + 1)), (3, .pointer (some ⟨a, 0, some 0⟩)), (0, v)], ⟨wset (q ++ [.cells g true cs]) a (q.length + 1) m, L, H, dirt a [] m⟩) := by
  have hlt := w.lt
  have hal : a < (q.set a (Wr (q.length + y) m)).length := by simpa using hlt
  have hb : (q.set a (Wr (q.length + y) m)).length = q.length := by simp
  have hgx : (q.set a (Wr (q.length + y) m) ++ nw)[q.length + x]? = some (.cells g true cs) := by
    rw [List.getElem?_append_right (by simp), hb, Nat.add_sub_cancel_left]; exact hx
  have hvf : (refs v).filter (q.length ≤ ·) = [] := by
    rw [List.filter_eq_nil_iff]
    intro r hr
    have := hv r hr
    simpa using this
  have hf := wset_app w [.cells g true cs] m
  simp only [List.length_cons, List.length_nil, Nat.zero_add] at hf
  rw [hf]
  unfold gcFr wbl
  by_cases h0 : m.length = 0
  · have hm : m = [] := List.eq_nil_of_length_eq_zero h0
    subst hm
    have hd : dirt a [] [] = [] := rfl
    have hs : ∀ k, q.set a (Wr k []) = q := fun k => set_same (by rw [w.w]; rfl)
    rw [hd, hs] at *
    rw [hs, if_pos h0]
    have := gc_many (h := q) (nw := nw) (L := L) (H := H) (d := []) (vs := [.slice (some ⟨q.length + x, 0, s⟩) n e, .int .i64 ((i : Int) + 1), .pointer (some ⟨a, 0, some 0⟩), v]) (R := [q.length + x]) rfl (by simp) (by
      simp only [List.flatMap_cons, List.flatMap_nil, rs_slice, rs_ptr, rs_int, List.append_nil, List.filter_append, List.filter_cons, List.filter_nil, hvf, List.nil_append]
      simp [hlt]) (by simp) (by simp) (fun r hr => by
        simp only [List.mem_cons, List.not_mem_nil, or_false] at hr
        subst hr; exact ⟨_, _, hgx⟩)
    simp only [List.map_cons, List.map_nil]
    rw [this]
    have f1 : firsts [q.length + x] [] = [q.length + x] := rfl
    have p1 := plc_one q.length x
    have hvr : ren (plc q.length [q.length + x]) v = v := ren_id fun r hr => plc_old (hv r hr)
    have pa : plc q.length [q.length + x] a = a := plc_old hlt
    rw [f1]
    simp only [List.map_cons, List.map_nil, hvr, rn_slice, rn_ptr, rn_int, p1, pa, renAll, Option.map_some, List.getD_eq_getElem?_getD, hgx, Option.getD_some, List.zip_cons_cons, List.zip_nil_left, List.append_nil]
  · rw [if_neg h0, dirt_new rfl h0]
    have hgy : (q.set a (Wr (q.length + y) m) ++ nw)[q.length + y]? = some (Wb m) := by
      rw [List.getElem?_append_right (by simp), hb, Nat.add_sub_cancel_left]; exact hy h0
    have hga : (q.set a (Wr (q.length + y) m))[a]? = some (Wr (q.length + y) m) := List.getElem?_set_self hlt
    have hra : refsAt (q.set a (Wr (q.length + y) m)) a = [q.length + y] := by unfold refsAt; rw [hga]; exact Wr_refs h0
    have := gc_many (h := q.set a (Wr (q.length + y) m)) (nw := nw) (L := L) (H := H) (d := [a]) (vs := [.slice (some ⟨q.length + x, 0, s⟩) n e, .int .i64 ((i : Int) + 1), .pointer (some ⟨a, 0, some 0⟩), v]) (R := [q.length + x, q.length + y]) rfl (by simpa using hlt) (by
      simp only [List.flatMap_cons, List.flatMap_nil, rs_slice, rs_ptr, rs_int, List.append_nil, List.filter_append, List.filter_cons, List.filter_nil, hb, hvf, List.nil_append, hra]
      simp [hlt]) (by simp) (by simp) (fun r hr => by
        simp only [List.mem_cons, List.not_mem_nil, or_false] at hr
        rcases hr with rfl | rfl
        · exact ⟨_, _, hgx⟩
        · exact ⟨_, _, hgy⟩)
    rw [hb] at this
    simp only [List.map_cons, List.map_nil]
    rw [this]
    have f1 : firsts [q.length + x, q.length + y] [] = [q.length + x, q.length + y] := by simp [firsts]; omega
    rw [f1]
    have p1 : plc q.length [q.length + x, q.length + y] (q.length + x) = q.length := by simp [plc]; omega
    have p2 : plc q.length [q.length + x, q.length + y] (q.length + y) = q.length + 1 := by
      have : (q.length + x == q.length + y) = false := by simp; omega
      simp [plc, List.idxOf_cons, this]; omega
    have hvr : ren (plc q.length [q.length + x, q.length + y]) v = v := ren_id fun r hr => plc_old (hv r hr)
    have pa : plc q.length [q.length + x, q.length + y] a = a := plc_old hlt
    have hm : (q.set a (Wr (q.length + y) m)).modify a (renB (plc q.length [q.length + x, q.length + y])) = q.set a (Wr (q.length + 1) m) := by
      refine List.ext_getElem? fun i => ?_
      rw [List.getElem?_modify, List.getElem?_set]
      by_cases c : a = i
      · subst c
        rw [if_pos rfl, if_pos hlt, List.getElem?_set_self hlt]
        simp only [if_true, Option.map_some]
        rw [Wr_some h0, Wr_some h0]
        simp [renB, renC, p2]
      · rw [if_neg c, List.getElem?_set_ne c]; simp [c]
    simp only [List.map_cons, List.map_nil, hvr, rn_slice, rn_ptr, rn_int, p1, p2, pa, renAll, hm, Option.map_some, List.getD_eq_getElem?_getD, hgx, hgy, Option.getD_some, List.zip_cons_cons, List.zip_nil_left, List.cons_append, List.nil_append]
end
end Bt
end Go.Proofs.Ytlphmnhkkhcjfaa
end
