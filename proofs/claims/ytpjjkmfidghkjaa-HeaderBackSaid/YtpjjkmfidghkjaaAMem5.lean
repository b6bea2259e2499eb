/-
  THE ABSTRACT MACHINE's MEMORY: a new block, a write, a block made longer: the state goes on standing for the world. Conditions: none.
  THE ABSTRACT MACHINE's MEMORY OPERATIONS, one by one. Conditions: none.
  THE ABSTRACT MACHINE's MEMORY OPERATIONS: literals of slices, make, append, copy, clear, strings and bytes. Conditions: none.
  THE ABSTRACT MACHINE's MEMORY OPERATIONS: append, copy, clear. Conditions: none.
  THE ABSTRACT MACHINE's MEMORY OPERATIONS: copy, clear. Conditions: none.
-/
import Derived.Test.YtpjjkmfidghkjaaAPure3
import Derived.Laws.MakeOwn
import Derived.Laws.AppendOwn
import Derived.Laws.BytesArg
import Derived.Great.BuildSlice
set_option linter.all false
section
namespace Go.Proofs.Ytpjjkmfidghkjaa
namespace AM
open Go Go.RowKit

theorem blk_inv {σ : St} {a : Addr} {pl : Bool} {cs : List Value} (h : σ.blk a = some (pl, cs)) : a.block ∉ σ.hid ∧ ∃ g, σ.heap[a.block]? = some (.cells g pl cs) ∧ a.spot = some g := by
  unfold St.blk at h
  split at h
  · cases h
  · rename_i hh
    split at h
    · rename_i g pl' cs' e
      split at h
      · rename_i hs
        cases h
        exact ⟨by simpa using hh, g, e, hs⟩
      · cases h
    · cases h
/-- What is known of a block that is read. -/
theorem Sim.read {w0 w : World} {X : Emb} {σ : St} (S : Sim w0 X σ w) {a ra : Addr} {pl : Bool} {cs : List Value} (hb : σ.blk a = some (pl, cs)) (hr : relA X a ra) :
    ∃ bx, X a.block = some bx ∧ a.spot = some bx.gen ∧ ra = ⟨bx.b, bx.o + a.off, none⟩ ∧ ∀ j v, cs[j]? = some v → ∃ u, w.cell? ⟨bx.b, bx.o + j, none⟩ = some u ∧ relC X v u := by
  obtain ⟨hh, g, hg, hs⟩ := blk_inv hb
  obtain ⟨bx, hx, s, hs', hl, hra⟩ := hr
  obtain ⟨h1, h2, h3, h4, h5, h6⟩ := S.cell _ bx g pl cs hx hh hg
  rw [hs] at hs'
  cases hs'
  exact ⟨bx, hx, by rw [hs, h1], hra h1, h5⟩
theorem Sim.readCells {w0 w : World} {X : Emb} {σ : St} (S : Sim w0 X σ w) {a ra : Addr} {pl : Bool} {cs : List Value} (hb : σ.blk a = some (pl, cs)) (hr : relA X a ra) {n : Nat} (hn : a.off + n ≤ cs.length) :
    ∃ rs : List Value, rel2 (relC X) ((cs.drop a.off).take n) rs ∧ ∀ j u, rs[j]? = some u → w.cell? (ra.add j) = some u := by
  obtain ⟨bx, hx, hs, rfl, hc⟩ := S.read hb hr
  have key : ∀ m, m ≤ n → ∃ rs : List Value, rel2 (relC X) ((cs.drop a.off).take m) rs ∧ ∀ j u, rs[j]? = some u → w.cell? ((⟨bx.b, bx.o + a.off, none⟩ : Addr).add j) = some u := by
    intro m
    induction m with
    | zero => intro _; exact ⟨[], by simpa using rel2.nil, by simp⟩
    | succ m ih =>
      intro hm
      obtain ⟨rs, h1, h2⟩ := ih (by omega)
      have hlt : a.off + m < cs.length := by omega
      obtain ⟨u, hu, hr'⟩ := hc (a.off + m) cs[a.off + m] (List.getElem?_eq_getElem hlt)
      refine ⟨rs ++ [u], ?_, fun j u' hj => ?_⟩
      · rw [List.take_succ_eq_append_getElem (by simp; omega)]
        refine h1.append ?_
        have : (cs.drop a.off)[m]'(by simp; omega) = cs[a.off + m] := by simp
        rw [this]
        exact rel2.nil.cons hr'
      · have hl : rs.length = m := by rw [← h1.1]; simp; omega
        rcases Nat.lt_or_ge j rs.length with hj' | hj'
        · rw [List.getElem?_append_left hj'] at hj
          exact h2 j u' hj
        · rw [List.getElem?_append_right hj'] at hj
          have : j = m := by
            have := (List.getElem?_eq_some_iff.1 hj).1
            simp at this; omega
          subst this
          rw [hl] at hj
          simp at hj
          subst hj
          rw [add_lit, ← hu]
          congr 2
          omega
  exact key n (Nat.le_refl _)

/-- A new block. -/
theorem sim_new {w0 w w' : World} {X : Emb} {σ : St} (S : Sim w0 X σ w) {rcs : Array Value} {ty : TypeId} {lo hi g : Nat} {pl : Bool} {cs : List Value}
    (hh : w'.heap = w.heap.push (.cells rcs ty (lo, hi))) (h1 : w'.os = w.os) (h2 : w'.tape = w.tape) (h3 : w'.output = w.output) (hf : hi = lo ∨ rcs.size ≤ lo) (hg : g ≤ cs.length) (hl : cs.length ≤ rcs.size)
    (hp : pl = true → cs.all sc = true) (hr : ∀ (j : Nat) (v : Value), cs[j]? = some v → ∃ u, rcs[j]? = some u ∧ relC X v u) (hz : cs.length = 0 → rcs.size = 0) :
    let X' : Emb := ⟨fun id => if id = σ.heap.length then some ⟨w.heap.size, 0, true, g, cs.length, rcs.size⟩ else X id, X.y⟩
    Sim w0 X' { σ with heap := σ.heap ++ [.cells g pl cs] } w' ∧ Stp X σ w X' w' ∧ Ast σ { σ with heap := σ.heap ++ [.cells g pl cs] } := by
  intro X'
  have hnone : X σ.heap.length = none := by
    cases hx : X σ.heap.length with
    | none => rfl
    | some bx => have := S.dom _ _ hx; omega
  have hX : ∀ id bx, X id = some bx → X' id = some bx := fun id bx hx => by
    have := S.dom _ _ hx
    simp only [X']
    rw [if_neg (by omega)]
    exact hx
  have hevo : Evo X X' := Evo.mk' rfl fun id bx hx => ⟨bx, hX id bx hx, .inl rfl⟩
  have hold : ∀ k, k < w.heap.size → w'.heap[k]? = w.heap[k]? := fun k hk => by rw [hh, Array.getElem?_push, if_neg (by omega)]
  have hcell : ∀ (b : Nat) (o : Nat), b < w.heap.size → w'.cell? ⟨b, o, none⟩ = w.cell? ⟨b, o, none⟩ := fun b o hb => World.cell?_of_block (w := w) (hold b hb)
  have hsz : w'.heap.size = w.heap.size + 1 := by rw [hh]; simp
  have hback : ∀ id bx', X' id = some bx' → (id = σ.heap.length ∧ bx' = ⟨w.heap.size, 0, true, g, cs.length, rcs.size⟩) ∨ (id ≠ σ.heap.length ∧ X id = some bx') := fun id bx' h => by
    simp only [X'] at h
    split at h
    · rename_i e; cases h; exact .inl ⟨e, rfl⟩
    · rename_i e; exact .inr ⟨e, h⟩
  refine ⟨⟨?_, ?_, ?_, ?_, ?_, ?_, ?_⟩, ⟨by omega, h1, h2, h3, fun k hk _ => hold k hk, hevo, ?_, ?_⟩, ⟨by simp, rfl, rfl, fun _ h => h, ?_, ?_, fun t h => .inl h⟩⟩
  · exact S.bel.trans ⟨h1, h2, h3, by omega, fun k hk => hold k (by have := S.bel.size; omega)⟩
  · intro id bx h
    rcases hback id bx h with ⟨rfl, _⟩ | ⟨_, h⟩
    · simp
    · have := S.dom _ _ h; simp; omega
  · intro id bx h
    rcases hback id bx h with ⟨rfl, rfl⟩ | ⟨_, h⟩
    · simp; exact ⟨by omega, S.bel.size⟩
    · have := S.place _ _ h; exact ⟨by omega, this.2⟩
  · intro id bx g' pl' cs' h hh' hc
    rcases hback id bx h with ⟨rfl, rfl⟩ | ⟨hne, h⟩
    · simp only [List.getElem?_append_right (Nat.le_refl _), Nat.sub_self, List.getElem?_cons_zero, Option.some.injEq, Blk.cells.injEq] at hc
      obtain ⟨rfl, rfl, rfl⟩ := hc
      have hnew : w'.heap[w.heap.size]? = some (.cells rcs ty (lo, hi)) := by rw [hh]; simp
      refine ⟨rfl, rfl, hg, hp, fun j v hv => ?_, fun _ => ⟨rfl, rcs, ty, lo, hi, hnew, rfl, hl, hf⟩⟩
      obtain ⟨u, hu, hr'⟩ := hr j v hv
      exact ⟨u, by simp [World.cell?, hnew, hu], hr'.evo hevo⟩
    · have hlt := S.dom _ _ h
      rw [List.getElem?_append_left hlt] at hc
      obtain ⟨c1, c2, c3, c4, c5, c6⟩ := S.cell id bx g' pl' cs' h hh' hc
      have hb := (S.place _ _ h).1
      refine ⟨c1, c2, c3, c4, fun j v hv => ?_, fun ho => ?_⟩
      · obtain ⟨u, hu, hr'⟩ := c5 j v hv
        exact ⟨u, by rw [hcell _ _ hb]; exact hu, hr'.evo hevo⟩
      · obtain ⟨o1, rs, ty', lo', hi', o2, o3⟩ := c6 ho
        exact ⟨o1, rs, ty', lo', hi', by rw [hold _ hb]; exact o2, o3⟩
  · intro i j bi bj hi hj oi oj e
    rcases hback i bi hi with ⟨rfl, rfl⟩ | ⟨_, hi⟩ <;> rcases hback j bj hj with ⟨rfl, rfl⟩ | ⟨_, hj⟩
    · rfl
    · have := (S.place _ _ hj).1; simp at e; omega
    · have := (S.place _ _ hi).1; simp at e; omega
    · exact S.inj i j bi bj hi hj oi oj e
  · intro id bx h hl'
    rcases hback id bx h with ⟨rfl, rfl⟩ | ⟨_, h⟩
    · rfl
    · exact S.lock id bx h hl'
  · intro id bx h h0
    rcases hback id bx h with ⟨rfl, rfl⟩ | ⟨_, h⟩
    · exact hz h0
    · exact S.zero id bx h h0
  · intro id bx bx' h h'
    rw [hX id bx h] at h'
    cases h'
    exact .inl rfl
  · intro id bx' h
    rcases hback id bx' h with ⟨rfl, rfl⟩ | ⟨_, h⟩
    · exact .inr ⟨hnone, rfl, Nat.le_refl _, Nat.le_refl _⟩
    · exact .inl ⟨bx', h, rfl, .inl rfl⟩
  · intro id hi _ r hr
    simpa [refsAt, List.getElem?_append_left hi] using hr
  · intro id hi _
    exact List.getElem?_append_left hi

/-- A write into a block. -/
theorem sim_write {w0 w w' : World} {X : Emb} {σ : St} (S : Sim w0 X σ w) {id : Nat} {bx : Bx} {g : Nat} {pl : Bool} {cs cs' : List Value} {d : List Nat} {rs rs' : Array Value} {ty : TypeId} {lo hi : Nat}
    (hx : X id = some bx) (hlk : σ.lock ≤ id) (hhid : id ∉ σ.hid) (hc : σ.heap[id]? = some (.cells g pl cs)) (hr0 : w.heap[bx.b]? = some (.cells rs ty (lo, hi)))
    (hh : w'.heap[bx.b]? = some (.cells rs' ty (lo, hi))) (hsz : w'.heap.size = w.heap.size) (hold : ∀ k, k ≠ bx.b → w'.heap[k]? = w.heap[k]?) (h1 : w'.os = w.os) (h2 : w'.tape = w.tape) (h3 : w'.output = w.output)
    (hl : cs'.length = cs.length) (hrl : rs'.size = rs.size) (hp : pl = true → cs'.all sc = true) (hr : ∀ (j : Nat) (v : Value), cs'[j]? = some v → ∃ u, rs'[j]? = some u ∧ relC X v u)
    (hd1 : ∀ t, t ∈ σ.dirty → t ∈ d) (hd2 : ∀ t, t ∈ d → t ∈ σ.dirty ∨ t = id) (hd3 : id ∉ d → ∀ r, r ∈ refsB (.cells g pl cs') → r ∈ refsB (.cells g pl cs)) :
    Sim w0 X { σ with heap := σ.heap.set id (.cells g pl cs'), dirty := d } w' ∧ Stp X σ w X w' ∧ Ast σ { σ with heap := σ.heap.set id (.cells g pl cs'), dirty := d } := by
  have hown := S.lock id bx hx hlk
  obtain ⟨c1, c2, c3, c4, c5, c6⟩ := S.cell id bx g pl cs hx hhid hc
  obtain ⟨o1, rs0, ty0, lo0, hi0, o2, o3, o4, o5⟩ := c6 hown
  rw [hr0] at o2
  cases o2
  have hbp := S.place id bx hx
  rw [hown] at hbp
  simp only [if_true] at hbp
  have hlen : id < σ.heap.length := S.dom _ _ hx
  have hother : ∀ j bj, X j = some bj → j ≠ id → bj.b ≠ bx.b := fun j bj hj hne e => by
    cases ho : bj.own with
    | true => exact hne (S.inj j id bj bx hj hx ho hown e)
    | false =>
      have := (S.place j bj hj).2
      rw [ho] at this
      simp at this
      omega
  refine ⟨⟨?_, ?_, ?_, ?_, S.inj, S.lock, S.zero⟩, ⟨by omega, h1, h2, h3, fun k _ hk => hold k fun e => hk id bx hx hlk hhid hown e.symm, Evo.refl X, fun id bx bx' h h' => by rw [h] at h'; cases h'; exact .inl rfl, fun id bx' h => .inl ⟨bx', h, rfl, .inl rfl⟩⟩,
    ⟨by simp, rfl, rfl, hd1, ?_, ?_, ?_⟩⟩
  · exact S.bel.trans ⟨h1, h2, h3, by omega, fun k hk => hold k (by omega)⟩
  · intro j bj hj; simpa using S.dom j bj hj
  · intro j bj hj; have := S.place j bj hj; rw [hsz]; exact this
  · intro j bj g' pl' cs'' hj hh' hc'
    by_cases hji : j = id
    · subst hji
      rw [hx] at hj
      cases hj
      rw [List.getElem?_set_self hlen] at hc'
      cases hc'
      refine ⟨c1, by omega, by omega, hp, fun j v hv => ?_, fun _ => ⟨o1, rs', ty, lo, hi, hh, by omega, o4, o5⟩⟩
      obtain ⟨u, hu, hr'⟩ := hr j v hv
      exact ⟨u, by simp [World.cell?, hh, o1, hu], hr'⟩
    · rw [List.getElem?_set_ne (Ne.symm hji)] at hc'
      obtain ⟨k1, k2, k3, k4, k5, k6⟩ := S.cell j bj g' pl' cs'' hj hh' hc'
      have hne := hother j bj hj hji
      refine ⟨k1, k2, k3, k4, fun i v hv => ?_, fun ho => ?_⟩
      · obtain ⟨u, hu, hr'⟩ := k5 i v hv
        exact ⟨u, by rw [World.cell?_of_block (w := w) (hold bj.b hne)]; exact hu, hr'⟩
      · obtain ⟨q1, q2, q3, q4, q5, q6, q7⟩ := k6 ho
        exact ⟨q1, q2, q3, q4, q5, by rw [hold _ hne]; exact q6, q7⟩
  · intro j hj hnd r hr'
    by_cases hji : j = id
    · subst hji
      have h := hd3 hnd r
      unfold refsAt at hr' ⊢
      rw [List.getElem?_set_self hlen] at hr'
      rw [hc]
      exact h hr'
    · unfold refsAt at hr' ⊢
      rwa [List.getElem?_set_ne (Ne.symm hji)] at hr'
  · intro j hj hl'
    refine List.getElem?_set_ne fun e => ?_
    subst e
    rcases hl' with hl' | hl'
    · omega
    · exact hhid hl'
  · intro t ht
    rcases hd2 t ht with h | rfl
    · exact .inl h
    · exact .inr ⟨hlk, hhid⟩

/-- A block whose cells stay, of which more cannot be written behind its end. -/
theorem sim_mark {w0 w w' : World} {X : Emb} {σ : St} (S : Sim w0 X σ w) {id : Nat} {bx : Bx} {rs : Array Value} {ty : TypeId} {lo hi lo' hi' : Nat}
    (hx : X id = some bx) (hlk : σ.lock ≤ id) (hhid : id ∉ σ.hid) (hr0 : w.heap[bx.b]? = some (.cells rs ty (lo, hi)))
    (hh : w'.heap[bx.b]? = some (.cells rs ty (lo', hi'))) (hf : hi' = lo' ∨ rs.size ≤ lo') (hsz : w'.heap.size = w.heap.size) (hold : ∀ k, k ≠ bx.b → w'.heap[k]? = w.heap[k]?) (h1 : w'.os = w.os) (h2 : w'.tape = w.tape) (h3 : w'.output = w.output) :
    Sim w0 X σ w' ∧ Stp X σ w X w' := by
  have hown := S.lock id bx hx hlk
  have hbp := S.place id bx hx
  rw [hown] at hbp
  simp only [if_true] at hbp
  have hcell : ∀ (b o : Nat), w'.cell? ⟨b, o, none⟩ = w.cell? ⟨b, o, none⟩ := fun b o => by
    by_cases e : b = bx.b
    · subst e; simp [World.cell?, hh, hr0]
    · exact World.cell?_of_block (w := w) (hold b e)
  refine ⟨⟨?_, S.dom, ?_, ?_, S.inj, S.lock, S.zero⟩, ⟨by omega, h1, h2, h3, fun k _ hk => hold k fun e => hk id bx hx hlk hhid hown e.symm, Evo.refl X, fun id bx bx' h h' => by rw [h] at h'; cases h'; exact .inl rfl, fun id bx' h => .inl ⟨bx', h, rfl, .inl rfl⟩⟩⟩
  · exact S.bel.trans ⟨h1, h2, h3, by omega, fun k hk => hold k (by omega)⟩
  · intro j bj hj; have := S.place j bj hj; rw [hsz]; exact this
  · intro j bj g pl cs hj hh' hc'
    obtain ⟨k1, k2, k3, k4, k5, k6⟩ := S.cell j bj g pl cs hj hh' hc'
    refine ⟨k1, k2, k3, k4, fun i v hv => ?_, fun ho => ?_⟩
    · rw [hcell]; exact k5 i v hv
    · obtain ⟨q1, q2, q3, q4, q5, q6, q7, q8⟩ := k6 ho
      by_cases e : bj.b = bx.b
      · rw [e, hr0] at q6
        cases q6
        exact ⟨q1, rs, ty, lo', hi', by rw [e]; exact hh, q7, q8.1, by rw [← q7]; exact hf⟩
      · exact ⟨q1, q2, q3, q4, q5, by rw [hold _ e]; exact q6, q7, q8⟩

/-- A block made longer, where it lies or in a new place. -/
theorem sim_grow {w0 w w' : World} {X : Emb} {σ : St} (S : Sim w0 X σ w) {id : Nat} {bx : Bx} {g g' b' : Nat} {pl : Bool} {cs vs : List Value} {d : List Nat} {rs' : Array Value} {ty : TypeId} {lo hi : Nat}
    (hx : X id = some bx) (hlk : σ.lock ≤ id) (hhid : id ∉ σ.hid) (hc : σ.heap[id]? = some (.cells g pl cs))
    (hh : w'.heap[b']? = some (.cells rs' ty (lo, hi))) (hsz : w.heap.size ≤ w'.heap.size) (hb : b' = bx.b ∨ w.heap.size ≤ b') (hold : ∀ k, k < w.heap.size → k ≠ bx.b → w'.heap[k]? = w.heap[k]?) (h1 : w'.os = w.os) (h2 : w'.tape = w.tape) (h3 : w'.output = w.output)
    (hg : g < g') (hg' : g' ≤ (cs ++ vs).length) (hf : hi = lo ∨ rs'.size ≤ lo) (hl : (cs ++ vs).length ≤ rs'.size) (hp : pl = true → vs.all sc = true) (hr : ∀ (j : Nat) (v : Value), (cs ++ vs)[j]? = some v → ∃ u, rs'[j]? = some u ∧ relC X v u)
    (hd1 : ∀ t, t ∈ σ.dirty → t ∈ d) (hd2 : ∀ t, t ∈ d → t ∈ σ.dirty ∨ t = id) (hd3 : id ∉ d → vs.flatMap refsC = []) :
    let X' : Emb := ⟨fun i => if i = id then some ⟨b', 0, true, g', (cs ++ vs).length, rs'.size⟩ else X i, X.y⟩
    Sim w0 X' { σ with heap := σ.heap.set id (.cells g' pl (cs ++ vs)), dirty := d } w' ∧ Stp X σ w X' w' ∧ Ast σ { σ with heap := σ.heap.set id (.cells g' pl (cs ++ vs)), dirty := d } := by
  intro X'
  have hown := S.lock id bx hx hlk
  obtain ⟨c1, c2, c3, c4, c5, c6⟩ := S.cell id bx g pl cs hx hhid hc
  have hbp := S.place id bx hx
  rw [hown] at hbp
  simp only [if_true] at hbp
  have hlen : id < σ.heap.length := S.dom _ _ hx
  have hb'lt : b' < w'.heap.size := by
    rcases Nat.lt_or_ge b' w'.heap.size with h | h
    · exact h
    · rw [Array.getElem?_eq_none h] at hh; cases hh
  have hother : ∀ j bj, X j = some bj → j ≠ id → bj.b ≠ bx.b := fun j bj hj hne e => by
    cases ho : bj.own with
    | true => exact hne (S.inj j id bj bx hj hx ho hown e)
    | false =>
      have := (S.place j bj hj).2
      rw [ho] at this
      simp at this
      omega
  have hXid : X' id = some ⟨b', 0, true, g', (cs ++ vs).length, rs'.size⟩ := by simp [X']
  have hXne : ∀ j, j ≠ id → X' j = X j := fun j hj => by simp [X', hj]
  have hevo : Evo X X' := Evo.mk' rfl fun j bj hj => by
    by_cases hji : j = id
    · subst hji
      rw [hx] at hj; cases hj
      exact ⟨_, hXid, .inr (by simp only; omega)⟩
    · exact ⟨bj, by rw [hXne j hji]; exact hj, .inl rfl⟩
  refine ⟨⟨?_, ?_, ?_, ?_, ?_, ?_, ?_⟩, ⟨hsz, h1, h2, h3, fun k hk hk' => hold k hk fun e => hk' id bx hx hlk hhid hown e.symm, hevo, ?_, ?_⟩, ⟨by simp, rfl, rfl, hd1, ?_, ?_, ?_⟩⟩
  · exact S.bel.trans ⟨h1, h2, h3, hsz, fun k hk => hold k (by have := S.bel.size; omega) (by omega)⟩
  · intro j bj hj
    by_cases hji : j = id
    · subst hji; simpa using hlen
    · rw [hXne j hji] at hj; simpa using S.dom j bj hj
  · intro j bj hj
    by_cases hji : j = id
    · subst hji
      rw [hXid] at hj; cases hj
      refine ⟨hb'lt, ?_⟩
      simp only [if_true]
      have := S.bel.size
      rcases hb with rfl | hb <;> omega
    · rw [hXne j hji] at hj
      have := S.place j bj hj
      exact ⟨by omega, this.2⟩
  · intro j bj g2 pl2 cs2 hj hh' hc'
    by_cases hji : j = id
    · subst hji
      rw [hXid] at hj
      cases hj
      rw [List.getElem?_set_self hlen] at hc'
      cases hc'
      refine ⟨rfl, rfl, hg', fun e => ?_, fun i v hv => ?_, fun _ => ⟨rfl, rs', ty, lo, hi, hh, rfl, hl, hf⟩⟩
      · rw [List.all_append, c4 e, hp e]; rfl
      · obtain ⟨u, hu, hr'⟩ := hr i v hv
        exact ⟨u, by simp [World.cell?, hh, hu], hr'.evo hevo⟩
    · rw [hXne j hji] at hj
      rw [List.getElem?_set_ne (Ne.symm hji)] at hc'
      obtain ⟨k1, k2, k3, k4, k5, k6⟩ := S.cell j bj g2 pl2 cs2 hj hh' hc'
      have hne := hother j bj hj hji
      have hlt := (S.place j bj hj).1
      refine ⟨k1, k2, k3, k4, fun i v hv => ?_, fun ho => ?_⟩
      · obtain ⟨u, hu, hr'⟩ := k5 i v hv
        exact ⟨u, by rw [World.cell?_of_block (w := w) (hold bj.b hlt hne)]; exact hu, hr'.evo hevo⟩
      · obtain ⟨q1, q2, q3, q4, q5, q6, q7⟩ := k6 ho
        exact ⟨q1, q2, q3, q4, q5, by rw [hold _ hlt hne]; exact q6, q7⟩
  · intro i j bi bj hi hj oi oj e
    by_cases hii : i = id <;> by_cases hjj : j = id
    · rw [hii, hjj]
    · subst hii
      rw [hXid] at hi; cases hi
      rw [hXne j hjj] at hj
      have h1 := hother j bj hj hjj
      have h2 := (S.place j bj hj).1
      simp at e
      rcases hb with rfl | hb
      · exact absurd e.symm h1
      · omega
    · subst hjj
      rw [hXid] at hj; cases hj
      rw [hXne i hii] at hi
      have h1 := hother i bi hi hii
      have h2 := (S.place i bi hi).1
      simp at e
      rcases hb with rfl | hb
      · exact absurd e h1
      · omega
    · rw [hXne i hii] at hi
      rw [hXne j hjj] at hj
      exact S.inj i j bi bj hi hj oi oj e
  · intro j bj hj hl'
    by_cases hji : j = id
    · subst hji; rw [hXid] at hj; cases hj; rfl
    · rw [hXne j hji] at hj; exact S.lock j bj hj hl'
  · intro j bj hj h0
    by_cases hji : j = id
    · subst hji
      rw [hXid] at hj; cases hj
      simp only at h0; omega
    · rw [hXne j hji] at hj; exact S.zero j bj hj h0
  · intro j bj bj' hj hj'
    by_cases hji : j = id
    · subst hji; exact .inr ⟨hlk, hhid⟩
    · rw [hXne j hji, hj] at hj'; cases hj'; exact .inl rfl
  · intro j bj' hj
    by_cases hji : j = id
    · subst hji
      rw [hXid] at hj; cases hj
      exact .inl ⟨bx, hx, hown.symm, hb⟩
    · rw [hXne j hji] at hj
      exact .inl ⟨bj', hj, rfl, .inl rfl⟩
  · intro j hj hnd r hr'
    by_cases hji : j = id
    · subst hji
      have h := hd3 hnd
      unfold refsAt at hr' ⊢
      rw [List.getElem?_set_self hlen] at hr'
      rw [hc]
      cases pl with
      | true => simp [refsB] at hr'
      | false =>
        simp only [refsB, List.flatMap_append, h, List.append_nil] at hr'
        exact hr'
    · unfold refsAt at hr' ⊢
      rwa [List.getElem?_set_ne (Ne.symm hji)] at hr'
  · intro j hj hl'
    refine List.getElem?_set_ne fun e => ?_
    subst e
    rcases hl' with hl' | hl'
    · omega
    · exact hhid hl'
  · intro t ht
    rcases hd2 t ht with h | rfl
    · exact .inl h
    · exact .inr ⟨hlk, hhid⟩
end AM
end Go.Proofs.Ytpjjkmfidghkjaa
end
section
namespace Go.Proofs.Ytpjjkmfidghkjaa
namespace AM
open Go Go.RowKit

section
variable {P : Program} {X : Emb} {fr : Fr} {a : Act} {o : Oper} {v : Value} {w0 w : World} {σ σ' : St}

/-- What an operation does: its result stands for the abstract one's. -/
def Does (P : Program) (w0 : World) (o : Oper) (a : Act) (X : Emb) (σ : St) (w : World) (v : Value) (σ' : St) : Prop :=
  Ast σ σ' ∧ ∃ n u w' X', (execOp a.eval o).run P w = .ok n w' ∧ (n = .value u ∨ (n = .skip ∧ u = undef)) ∧ relV X' v u ∧ Sim w0 X' σ' w' ∧ Stp X σ w X' w'
theorem Gives.does (S : Sim w0 X σ w) (h : Gives P o a w X v) : Does P w0 o a X σ w v σ := by
  obtain ⟨u, h1, h2⟩ := h
  exact ⟨Ast.refl _, _, u, w, X, h1, .inl rfl, h2, S, Stp.refl _ _ _⟩

theorem run_storeCells_fr (b off : Nat) (ty : TypeId) (lo hi : Nat) : ∀ (us : List Value) (i : Nat) (rs : Array Value) (w : World), w.heap[b]? = some (.cells rs ty (lo, hi)) → (hi = lo ∨ rs.size ≤ lo) → off + i + us.length ≤ rs.size → (∀ u ∈ us, u.oneCell' = true) →
    ∃ w', (storeCells ⟨b, off, none⟩ us i).run P w = .ok () w' ∧ w'.heap[b]? = some (.cells (putAt rs.toList (off + i) us).toArray ty (lo, hi)) ∧ w'.heap.size = w.heap.size ∧ (∀ k, k ≠ b → w'.heap[k]? = w.heap[k]?) ∧ w'.os = w.os ∧ w'.tape = w.tape ∧ w'.output = w.output
  | [], i, rs, w, hg, _, _, _ => ⟨w, rfl, by simpa [putAt] using hg, rfl, fun _ _ => rfl, rfl, rfl, rfl⟩
  | u :: us, i, rs, w, hg, hf, hl, h1 => by
    have hi' : off + i < rs.size := by simp at hl; omega
    have hadd : (⟨b, off, none⟩ : Addr).add i = ⟨b, off + i, none⟩ := add_lit b off i
    have hcell : w.cell? ⟨b, off + i, none⟩ = some rs[off + i] := by simp [World.cell?, hg, hi']
    have hfro : w.frozen? ⟨b, off + i, none⟩ = false := by
      simp only [World.frozen?, hg, Bool.and_eq_false_iff, decide_eq_false_iff_not]
      omega
    have hst : (store ((⟨b, off, none⟩ : Addr).add i) u).run P w = .ok () (w.setCell ⟨b, off + i, none⟩ u) := by
      rw [hadd, run_store P w _ u _ (h1 u (by simp)), hcell]
      simp [hfro]
    have hset : (w.setCell ⟨b, off + i, none⟩ u).heap[b]? = some (.cells (rs.setIfInBounds (off + i) u) ty (lo, hi)) := by
      simp [World.setCell, Array.getElem?_modify, hg]
    obtain ⟨w', e1, e2, e3, e4, e5, e6, e7⟩ := run_storeCells_fr b off ty lo hi us (i + 1) (rs.setIfInBounds (off + i) u) (w.setCell ⟨b, off + i, none⟩ u) hset (by simpa using hf) (by simp at hl ⊢; omega) (fun x hx => h1 x (by simp [hx]))
    refine ⟨w', by simp only [storeCells, Sem.run_bind, hst, Result.andThen_ok, e1], ?_, by rw [e3]; simp [World.setCell], fun k hk => ?_, e5, e6, e7⟩
    · rw [e2]
      simp [putAt, Nat.add_assoc]
    · rw [e4 k hk, Below.heap_setCell _ _ _ _ hk]

theorem run_loadVar_rel {t : TypeId} {n : Option Nat} {ad ra : Addr} {pl : Bool} {cs : List Value} (ht : spanTy P t = some n) (S : Sim w0 X σ w) (hb : σ.blk ad = some (pl, cs)) (hr : relA X ad ra) (h : rdCells cs ad.off n = some v) :
    ∃ u, (loadVar t ra).run P w = .ok u w ∧ relF X v u := by
  cases n with
  | none =>
    obtain ⟨h1, h2⟩ := spanTy_one ht
    obtain ⟨bx, hx, hs, rfl, hc⟩ := S.read hb hr
    simp only [rdCells] at h
    obtain ⟨u, hu, hv⟩ := hc _ _ h
    exact ⟨u, by simp [loadVar, run_isAgg h1, hu], relF_of_relC hv⟩
  | some n =>
    obtain ⟨h1, h2⟩ := spanTy_agg ht
    simp only [rdCells] at h
    split at h
    · rename_i hle
      cases h
      obtain ⟨rs, h3, h4⟩ := S.readCells hb hr hle
      have hl : rs.length = n := by rw [← h3.1]; simp; omega
      have := run_loadCells_list (P := P) w ra rs h4
      rw [hl] at this
      refine ⟨.agg rs.toArray, by simp [loadVar, run_isAgg h1, run_size h2, this], ?_⟩
      simp only [relF]
      exact ⟨_, rfl, h3⟩
    · cases h
theorem load_does {t : TypeId} {n : Option Nat} {x : Operand} {callf : CallF} (ho : o.op = .load t x) (ht : spanTy P t = some n) (S : Sim w0 X σ w) (hx : ∀ v, ev fr x = some v → relV X v (a.eval x)) (h : aop callf (.load n x) fr σ = some (v, σ')) : Does P w0 o a X σ w v σ' := by
  simp only [aop] at h
  split at h
  · rename_i ad e
    simp only [Option.bind_eq_some_iff, Option.map_eq_some_iff] at h
    obtain ⟨⟨pl, cs⟩, hb, q, hq, h⟩ := h
    cases h
    obtain ⟨ra, h1, h2⟩ := relV_ptr (hx _ e)
    obtain ⟨u, hu, hr⟩ := run_loadVar_rel (P := P) ht S hb h2 hq
    exact Gives.does S ⟨u, by simp [execOp, ho, h1, Instr.loadAt, Instr.sureAddr, hu], relV_of_relF hr⟩
  · cases h

theorem dirty_ok {σ : St} {b : Nat} {vs : List Value} : (∀ t, t ∈ σ.dirty → t ∈ addDirty σ b vs) ∧ (∀ t, t ∈ addDirty σ b vs → t ∈ σ.dirty ∨ t = b) ∧ (b ∉ addDirty σ b vs → vs.all sc = true) := by
  unfold addDirty
  split
  · rename_i hc
    refine ⟨fun _ h => h, fun _ h => .inl h, fun h => ?_⟩
    simp only [Bool.or_eq_true] at hc
    rcases hc with hc | hc
    · exact hc
    · exact absurd (by simpa using hc) h
  · exact ⟨fun t h => by simp [h], fun t h => by simp at h; exact h.symm, fun h => by simp at h⟩
theorem refs_sc {v : Value} (h : sc v = true) : refsC v = [] := by
  unfold refsC
  split <;> first | rfl | simp [sc] at h
theorem flat_sc {vs : List Value} (h : vs.all sc = true) : vs.flatMap refsC = [] := by
  rw [List.flatMap_eq_nil_iff]
  intro v hv
  exact refs_sc (List.all_eq_true.1 h v hv)
theorem mem_set {l : List Value} {i : Nat} {v x : Value} (h : x ∈ l.set i v) : x ∈ l ∨ x = v := by
  rcases List.mem_or_eq_of_mem_set h with h | h
  · exact .inl h
  · exact .inr h
theorem mem_putAt : ∀ {vs l : List Value} {off : Nat} {x : Value}, x ∈ putAt l off vs → x ∈ l ∨ x ∈ vs
  | [], l, off, x, h => .inl h
  | v :: vs, l, off, x, h => by
    have h' : x ∈ putAt (l.set off v) (off + 1) vs := h
    rcases mem_putAt h' with h | h
    · rcases mem_set h with h | h
      · exact .inl h
      · exact .inr (by simp [h])
    · exact .inr (by simp [h])
/-- A write through an address. -/
theorem write_does {ad ra : Addr} {vs us : List Value} (S : Sim w0 X σ w) (hr : relA X ad ra) (hrel : rel2 (relC X) vs us) (h : σ.write ad vs = some σ') :
    Ast σ σ' ∧ ∃ w', (storeCells ra us).run P w = .ok () w' ∧ Sim w0 X σ' w' ∧ Stp X σ w X w' := by
  unfold St.write at h
  split at h
  · cases h
  · rename_i hlk
    simp only [Option.bind_eq_some_iff] at h
    obtain ⟨⟨pl, cs⟩, hb, h⟩ := h
    simp only at h
    split at h
    · rename_i hc
      simp only [Bool.and_eq_true, decide_eq_true_eq, Bool.or_eq_true, Bool.not_eq_true'] at hc
      split at h
      · rename_i g pl' cs' hg
        cases h
        obtain ⟨hhid, g0, hg0, hsp⟩ := blk_inv hb
        rw [hg] at hg0
        cases hg0
        obtain ⟨bx, hx, hs, rfl, hcell⟩ := S.read hb hr
        have hown := S.lock _ bx hx (by omega)
        obtain ⟨c1, c2, c3, c4, c5, c6⟩ := S.cell _ bx g pl cs hx hhid hg
        obtain ⟨o1, rs, ty, lo, hi, o2, o3, o4, o5⟩ := c6 hown
        rw [o1, Nat.zero_add]
        have hlen : us.length = vs.length := hrel.1.symm
        obtain ⟨w', e1, e2, e3, e4, e5, e6, e7⟩ := run_storeCells_fr (P := P) bx.b ad.off ty lo hi us 0 rs w o2 (by omega) (by omega) (fun u hu => by
          obtain ⟨i, hi⟩ := List.mem_iff_getElem?.1 hu
          have hil : i < vs.length := by rw [← hlen]; exact (List.getElem?_eq_some_iff.1 hi).1
          exact relC_one (hrel.2 i _ u (List.getElem?_eq_getElem hil) hi))
        have hcs : rel2 (relC X) cs (rs.toList.take cs.length) := by
          refine ⟨by simp; omega, fun i p q hp hq => ?_⟩
          obtain ⟨u, hu, hr'⟩ := c5 i p hp
          have hil : i < cs.length := (List.getElem?_eq_some_iff.1 hp).1
          simp only [World.cell?, o2, o1, Nat.zero_add] at hu
          rw [List.getElem?_take_of_lt hil] at hq
          simp at hu hq
          rw [hq] at hu
          cases hu
          exact hr'
        have hput := hcs.putAt ad.off hrel
        have hsim := sim_write S (cs' := putAt cs ad.off vs) (d := addDirty σ ad.block vs) hx (by omega) hhid hg o2 e2 e3 e4 e5 e6 e7 (putAt_length _ _ _) (by simp [putAt_length]) (fun e => by
            rw [List.all_eq_true]
            intro x hx'
            rcases mem_putAt hx' with h' | h'
            · exact List.all_eq_true.1 (c4 e) x h'
            · exact List.all_eq_true.1 (hc.2.resolve_left (by simp [e])) x h')
          (fun j p hp => by
            obtain ⟨u, hu, hr'⟩ := hput.get hp
            refine ⟨u, ?_, hr'⟩
            have hjl : j < cs.length := by rw [← putAt_length vs cs ad.off]; exact (List.getElem?_eq_some_iff.1 hp).1
            have : ∀ (us l : List Value) (off m : Nat), off + us.length ≤ m → (putAt (l.take m) off us) = (putAt l off us).take m := by
              intro us
              induction us with
              | nil => intro l off m _; rfl
              | cons y us ih =>
                intro l off m hm
                simp only [putAt]
                rw [← ih _ _ _ (by simp at hm; omega), List.take_set]
            rw [this us rs.toList ad.off cs.length (by omega), List.getElem?_take_of_lt hjl] at hu
            simpa using hu)
          dirty_ok.1 dirty_ok.2.1 (fun hnd r hr' => by
            have hsc := dirty_ok.2.2 hnd
            cases pl with
            | true => simp [refsB] at hr'
            | false =>
              simp only [refsB, List.mem_flatMap] at hr' ⊢
              obtain ⟨x, hx', hr'⟩ := hr'
              rcases mem_putAt hx' with h' | h'
              · exact ⟨x, h', hr'⟩
              · rw [refs_sc (List.all_eq_true.1 hsc x h')] at hr'; cases hr')
        exact ⟨hsim.2.2, w', e1, hsim.1, hsim.2.1⟩
      · cases h
    · cases h
theorem relV_undef {X : Emb} : relV X (.tuple #[]) undef := ⟨#[], rfl, rel2.nil⟩
theorem store_does {t : TypeId} {n : Nat} {x y : Operand} {callf : CallF} (ho : o.op = .store t x y) (ht : sizeTy P t = some n) (S : Sim w0 X σ w) (hx : ∀ v, ev fr x = some v → relV X v (a.eval x)) (hy : ∀ v, ev fr y = some v → relV X v (a.eval y))
    (h : aop callf (.store n x y) fr σ = some (v, σ')) : Does P w0 o a X σ w v σ' := by
  simp only [aop, Option.bind_eq_some_iff] at h
  obtain ⟨p, hp, h⟩ := h
  split at h
  · rename_i ad e
    split at h
    · rename_i hn
      simp only [Option.map_eq_some_iff] at h
      obtain ⟨σ1, hw, h⟩ := h
      cases h
      obtain ⟨ra, h1, h2⟩ := relV_ptr (hx _ e)
      have hall : (cellsOf p).all cellv = true := by
        unfold St.write at hw
        split at hw
        · cases hw
        · simp only [Option.bind_eq_some_iff] at hw
          obtain ⟨⟨pl, cs⟩, hb, hw⟩ := hw
          simp only at hw
          split at hw
          · rename_i hc; simp only [Bool.and_eq_true] at hc; exact hc.1.2
          · cases hw
      have hcells := rel_cells (hy p hp) hall
      obtain ⟨ha, w', e1, e2, e3⟩ := write_does (P := P) S h2 hcells hw
      refine ⟨ha, .skip, undef, w', X, ?_, .inr ⟨rfl, rfl⟩, relV_undef, e2, e3⟩
      have hsz : (a.eval y).cells.size = n := by rw [← hn, hcells.1]; simp
      simp [execOp, ho, h1, Instr.storeAt, Instr.sureAddr, storeVar, run_size ht, hsz, e1]
    · cases h
  · cases h

/-- A new block's address, its slice. -/
theorem new_ptr {X : Emb} {n g k s : Nat} {b : Nat} (h : X n = some ⟨b, 0, true, g, k, s⟩) : relA X ⟨n, 0, some g⟩ ⟨b, 0, none⟩ := ⟨_, h, g, rfl, Nat.le_refl _, fun _ => rfl⟩
theorem new_slice {X : Emb} {id n e g k s b c : Nat} (h : X id = some ⟨b, 0, true, g, k, s⟩) (h1 : n ≤ c) (h2 : c ≤ maxLen) (h3 : 0 < e → k ≤ c * e ∧ c * e ≤ s) : relSl X ⟨id, 0, some g⟩ n e ⟨b, 0, none⟩ c :=
  ⟨h1, h2, _, h, g, rfl, Nat.le_refl _, fun _ => ⟨fun _ => rfl, fun he => by simpa using h3 he⟩⟩
theorem heap_alloc (w : World) (ob : Obj) : (w.alloc ob).heap = w.heap.push ob := rfl
/-- New cells, all the same as the abstract ones. -/
theorem rel_get {cs us : List Value} (h : rel2 (relC X) cs us) : ∀ (j : Nat) (v : Value), cs[j]? = some v → ∃ u, us.toArray[j]? = some u ∧ relC X v u := fun j v hv => by
  obtain ⟨u, hu, hr⟩ := h.get hv
  exact ⟨u, by simpa using hu, hr⟩
theorem newcells_does {rcs : Array Value} {ty : TypeId} {pl : Bool} {cs : List Value} (S : Sim w0 X σ w) (hrel : rel2 (relC X) cs rcs.toList) (hp : pl = true → cs.all sc = true) :
    let X' : Emb := ⟨fun id => if id = σ.heap.length then some ⟨w.heap.size, 0, true, 0, cs.length, rcs.size⟩ else X id, X.y⟩
    Sim w0 X' (σ.new (.cells 0 pl cs)).2 (w.alloc (.cells rcs ty)) ∧ Stp X σ w X' (w.alloc (.cells rcs ty)) ∧ Ast σ (σ.new (.cells 0 pl cs)).2 :=
  sim_new S (heap_alloc w _) rfl rfl rfl (.inl rfl) (Nat.zero_le _) (by rw [hrel.1]; simp) hp (fun j v hv => by
    obtain ⟨u, hu, hr⟩ := hrel.get hv
    exact ⟨u, by simpa using hu, hr⟩) (fun h0 => by
    have := hrel.1
    simp only [Array.length_toList] at this
    omega)
theorem alloc_does {e : TypeId} {zs : List Value} {callf : CallF} (ho : o.op = .alloc e) (hz : zeroTy P e = some zs) (S : Sim w0 X σ w) (h : aop callf (.alloc (plainTy P 8 e) zs) fr σ = some (v, σ')) : Does P w0 o a X σ w v σ' := by
  simp only [aop, Option.some.injEq, Prod.mk.injEq] at h
  obtain ⟨rfl, rfl⟩ := h
  obtain ⟨z, hz1, hz2, hz3, _⟩ := run_zero hz w
  obtain ⟨e1, e2, e3⟩ := newcells_does (ty := e) (rcs := z.cells) (pl := plainTy P 8 e) (cs := zs) S (by rw [hz2]; exact rel2_sc_refl hz3) (fun _ => List.all_eq_true.2 hz3)
  refine ⟨e3, .value (.pointer (some ⟨w.heap.size, 0, none⟩)), _, _, _, ?_, .inl rfl, ⟨_, rfl, new_ptr (if_pos rfl)⟩, e1, e2⟩
  simp [execOp, ho, Instr.alloc, hz1, newVar, newRow]
theorem box_does {e : TypeId} {x : Operand} {pl : Bool} {callf : CallF} (ho : o.op = .box e x) (S : Sim w0 X σ w) (hx : ∀ v, ev fr x = some v → relV X v (a.eval x)) (h : aop callf (.box pl x) fr σ = some (v, σ')) : Does P w0 o a X σ w v σ' := by
  simp only [aop, Option.bind_eq_some_iff] at h
  obtain ⟨p, hp, h⟩ := h
  split at h
  · rename_i hc
    simp only [Option.some.injEq, Prod.mk.injEq] at h
    obtain ⟨rfl, rfl⟩ := h
    simp only [Bool.and_eq_true, Bool.or_eq_true, Bool.not_eq_true'] at hc
    obtain ⟨e1, e2, e3⟩ := newcells_does (ty := e) (rcs := (a.eval x).cells) (pl := pl) (cs := cellsOf p) S (rel_cells (hx p hp) hc.1) (fun e => hc.2.resolve_left (by simp [e]))
    refine ⟨e3, .value (.pointer (some ⟨w.heap.size, 0, none⟩)), _, _, _, ?_, .inl rfl, ⟨_, rfl, new_ptr (if_pos rfl)⟩, e1, e2⟩
    simp [execOp, ho, Instr.box, newVar, newRow]
  · cases h
end
end AM
end Go.Proofs.Ytpjjkmfidghkjaa
end
section
set_option linter.all false
namespace Go.Proofs.Ytpjjkmfidghkjaa
namespace AM
open Go Go.RowKit

section
variable {P : Program} {X : Emb} {fr : Fr} {a : Act} {o : Oper} {v : Value} {w0 w : World} {σ σ' : St}

theorem zero_info {e : TypeId} {zs : List Value} (h : zeroTy P e = some zs) : ∃ i z, P.info? e = some i ∧ i.zero = some z ∧ z.cells.toList = zs ∧ i.size = zs.length ∧ z.cells.size = i.size ∧ ∀ v ∈ zs, sc v = true := by
  unfold zeroTy at h
  cases hi : P.info? e with
  | none => rw [hi] at h; cases h
  | some i =>
    rw [hi] at h
    cases hz : i.zero with
    | none => simp [hz] at h
    | some z =>
      simp only [hz] at h
      split at h
      · rename_i hc
        cases h
        simp only [Bool.and_eq_true, decide_eq_true_eq] at hc
        exact ⟨i, z, rfl, hz, rfl, by rw [← hc.1]; simp, hc.1, fun v hv => List.all_eq_true.1 hc.2 v hv⟩
      · cases h
theorem range_flat (z : Array Value) (hz : 0 < z.size) : ∀ (n k : Nat), (List.range' (k * z.size) (n * z.size)).map (fun i => z[i % z.size]!) = (List.replicate n z.toList).flatten
  | 0, k => by simp
  | n + 1, k => by
    have e : (n + 1) * z.size = z.size + n * z.size := by rw [Nat.add_mul]; omega
    have e2 : k * z.size + 1 * z.size = (k + 1) * z.size := by rw [Nat.add_mul]
    rw [e, ← List.range'_append, List.map_append, List.replicate_succ, List.flatten_cons, e2, range_flat z hz n (k + 1)]
    congr 1
    apply List.ext_getElem
    · simp
    · intro i h1 h2
      have hi : i < z.size := by simpa using h1
      simp [Nat.mul_comm k, Nat.mod_eq_of_lt hi, hi]
theorem made_flat (z : Array Value) (n : Nat) (hz : 0 < z.size) : ((Array.range (n * z.size)).map fun i => z[i % z.size]!).toList = (List.replicate n z.toList).flatten := by
  have := range_flat z hz n 0
  simpa [List.range_eq_range'] using this
theorem sc_flat {zs : List Value} (h : ∀ v ∈ zs, sc v = true) (n : Nat) : ∀ v ∈ (List.replicate n zs).flatten, sc v = true := fun v hv => by
  simp only [List.mem_flatten, List.mem_replicate] at hv
  obtain ⟨l, ⟨_, rfl⟩, hv⟩ := hv
  exact h v hv
theorem flat_length (n : Nat) (zs : List Value) : (List.replicate n zs).flatten.length = n * zs.length := by simp
theorem elemTy_eq {t e : TypeId} (h : elemTy P t = some e) : P.underlying t = some (.slice e) := by
  unfold elemTy at h
  split at h
  · rename_i q; cases h; exact q
  · cases h

theorem bslice_does {t e : TypeId} {n s : Nat} {ps : Array (Nat × Operand)} {ps' : List (Nat × Nat × Operand)} {zs : List Value} {pl : Bool} {callf : CallF} (ho : o.op = .buildSlice t n ps) (he : elemTy P t = some e) (hs : sizeTy P e = some s) (hz : zeroTy P e = some zs) (h0 : 0 < s) (hn : n * s ≤ 1048576)
    (hps : compPs (fun i => some (i * s, s)) ps.toList = some ps') (S : Sim w0 X σ w) (hx : ∀ q ∈ ps.toList, ∀ v, ev fr q.2 = some v → relV X v (a.eval q.2))
    (h : aop callf (.bslice pl s n (List.replicate n zs).flatten ps') fr σ = some (v, σ')) : Does P w0 o a X σ w v σ' := by
  simp only [aop, Option.bind_eq_some_iff] at h
  obtain ⟨vals, hv, cs, hc, h⟩ := h
  split at h
  · rename_i hk
    simp only [Option.some.injEq, Prod.mk.injEq] at h
    obtain ⟨rfl, rfl⟩ := h
    simp only [Bool.and_eq_true, decide_eq_true_eq, Bool.or_eq_true, Bool.not_eq_true', small] at hk
    obtain ⟨i, z, hi, hz1, hz2, hz3, hz4, hz5⟩ := zero_info hz
    have hss : s = zs.length := by simp [sizeTy, hi] at hs; omega
    have hu := elemTy_eq he
    have hnm : n ≤ n * s := Nat.le_mul_of_pos_right n h0
    have hinit : rel2 (relC X) (List.replicate n zs).flatten ((Array.range (n * s)).map fun i => z.cells[i % z.cells.size]!).toList := by
      have := made_flat z.cells n (by omega)
      rw [hz4, hz3, ← hss] at this
      rw [hz4, hz3, ← hss, this, hz2]
      exact rel2_sc_refl (sc_flat hz5 n)
    obtain ⟨rs, e1, e2⟩ := fill_rel (X := X) (a := a) (place := fun i => some (i * s, s)) (fun i q hq => hq) ps.toList ps' vals _ cs _ hx hps hv hc hinit
    obtain ⟨g1, g2, g3⟩ := newcells_does (ty := e) (rcs := rs) (pl := pl) (cs := cs) S e2 (fun e => hk.2.resolve_left (by simp [e]))
    have hrl : rs.size = n * s := by rw [← hk.1.1, e2.1]; simp
    refine ⟨g3, .value (.slice (some ⟨w.heap.size, 0, none⟩) n n), _, _, _, ?_, .inl rfl, ⟨_, _, rfl, new_slice (if_pos rfl) (Nat.le_refl _) (by simp only [maxLen]; omega) (fun _ => by omega)⟩, g1, g2⟩
    have e1' : Instr.fill (fun i => some (i * s, s)) ((Array.range (n * s)).map fun i => z.cells[i % z.cells.size]!) (ps.map fun x => (x.1, a.eval x.2)).toList = some rs := by simpa using e1
    have n24 : ¬ 16777216 < n * s := by omega
    have his : i.size = s := by omega
    have hrun : (Instr.buildSlice t n (ps.map fun x => (x.1, a.eval x.2))).run P w = .ok (.slice (some ⟨w.heap.size, 0, none⟩) n n) (w.alloc (.cells rs e)) := by
      by_cases hn0 : n * s = 0
      · have h' : Instr.fill (fun i => some (i * s, s)) #[] (ps.map fun x => (x.1, a.eval x.2)).toList = some rs := by
          rw [hn0] at e1'
          rw [← e1', Array.range_zero', Array.map_empty]
        have h2 : ¬ n * i.size > 2 ^ 24 := by rw [his]; omega
        have h3 : n * i.size = 0 := by rw [his]; exact hn0
        rw [← his] at h'
        simp only [Instr.buildSlice, Sem.run_bind, run_underlying hu, Result.andThen_ok, sizeOf, typeInfo, run_program, hi, Sem.run_pure]
        rw [if_neg h2, if_pos h3]
        simp only [Sem.run_bind, Sem.run_pure, Result.andThen_ok, h3, Array.range_zero', Array.map_empty]
        rw [h']
        simp [newRow]
      · rw [← his] at e1' n24 hn0
        exact run_buildSlice w t e n _ rs i z hu hi hz1 (by omega) hn0 e1'
    simp [execOp, ho, hrun]
  · cases h
theorem mkslice_does {t e : TypeId} {s : Nat} {x y : Operand} {zs : List Value} {pl : Bool} {callf : CallF} (ho : o.op = .makeSlice t x y) (he : elemTy P t = some e) (hs : sizeTy P e = some s) (hz : zeroTy P e = some zs) (h0 : 0 < s) (hb : smallBytes P e = true)
    (S : Sim w0 X σ w) (hx : ∀ v, ev fr x = some v → relV X v (a.eval x)) (hy : ∀ v, ev fr y = some v → relV X v (a.eval y))
    (h : aop callf (.mkslice pl s zs x y) fr σ = some (v, σ')) : Does P w0 o a X σ w v σ' := by
  simp only [aop, Option.bind_eq_some_iff] at h
  obtain ⟨lv, hlv, cv, hcv, l, hl, c, hc, h⟩ := h
  split at h
  · rename_i hk
    simp only [Option.some.injEq, Prod.mk.injEq] at h
    obtain ⟨rfl, rfl⟩ := h
    simp only [Bool.and_eq_true, decide_eq_true_eq] at hk
    obtain ⟨i, z, hi, hz1, hz2, hz3, hz4, hz5⟩ := zero_info hz
    have hss : s = zs.length := by simp [sizeTy, hi] at hs; omega
    obtain ⟨k1, rfl⟩ : ∃ k, lv = .int k l := by cases lv <;> simp [intv] at hl; exact ⟨_, by rw [hl]⟩
    obtain ⟨k2, rfl⟩ : ∃ k, cv = .int k c := by cases cv <;> simp [intv] at hc; exact ⟨_, by rw [hc]⟩
    have h1 := relV_int (hx _ hlv)
    have h2 := relV_int (hy _ hcv)
    have hu := elemTy_eq he
    have hby : i.bytes ≤ 4194304 := by simpa [smallBytes, bytesTy, hi] using hb
    have hle : (i.bytes : Int) * c ≤ 281474976710656 := by
      have : (i.bytes : Int) * c ≤ 4194304 * 1048576 := Int.mul_le_mul (by omega) (by omega) (by omega) (by omega)
      omega
    have hrun := run_make (P := P) (w := w) t e i z hu hi hz1 k1 k2 l c (by omega) (by omega) hle (by omega)
    have hflat : (madeCells z.cells (c.toNat * i.size)).toList = (List.replicate c.toNat zs).flatten := by
      have := made_flat z.cells c.toNat (by omega)
      rw [hz4] at this
      rw [← hz2, ← this]
      unfold madeCells
      rw [hz4]
    have hcl : c.toNat = l.toNat + (c.toNat - l.toNat) := by omega
    have hsim := sim_new (w' := w.alloc (.cells (madeCells z.cells (c.toNat * i.size)) e)) (g := 0) (pl := pl) (cs := (List.replicate l.toNat zs).flatten) S (heap_alloc w _) rfl rfl rfl (.inl rfl) (Nat.zero_le _)
      (by rw [flat_length, size_madeCells, hz3]; exact Nat.mul_le_mul_right _ (by omega)) (fun _ => List.all_eq_true.2 (sc_flat hz5 _)) (fun j p hp => by
        refine ⟨p, ?_, (relC_sc (sc_flat hz5 _ p (List.mem_of_getElem? hp))).2 rfl⟩
        have hjl := (List.getElem?_eq_some_iff.1 hp).1
        rw [← Array.getElem?_toList, hflat, hcl, ← List.replicate_append_replicate, List.flatten_append, List.getElem?_append_left hjl]
        exact hp) (fun h0 => by
        rw [flat_length] at h0
        rw [size_madeCells, hz3]
        have hc0 : l.toNat = 0 := by
          rcases Nat.mul_eq_zero.1 h0 with h | h
          · exact h
          · omega
        have : c.toNat = 0 := by
          have hk2 := hk.2
          simp only [Bool.or_eq_true, decide_eq_true_eq, ne_eq, decide_not, Bool.not_eq_true', decide_eq_false_iff_not] at hk2
          omega
        rw [this]; simp)
    obtain ⟨g1, g2, g3⟩ := hsim
    refine ⟨g3, .value (.slice (some ⟨w.heap.size, 0, none⟩) l.toNat c.toNat), _, _, _, ?_, .inl rfl, ⟨_, _, rfl, new_slice (if_pos rfl) (by omega) (by simp only [maxLen]; omega) (fun _ => ?_)⟩, g1, g2⟩
    · simp [execOp, ho, h1, h2, hrun]
    · rw [flat_length, size_madeCells, hz3, ← hss]
      exact ⟨Nat.mul_le_mul_right _ (by omega), Nat.le_refl _⟩
  · cases h

theorem isBytes_eq {e : TypeId} (h : isBytes P e = true) : P.underlying e = some (.int .u8) ∧ sizeTy P e = some 1 := by
  unfold isBytes at h
  split at h
  · rename_i q; exact ⟨q, by simpa using h⟩
  · cases h
theorem run_strb (w : World) (e : TypeId) (st : ByteArray) :
    ∃ w', (Conv.stringToBytes e st).run P w = .ok (.slice (some ⟨w.heap.size, 0, none⟩) st.size (grownCap w st.size 0 e)) w' ∧
      w'.heap = w.heap.push (.cells (st.data.map (fun b => Value.int .u8 b.toNat) ++ Array.replicate (grownCap w st.size 0 e - st.size) (.int .u8 0)) e
        ((st.data.map (fun b => Value.int .u8 b.toNat) ++ Array.replicate (grownCap w st.size 0 e - st.size) (Value.int .u8 0)).size, (st.data.map (fun b => Value.int .u8 b.toNat) ++ Array.replicate (grownCap w st.size 0 e - st.size) (Value.int .u8 0)).size + 1)) ∧ w'.os = w.os ∧ w'.tape = w.tape ∧ w'.output = w.output := by
  have hsh : ∀ (w : World) (r : Nat), (shape r).run P w = .ok (w.shape? r) w := fun _ _ => rfl
  have hfr : ∀ (w : World) (a : Addr) (n : Nat), (freeze a n).run P w = .ok () (w.freeze a n) := fun _ _ _ => rfl
  have hch : (choose (.appendCap st.size 0 e)).run P w = .ok (grownCap w st.size 0 e) w.drew := rfl
  simp only [Conv.stringToBytes, Sem.run_bind, hch, Result.andThen_ok, newRow, run_newObj, Sem.run_pure, markStringish, hsh]
  generalize st.data.map (fun b => Value.int .u8 b.toNat) ++ Array.replicate (grownCap w st.size 0 e - st.size) (Value.int .u8 0) = R
  have hs2 : ({ w.drew with heap := w.drew.heap.push (.cells R e) } : World).shape? w.drew.heap.size = some (e, R.size) := by
    unfold World.shape?
    show (match (w.drew.heap.push (Obj.cells R e))[w.drew.heap.size]? with | some (Obj.cells c elem _) => some (elem, c.size) | _ => none) = _
    rw [Array.getElem?_push_size]
  simp only [hs2, hfr, Result.andThen_ok]
  refine ⟨_, rfl, ?_, rfl, rfl, rfl⟩
  show (if (1 : Nat) = 0 then _ else _ : World).heap = _
  rw [if_neg (by omega)]
  change Array.modify (w.heap.push (Obj.cells R e)) w.heap.size (fun x => match x with | Obj.cells c elem (lo, hi) => Obj.cells c elem (if (lo == hi) = true then (R.size, R.size + 1) else (min lo R.size, max hi (R.size + 1))) | o => o) = _
  apply Array.ext_getElem?
  intro i
  rw [Array.getElem?_modify]
  by_cases hi : w.heap.size = i
  · subst hi
    rw [if_pos rfl, Array.getElem?_push_size, Array.getElem?_push_size]
    simp
  · rw [if_neg hi, Array.getElem?_push, Array.getElem?_push, if_neg (fun e => hi e.symm), if_neg (fun e => hi e.symm)]
theorem strCells_length (s : ByteArray) : (strCells s).length = s.size := by simp [strCells]
theorem strCells_sc (s : ByteArray) : ∀ v ∈ strCells s, sc v = true := fun v hv => by
  simp only [strCells, List.mem_map] at hv
  obtain ⟨b, _, rfl⟩ := hv
  rfl
theorem strb_does {s d e : TypeId} {x : Operand} {callf : CallF} (ho : o.op = .convert s d x) (hs : P.underlying s = some .string) (hd : P.underlying d = some (.slice e)) (he : isBytes P e = true)
    (S : Sim w0 X σ w) (hx : ∀ v, ev fr x = some v → relV X v (a.eval x)) (h : aop callf (.strb x) fr σ = some (v, σ')) : Does P w0 o a X σ w v σ' := by
  simp only [aop] at h
  split at h
  · rename_i st hst
    split at h
    · rename_i hsm
      simp only [Option.some.injEq, Prod.mk.injEq] at h
      obtain ⟨rfl, rfl⟩ := h
      simp only [small, decide_eq_true_eq, Bool.and_eq_true] at hsm
      obtain ⟨hsm, hpos⟩ := hsm
      obtain ⟨hu, hsz⟩ := isBytes_eq he
      have h1 := relV_string (hx _ hst)
      have hcap : st.size ≤ grownCap w st.size 0 e ∧ grownCap w st.size 0 e ≤ maxLen := ⟨grownCap_ge w _ _ _, grownCap_le_maxLen w _ _ _ (by simp only [maxLen]; omega)⟩
      obtain ⟨w', hrun, hheap, q1, q2, q3⟩ := run_strb (P := P) w e st
      have hR : (st.data.map (fun b => Value.int .u8 b.toNat) ++ Array.replicate (grownCap w st.size 0 e - st.size) (Value.int .u8 0)).size = grownCap w st.size 0 e := by
        have hd : st.data.size = st.size := rfl
        simp only [Array.size_append, Array.size_map, Array.size_replicate, hd]
        omega
      generalize grownCap w st.size 0 e = cap at *
      have hpre : ∀ (j : Nat) (p : Value), (strCells st)[j]? = some p → (st.data.map (fun b => Value.int .u8 b.toNat) ++ Array.replicate (cap - st.size) (Value.int .u8 0))[j]? = some p := fun j p hp => by
        have hjl : j < st.data.size := by have := (List.getElem?_eq_some_iff.1 hp).1; rw [strCells_length] at this; exact this
        rw [Array.getElem?_append_left (by simpa using hjl), ← Array.getElem?_toList, Array.toList_map]
        exact hp
      generalize st.data.map (fun b => Value.int .u8 b.toNat) ++ Array.replicate (cap - st.size) (Value.int .u8 0) = R at *
      obtain ⟨g1, g2, g3⟩ := sim_new (w' := w') (g := 0) (pl := true) (cs := strCells st) S hheap q1 q2 q3 (.inr (Nat.le_refl _)) (Nat.zero_le _) (by rw [hR, strCells_length]; exact hcap.1) (fun _ => List.all_eq_true.2 (strCells_sc st))
        (fun j p hp => ⟨p, hpre j p hp, (relC_sc (strCells_sc st p (List.mem_of_getElem? hp))).2 rfl⟩) (fun h0 => by
          rw [strCells_length] at h0; omega)
      refine ⟨g3, .value (.slice (some ⟨w.heap.size, 0, none⟩) st.size cap), _, w', _, ?_, .inl rfl, ⟨_, _, rfl, new_slice (if_pos rfl) hcap.1 hcap.2 (fun _ => ?_)⟩, g1, g2⟩
      · simp only [execOp, ho, h1, convert, Sem.run_bind, run_under hs, run_under hd, run_under hu, Result.andThen_ok, hrun, Sem.run_pure]
      · rw [hR, strCells_length]
        omega
    · cases h
  · cases h
theorem bytesv_ints : ∀ {l : List Value} {m : List UInt8}, bytesv l = some m → ∃ ns : List Int, l = ns.map (Value.int .u8) ∧ m = ns.map fun n => UInt8.ofNat n.toNat
  | [], m, h => by simp only [bytesv, Option.some.injEq] at h; exact ⟨[], rfl, by simp [← h]⟩
  | x :: l, m, h => by
    cases x with
    | int k n =>
      cases k with
      | u8 =>
        simp only [bytesv, Option.map_eq_some_iff] at h
        obtain ⟨m', h1, rfl⟩ := h
        obtain ⟨ns, rfl, rfl⟩ := bytesv_ints h1
        exact ⟨n :: ns, rfl, rfl⟩
      | _ => simp [bytesv] at h
    | _ => simp [bytesv] at h
theorem bstr_does {s d e : TypeId} {x : Operand} {callf : CallF} (ho : o.op = .convert s d x) (hs : P.underlying s = some (.slice e)) (hd : P.underlying d = some .string) (he : isBytes P e = true)
    (S : Sim w0 X σ w) (hx : ∀ v, ev fr x = some v → relV X v (a.eval x)) (h : aop callf (.bstr x) fr σ = some (v, σ')) : Does P w0 o a X σ w v σ' := by
  obtain ⟨hu, hsz⟩ := isBytes_eq he
  simp only [aop] at h
  split at h
  · rename_i hnil
    cases h
    have h1 := relV_nilslice (hx _ hnil)
    refine Gives.does S ⟨.string ⟨#[]⟩, ?_, relV_string_mk _⟩
    simp only [execOp, ho, h1, convert, Sem.run_bind, run_under hs, run_under hd, run_under hu, Result.andThen_ok, Conv.bytesToString, Sem.run_pure]
    rfl
  · rename_i ad n e' hsl
    simp only [Option.bind_eq_some_iff] at h
    obtain ⟨⟨pl, cs⟩, hb, h⟩ := h
    simp only at h
    split at h
    · rename_i hle
      simp only [Option.map_eq_some_iff] at h
      obtain ⟨l, hl, h⟩ := h
      cases h
      obtain ⟨ra, c, h1, h2⟩ := relV_slice (hx _ hsl)
      obtain ⟨ns, e1, rfl⟩ := bytesv_ints hl
      refine Gives.does S ⟨.string ⟨(ns.map fun n => UInt8.ofNat n.toNat).toArray⟩, ?_, relV_string_mk _⟩
      have hload : (loadCells ra n).run P w = .ok (ns.map (Value.int .u8)).toArray w := by
        rcases Nat.eq_zero_or_pos n with rfl | hn
        · have : ns = [] := by simpa using e1
          subst this
          rfl
        · obtain ⟨hn', hm, bx, hx', s', hs', hl', hr⟩ := h2
          obtain ⟨rs, r1, r2⟩ := S.readCells (ra := ra) hb ⟨bx, hx', s', hs', hl', fun e => (hr e).1 (.inl hn)⟩ hle
          have hrs : rs = ns.map (Value.int .u8) := by
            rw [e1] at r1
            exact rel2_sc r1 (fun v hv => by simp only [List.mem_map] at hv; obtain ⟨_, _, rfl⟩ := hv; rfl)
          have hrl : rs.length = n := by rw [← r1.1]; simp; omega
          have := run_loadCells_list (P := P) w ra rs r2
          rw [hrl, hrs] at this
          exact this
      simp only [execOp, ho, h1, convert, Sem.run_bind, run_under hs, run_under hd, run_under hu, Result.andThen_ok, run_bytesToString w ra n c ns hload, Sem.run_pure, foldl_push_bytes]
      congr 3
      simp [ByteArray.empty, ByteArray.emptyWithCapacity]
      rfl
    · cases h
  · cases h

/-- A byte slice converted to its own type: its block is marked behind its end. -/
theorem mark_does {s d e e' : TypeId} {x : Operand} {callf : CallF} (ho : o.op = .convert s d x) (hs : P.underlying s = some (.slice e')) (hd : P.underlying d = some (.slice e)) (he : isBytes P e = true) (hsd : (s == d) = true)
    (S : Sim w0 X σ w) (hx : ∀ v, ev fr x = some v → relV X v (a.eval x)) (h : aop callf (.mark x) fr σ = some (v, σ')) : Does P w0 o a X σ w v σ' := by
  obtain ⟨hu, hsz⟩ := isBytes_eq he
  simp only [aop] at h
  split at h
  · rename_i ad n e'' hsl
    split at h
    · cases h
    · rename_i hc
      simp only [Bool.or_eq_true, decide_eq_true_eq, not_or] at hc
      simp only [Option.map_eq_some_iff] at h
      obtain ⟨⟨pl, cs⟩, hb, h⟩ := h
      cases h
      obtain ⟨ra, c, h1, h2⟩ := relV_slice (hx _ hsl)
      have hR := hx _ hsl
      obtain ⟨hn', hm, bx, hx', s', hs', hl', hr⟩ := h2
      have hrA : relA X ad ra := ⟨bx, hx', s', hs', hl', fun e => (hr e).1 (.inl (by omega))⟩
      obtain ⟨hhid, g, hg, hsp⟩ := blk_inv hb
      obtain ⟨bx2, hx2, hs2, hra, hcell⟩ := S.read hb hrA
      have hown := S.lock _ bx2 hx2 (by omega)
      obtain ⟨c1, c2, c3, c4, c5, c6⟩ := S.cell _ bx2 g pl cs hx2 hhid hg
      obtain ⟨o1, rs, ty, lo, hi, o2, o3, o4, o5⟩ := c6 hown
      subst hra
      have hshape : w.shape? bx2.b = some (ty, rs.size) := by simp [World.shape?, o2]
      have hrun : (markStringish ⟨bx2.b, bx2.o + ad.off, none⟩).run P w = .ok () (w.freeze ⟨bx2.b, rs.size, none⟩ 1) := by
        have hsh : ∀ (w : World) (r : Nat), (shape r).run P w = .ok (w.shape? r) w := fun _ _ => rfl
        have hfr : ∀ (w : World) (a : Addr) (n : Nat), (freeze a n).run P w = .ok () (w.freeze a n) := fun _ _ _ => rfl
        simp only [markStringish, Sem.run_bind, hsh, hshape, Result.andThen_ok, hfr]
      have hbl : bx2.b < w.heap.size := (Array.getElem?_eq_some_iff.1 o2).1
      have hheap : (w.freeze ⟨bx2.b, rs.size, none⟩ 1).heap = w.heap.modify bx2.b (fun x => match x with | Obj.cells c elem (lo, hi) => Obj.cells c elem (if (lo == hi) = true then (rs.size, rs.size + 1) else (min lo rs.size, max hi (rs.size + 1))) | o => o) := rfl
      have hnew : (w.freeze ⟨bx2.b, rs.size, none⟩ 1).heap[bx2.b]? = some (.cells rs ty (if (lo == hi) = true then (rs.size, rs.size + 1) else (min lo rs.size, max hi (rs.size + 1)))) := by
        rw [hheap, Array.getElem?_modify, if_pos rfl, o2]; rfl
      obtain ⟨lo', hi', hlh, hf⟩ : ∃ lo' hi', (if (lo == hi) = true then (rs.size, rs.size + 1) else (min lo rs.size, max hi (rs.size + 1))) = (lo', hi') ∧ (hi' = lo' ∨ rs.size ≤ lo') := by
        split
        · exact ⟨_, _, rfl, .inr (Nat.le_refl _)⟩
        · rename_i hne
          simp only [beq_iff_eq] at hne
          refine ⟨_, _, rfl, .inr ?_⟩
          omega
      rw [hlh] at hnew
      obtain ⟨g1, g2⟩ := sim_mark (w' := w.freeze ⟨bx2.b, rs.size, none⟩ 1) S hx2 (by omega) hhid o2 hnew hf (by rw [hheap, Array.size_modify]) (fun k hk => by rw [hheap, Array.getElem?_modify, if_neg (fun e => hk e.symm)]) rfl rfl rfl
      refine ⟨Ast.refl _, _, _, _, X, ?_, .inl rfl, hR, g1, g2⟩
      simp only [execOp, ho, h1, convert, Sem.run_bind, run_under hs, run_under hd, run_under hu, Result.andThen_ok, hsd, hrun, Sem.run_pure]
  · cases h

end
end AM
end Go.Proofs.Ytpjjkmfidghkjaa
end
section
namespace Go.Proofs.Ytpjjkmfidghkjaa
namespace AM
open Go Go.RowKit

section
variable {P : Program} {X : Emb} {fr : Fr} {a : Act} {o : Oper} {v : Value} {w0 w : World} {σ σ' : St}

/-- What an append or a copy reads. -/
theorem news_src {esz m : Nat} {y u : Value} {vs : List Value} (S : Sim w0 X σ w) (hr : relV X y u) (h : σ.news esz y = some (m, vs)) (h0 : 0 < esz) :
    ∃ us : List Value, rel2 (relC X) vs us ∧ vs.length = m * esz ∧ (∀ w', (Builtin.lenOf u).run P w' = .ok m w') ∧ ∀ k, k ≤ m → ∀ w' : World, w'.heap = w.heap → (Builtin.firstCells esz k u).run P w' = .ok (us.take (k * esz)).toArray w' := by
  unfold St.news at h
  split at h
  · cases h
    have := relV_nilslice hr
    subst this
    exact ⟨[], rel2.nil, by simp, fun w' => rfl, fun k _ w' _ => by simp [Builtin.firstCells]⟩
  · rename_i b n e
    simp only [Option.bind_eq_some_iff] at h
    obtain ⟨⟨pl, cs⟩, hb, h⟩ := h
    simp only at h
    split at h
    · rename_i hle
      cases h
      obtain ⟨ra, c, rfl, h2⟩ := relV_slice hr
      have hlen : ((cs.drop b.off).take (m * esz)).length = m * esz := by simp; omega
      rcases Nat.eq_zero_or_pos m with rfl | hm
      · refine ⟨[], by simpa using rel2.nil, hlen, fun w' => rfl, fun k hk w' _ => ?_⟩
        obtain rfl : k = 0 := by omega
        simp [Builtin.firstCells, loadCells, loadCellsFrom]
      · obtain ⟨hn', hmx, bx, hx', s', hs', hl', hr'⟩ := h2
        obtain ⟨rs, r1, r2⟩ := S.readCells (ra := ra) hb ⟨bx, hx', s', hs', hl', fun e => (hr' e).1 (.inl hm)⟩ hle
        refine ⟨rs, r1, hlen, fun w' => rfl, fun k hk w' hw => ?_⟩
        have hkm : k * esz ≤ m * esz := Nat.mul_le_mul_right _ hk
        have hl2 : (rs.take (k * esz)).length = k * esz := by rw [List.length_take, ← r1.1, hlen]; omega
        have := run_loadCells_list (P := P) w' ra (rs.take (k * esz)) (fun j v hv => by
          have hj : j < k * esz := by rw [← hl2]; exact (List.getElem?_eq_some_iff.1 hv).1
          rw [List.getElem?_take_of_lt hj] at hv
          rw [World.cell?_of_block (w := w) (by rw [hw])]
          exact r2 j v hv)
        rw [hl2] at this
        simpa [Builtin.firstCells] using this
    · cases h
  · rename_i s
    split at h
    · rename_i he
      subst he
      cases h
      have := relV_string hr
      subst this
      refine ⟨strCells s, rel2_sc_refl (strCells_sc s), by rw [strCells_length]; omega, fun w' => rfl, fun k hk w' _ => ?_⟩
      have : (Array.map (fun b : UInt8 => Value.int .u8 b.toNat) (s.extract 0 k).data) = ((strCells s).take (k * 1)).toArray := by
        apply Array.toList_inj.1
        rw [Array.toList_map, ByteArray.data_extract, Array.toList_extract]
        simp [strCells, List.map_take]
      simp only [Builtin.firstCells, this, Sem.run_pure]
    · cases h
  · cases h

theorem run_append_more {t u ty e : TypeId} {q : TypeDesc} {i : TypeInfo} {z : Value} (ht : P.underlying t = some (.slice e)) (hu : P.underlying u = some q) (hq : ∀ k, q ≠ .int k) (hi : P.info? e = some i) (hz : i.zero = some z) (base : Option Addr) (n c m : Nat) (y : Value) (olds news : List Value)
    (hlen : ∀ w', (Builtin.lenOf y).run P w' = .ok m w') (hnew : ∀ w' : World, w'.heap = w.heap → (Builtin.firstCells i.size m y).run P w' = .ok news.toArray w') (hold : ∀ w' : World, w'.heap = w.heap → (Builtin.firstCells i.size n (.slice base n c)).run P w' = .ok olds.toArray w')
    (hg : c < n + m) (h63 : n + m ≤ 1048576) (hby : i.bytes ≤ 4194304) :
    (Builtin.append_ #[t, u] ty #[.slice base n c, y]).run P w = .ok (.slice (some ⟨w.heap.size, 0, none⟩) (n + m) (grownCap w (n + m) c e))
      (w.drew.alloc (.cells (olds.toArray ++ news.toArray ++ Builtin.zeroCells z.cells (grownCap w (n + m) c e - (n + m))) e)) := by
  have hn : ¬ (n + m ≤ c) := by omega
  have h63' : ¬ (9223372036854775807 < ((n : Int) + (m : Int))) := by omega
  have hfit : Builtin.nextslicecap (n + m) c * i.bytes ≤ 281474976710656 := growslice_fits hg (Nat.le_trans (Nat.mul_le_mul h63 hby) (by omega))
  have h48' : ¬ (281474976710656 < Builtin.nextslicecap (n + m) c * i.bytes) := by omega
  have hnew1 := hnew w.drew rfl
  have hold1 := hold w.drew rfl
  simp [Builtin.append_, run_underlying ht, run_underlying hu, sizeOf, typeInfo, zeroValue, hi, hz, hlen, hn, h63', h48', Question.forced, hnew1, hold1, newRow, grownCap]
  congr 2
  apply Array.ext'
  simp [List.append_assoc]
theorem run_append_fits {t u ty e : TypeId} {q : TypeDesc} {i : TypeInfo} (ht : P.underlying t = some (.slice e)) (hu : P.underlying u = some q) (hq : ∀ k, q ≠ .int k) (hi : P.info? e = some i) (base : Option Addr) (n c m : Nat) (y : Value) (news : List Value) {w' : World}
    (hlen : ∀ w', (Builtin.lenOf y).run P w' = .ok m w') (hnew : (Builtin.firstCells i.size m y).run P w = .ok news.toArray w) (hst : match base with | some b => (storeCells (b.add (n * i.size)) news).run P w = .ok () w' | none => w' = w)
    (hg : n + m ≤ c) : (Builtin.append_ #[t, u] ty #[.slice base n c, y]).run P w = .ok (.slice base (n + m) c) w' := by
  cases base with
  | none => simp only at hst; subst hst; simp [Builtin.append_, run_underlying ht, run_underlying hu, sizeOf, typeInfo, hi, hlen, hg, hnew]
  | some b => simp only at hst; simp [Builtin.append_, run_underlying ht, run_underlying hu, sizeOf, typeInfo, hi, hlen, hg, hnew, hst]
theorem zeroCells_size (z : Array Value) (n : Nat) : (Builtin.zeroCells z n).size = n * z.size := size_zeroCells z n
theorem putAt_get : ∀ (us l : List Value) (off j : Nat), off + us.length ≤ l.length → (putAt l off us)[j]? = if off ≤ j ∧ j < off + us.length then us[j - off]? else l[j]?
  | [], l, off, j, _ => by simp [putAt]; omega
  | u :: us, l, off, j, h => by
    simp only [List.length_cons] at h
    rw [putAt, putAt_get us (l.set off u) (off + 1) j (by simp; omega)]
    simp only [List.length_cons]
    by_cases h1 : off + 1 ≤ j ∧ j < off + 1 + us.length
    · rw [if_pos h1, if_pos (by omega), show j - off = (j - (off + 1)) + 1 by omega, List.getElem?_cons_succ]
    · rw [if_neg h1]
      by_cases h2 : j = off
      · subst h2
        rw [if_pos (by omega), List.getElem?_set_self (by omega), Nat.sub_self, List.getElem?_cons_zero]
      · rw [if_neg (by omega), List.getElem?_set_ne (fun e => h2 e.symm)]
theorem relV_slice_mk {b ra : Addr} {n e c : Nat} (h : relSl X b n e ra c) : relV X (.slice (some b) n e) (.slice (some ra) n c) := ⟨ra, c, rfl, h⟩

theorem run_append_zeros {t u ty e : TypeId} {i : TypeInfo} {z : Value} (ht : P.underlying t = some (.slice e)) (hu : P.underlying u = some (.int .i64)) (hi : P.info? e = some i) (hz : i.zero = some z) (m : Nat) (h0 : 0 < m) (hm : m ≤ 1048576) (hs : i.size = 1) (hby : i.bytes ≤ 4194304) :
    (Builtin.append_ #[t, u] ty #[.slice none 0 0, .int .i64 m]).run P w = .ok (.slice (some ⟨w.heap.size, 0, none⟩) m (grownCap w m 0 e))
      (w.drew.alloc (.cells (Builtin.zeroCells z.cells m ++ Builtin.zeroCells z.cells (grownCap w m 0 e - m)) e)) := by
  have hw : IntKind.i64.wrap (m : Int) = (m : Int) := by simp [IntKind.wrap, IntKind.signed, IntKind.bits]; omega
  have hfit : Builtin.nextslicecap m 0 * i.bytes ≤ 281474976710656 := growslice_fits (by omega) (Nat.le_trans (Nat.mul_le_mul hm hby) (by omega))
  have h48' : ¬ (281474976710656 < Builtin.nextslicecap m 0 * i.bytes) := by omega
  have h48 : ¬ (281474976710656 < (m : Int) * (i.bytes : Int)) := by
    have := Nat.mul_le_mul hm hby
    have h2 : ((m * i.bytes : Nat) : Int) = (m : Int) * (i.bytes : Int) := by simp
    omega
  have hn : ¬ m ≤ 0 := by omega
  have hm0 : ¬ m = 0 := by omega
  have h63 : ¬ (9223372036854775807 < (m : Int)) := by omega
  have hneg : ¬ (m : Int) < 0 := by omega
  simp [Builtin.append_, run_underlying ht, run_underlying hu, sizeOf, typeInfo, zeroValue, hi, hz, asInt, asIntOf, hw, h48, h48', hn, hm0, h63, hneg, hs, Question.forced, newRow, grownCap, Builtin.firstCells]
theorem run_append_none {t u ty e : TypeId} {i : TypeInfo} {z : Value} (ht : P.underlying t = some (.slice e)) (hu : P.underlying u = some (.int .i64)) (hi : P.info? e = some i) (hz : i.zero = some z) :
    (Builtin.append_ #[t, u] ty #[.slice none 0 0, .int .i64 0]).run P w = .ok (.slice none 0 0) w := by
  have hw : IntKind.i64.wrap (0 : Int) = (0 : Int) := by decide
  simp [Builtin.append_, run_underlying ht, run_underlying hu, sizeOf, typeInfo, zeroValue, hi, hz, asInt, asIntOf, hw]
theorem u8_zero {e : TypeId} (he : isBytes P e = true) : P.underlying e = some (.int .u8) ∧ sizeTy P e = some 1 := by
  unfold isBytes at he
  split at he
  · rename_i h; exact ⟨h, of_decide_eq_true he⟩
  · cases he
set_option maxHeartbeats 1000000 in
theorem appendz_does {c : Call} {x y : Operand} {t u e : TypeId} {zs : List Value} {callf : CallF} (ho : o.op = .call c) (hb : c.callee = .builtin .append) (hc : c.args.toList = [x, y]) (hct : c.argTypes.toList = [t, u]) (ht : P.underlying t = some (.slice e)) (hu : P.underlying u = some (.int .i64))
    (he : isBytes P e = true) (hz : zeroTy P e = some zs) (hz0 : zs = [.int .u8 0]) (hsb : smallBytes P e = true) (S : Sim w0 X σ w) (hx : ∀ v, ev fr x = some v → relV X v (a.eval x)) (hy : ∀ v, ev fr y = some v → relV X v (a.eval y))
    (h : aop callf (.appendz x y) fr σ = some (v, σ')) : Does P w0 o a X σ w v σ' := by
  simp only [aop, Option.bind_eq_some_iff] at h
  obtain ⟨x0, hx0, y0, hy0, h⟩ := h
  obtain ⟨i, z, hi, hz1, hz2, hz3, hz4, hz5⟩ := zero_info hz
  have his : i.size = 1 := by rw [hz3, hz0]; rfl
  have hby : i.bytes ≤ 4194304 := by simpa [smallBytes, bytesTy, hi] using hsb
  obtain ⟨ks, hks⟩ := run_builtin (P := P) (a := a) ho hb w
  rw [args_two hc, types_two hct] at hks
  simp only [List.map_toArray, List.map_cons, List.map_nil, builtin] at hks
  have fin : ∀ {r : Value} {w' : World}, (Builtin.append_ #[t, u] o.type #[a.eval x, a.eval y]).run P w = .ok r w' → (execOp a.eval o).run P w = .ok (.value r) w' := fun hr => by
    rw [hks]; simp only [Sem.run_bind, hr, Result.andThen_ok, Sem.run_pure]
  unfold zerosF at h
  split at h
  · rename_i k
    have e1 := relV_nilslice (hx _ hx0)
    have e2 := (relV_sc (v := .int .i64 k) rfl).1 (hy _ hy0)
    split at h
    · rename_i hk
      subst hk
      cases h
      exact ⟨Ast.refl _, _, .slice none 0 0, w, X, fin (by rw [e1, e2]; exact run_append_none ht hu hi hz1), .inl rfl, (relV_sc rfl).2 rfl, S, Stp.refl _ _ _⟩
    · split at h
      · rename_i hk
        obtain ⟨m, rfl⟩ := Int.eq_ofNat_of_zero_le (by omega : 0 ≤ k)
        rw [Int.toNat_natCast] at h
        cases h
        have hm0 : 0 < m := by omega
        have hrun := run_append_zeros (P := P) (w := w) (ty := o.type) ht hu hi hz1 m hm0 (by omega) his hby
        have hcap : m ≤ grownCap w m 0 e ∧ grownCap w m 0 e ≤ maxLen := ⟨grownCap_ge w _ _ _, grownCap_le_maxLen w _ _ _ (by simp only [maxLen]; omega)⟩
        generalize grownCap w m 0 e = cap at *
        have hzsz : z.cells.size = 1 := by omega
        have hsz : (Builtin.zeroCells z.cells m ++ Builtin.zeroCells z.cells (cap - m)).size = cap := by
          simp only [Array.size_append, zeroCells_size, hzsz]
          omega
        have hzc : z.cells = #[.int .u8 0] := by
          apply Array.toList_inj.1
          rw [hz2, hz0]
        obtain ⟨g1, g2, g3⟩ := sim_new (w' := w.drew.alloc (.cells (Builtin.zeroCells z.cells m ++ Builtin.zeroCells z.cells (cap - m)) e)) (g := m) (pl := true) (cs := List.replicate m (.int .u8 0)) S (heap_alloc w.drew _) rfl rfl rfl (.inl rfl) (by simp)
          (by rw [hsz]; simpa using hcap.1) (fun _ => by simp [AM.sc]) (fun j p hp => by
            have hj := (List.getElem?_eq_some_iff.1 hp).1
            rw [List.length_replicate] at hj
            rw [List.getElem?_replicate, if_pos hj] at hp
            cases hp
            refine ⟨.int .u8 0, ?_, (relC_sc rfl).2 rfl⟩
            rw [Array.getElem?_append_left (by rw [zeroCells_size, hzsz]; omega)]
            simp [Builtin.zeroCells, hzc, hj, Nat.mod_one]) (fun h0' => by simp at h0'; omega)
        refine ⟨g3, _, _, _, _, fin (by rw [e1, e2]; exact hrun), .inl rfl, relV_slice_mk (new_slice (if_pos rfl) hcap.1 hcap.2 (fun _ => ?_)), g1, g2⟩
        rw [hsz]
        simp
        exact hcap.1
      · cases h
  · cases h
set_option maxHeartbeats 1000000 in
theorem append_does {c : Call} {x y : Operand} {t u e : TypeId} {q : TypeDesc} {s : Nat} {zs : List Value} {pl : Bool} {callf : CallF} (ho : o.op = .call c) (hb : c.callee = .builtin .append) (hc : c.args.toList = [x, y]) (hct : c.argTypes.toList = [t, u]) (ht : P.underlying t = some (.slice e)) (hu : P.underlying u = some q) (hq : ∀ k, q ≠ .int k)
    (hs : sizeTy P e = some s) (hz : zeroTy P e = some zs) (h0 : 0 < s) (hsb : smallBytes P e = true) (S : Sim w0 X σ w) (hx : ∀ v, ev fr x = some v → relV X v (a.eval x)) (hy : ∀ v, ev fr y = some v → relV X v (a.eval y))
    (h : aop callf (.append pl s x y) fr σ = some (v, σ')) : Does P w0 o a X σ w v σ' := by
  simp only [aop, Option.bind_eq_some_iff] at h
  obtain ⟨x0, hx0, y0, hy0, ⟨m, vs⟩, hn, h⟩ := h
  simp only at h
  obtain ⟨i, z, hi, hz1, hz2, hz3, hz4, hz5⟩ := zero_info hz
  have his : i.size = s := by simp [sizeTy, hi] at hs; exact hs
  have hzsz : z.cells.size = s := by omega
  have hby : i.bytes ≤ 4194304 := by simpa [smallBytes, bytesTy, hi] using hsb
  obtain ⟨us, r1, r2, r3, r4⟩ := news_src (P := P) S (hy y0 hy0) hn h0
  have hul : us.length = m * s := by rw [← r1.1, r2]
  have hfirst : ∀ w' : World, w'.heap = w.heap → (Builtin.firstCells i.size m (a.eval y)).run P w' = .ok us.toArray w' := fun w' hw => by
    have := r4 m (Nat.le_refl _) w' hw
    rw [his, this, List.take_of_length_le (by omega)]
  obtain ⟨ks, hks⟩ := run_builtin (P := P) (a := a) ho hb w
  rw [args_two hc, types_two hct] at hks
  simp only [List.map_toArray, List.map_cons, List.map_nil, builtin] at hks
  have fin : ∀ {r : Value} {w' : World}, (Builtin.append_ #[t, u] o.type #[a.eval x, a.eval y]).run P w = .ok r w' → (execOp a.eval o).run P w = .ok (.value r) w' := fun hr => by
    rw [hks]; simp only [Sem.run_bind, hr, Result.andThen_ok, Sem.run_pure]
  have hsum : ∀ k, k * s ≤ 1048576 → k ≤ 1048576 := fun k hk => Nat.le_trans (Nat.le_mul_of_pos_right k h0) hk
  have newblk : ∀ (A0 : Option Addr), a.eval x = .slice A0 0 0 → ¬ m = 0 → (small (m * s) && vs.all cellv && (!pl || vs.all sc)) = true → (v, σ') = (Value.slice (some ⟨σ.heap.length, 0, some (m * s)⟩) m s, { σ with heap := σ.heap ++ [.cells (m * s) pl vs] }) → Does P w0 o a X σ w v σ' := by
    intro A0 e1 hm hk heq
    cases heq
    simp only [Bool.and_eq_true, decide_eq_true_eq, Bool.or_eq_true, Bool.not_eq_true', small] at hk
    have hm1 := hsum m hk.1.1
    have hrun := run_append_more (P := P) (w := w) (ty := o.type) ht hu hq hi hz1 A0 0 0 m (a.eval y) [] us r3 hfirst (fun w' _ => by
      cases A0 with
      | none => simp [Builtin.firstCells]
      | some ra =>
        have := run_loadCells_list (P := P) w' ra [] (fun j v hv => by simp at hv)
        simpa [Builtin.firstCells] using this) (by omega) (by omega) hby
    simp only [Nat.zero_add] at hrun
    have hcap : m ≤ grownCap w m 0 e ∧ grownCap w m 0 e ≤ maxLen := ⟨grownCap_ge w _ _ _, grownCap_le_maxLen w _ _ _ (by simp only [maxLen]; omega)⟩
    generalize grownCap w m 0 e = cap at *
    have hsz : (([] : List Value).toArray ++ us.toArray ++ Builtin.zeroCells z.cells (cap - m)).size = cap * s := by
      simp only [Array.size_append, List.size_toArray, List.length_nil, zeroCells_size, hzsz, hul]
      rw [Nat.zero_add, ← Nat.add_mul]
      congr 1
      omega
    have hpos : 0 < m * s := Nat.mul_pos (by omega) h0
    obtain ⟨g1, g2, g3⟩ := sim_new (w' := w.drew.alloc (.cells (([] : List Value).toArray ++ us.toArray ++ Builtin.zeroCells z.cells (cap - m)) e)) (g := m * s) (pl := pl) (cs := vs) S (heap_alloc w.drew _) rfl rfl rfl (.inl rfl) (by rw [r2]; exact Nat.le_refl _)
      (by rw [hsz, r2]; exact Nat.mul_le_mul_right _ hcap.1) (fun e => hk.2.resolve_left (by simp [e])) (fun j p hp => by
        obtain ⟨q', hq', hr⟩ := r1.get hp
        refine ⟨q', ?_, hr⟩
        have hj := (List.getElem?_eq_some_iff.1 hq').1
        rw [Array.getElem?_append_left (by simp; exact hj)]
        simpa using hq') (fun h0' => by omega)
    refine ⟨g3, _, _, _, _, fin (by rw [e1]; exact hrun), .inl rfl, relV_slice_mk (new_slice (if_pos rfl) hcap.1 hcap.2 (fun _ => ?_)), g1, g2⟩
    rw [hsz, r2]
    exact ⟨Nat.mul_le_mul_right _ hcap.1, Nat.le_refl _⟩
  unfold St.append at h
  split at h
  · have e1 := relV_nilslice (hx _ hx0)
    split at h
    · rename_i hm
      subst hm
      cases h
      refine ⟨Ast.refl _, _, .slice none 0 0, w, X, fin (by rw [e1]; exact run_append_fits ht hu hq hi none 0 0 0 _ us r3 (hfirst w rfl) rfl (Nat.le_refl _)), .inl rfl, (relV_sc rfl).2 rfl, S, Stp.refl _ _ _⟩
    · rename_i hm
      split at h
      · rename_i hk
        exact newblk none e1 hm hk (by cases h; rfl)
      · cases h
  · rename_i ad n e'
    obtain ⟨ra, c', e1, hsl⟩ := relV_slice (hx _ hx0)
    split at h
    · rename_i hm
      subst hm
      cases h
      have hus : us = [] := List.eq_nil_of_length_eq_zero (by omega)
      subst hus
      have := run_append_fits (P := P) (w := w) (ty := o.type) ht hu hq hi (some ra) n c' 0 (a.eval y) [] r3 (hfirst w rfl) (w' := w) rfl (by simpa using hsl.1)
      refine ⟨Ast.refl _, _, .slice (some ra) n c', w, X, fin (by rw [e1]; exact this), .inl rfl, relV_slice_mk hsl, S, Stp.refl _ _ _⟩
    · rename_i hm
      split at h
      · split at h
        · rename_i hbare
          simp only [Bool.and_eq_true, decide_eq_true_eq] at hbare
          obtain ⟨hbare, rfl⟩ := hbare
          obtain ⟨pl', hblk⟩ : ∃ pl', σ.blk ad = some (pl', []) := by
            unfold St.bare at hbare
            split at hbare
            · rename_i hb; exact ⟨_, hb⟩
            · cases hbare
          obtain ⟨hhid, g, hg, hsp⟩ := blk_inv hblk
          obtain ⟨hnc, hcm, bx, hbx, s', hs', hle, hsr⟩ := hsl
          obtain ⟨c1, c2, _⟩ := S.cell _ bx g pl' [] hbx hhid hg
          rw [hsp] at hs'
          cases hs'
          obtain ⟨_, k3⟩ := (hsr c1).2 h0
          have hz0 := S.zero _ bx hbx c2.symm
          have hc0 : c' = 0 := by
            rcases Nat.eq_zero_or_pos c' with h | h
            · exact h
            · have := Nat.mul_pos h h0; omega
          have hn0 : n = 0 := by omega
          subst hc0; subst hn0
          split at h
          · rename_i hk
            exact newblk (some ra) e1 hm hk (by cases h; rfl)
          · cases h
        · cases h
      · rename_i hlk
        simp only [Bool.or_eq_true, decide_eq_true_eq, not_or, ne_eq, Decidable.not_not] at hlk
        obtain ⟨hlk, rfl⟩ := hlk
        simp only [Option.bind_eq_some_iff] at h
        obtain ⟨⟨pl', cs⟩, hblk, h⟩ := h
        simp only at h
        split at h
        · rename_i hck
          simp only [Bool.and_eq_true, Bool.or_eq_true, Bool.not_eq_true'] at hck
          obtain ⟨hhid, g, hg, hsp⟩ := blk_inv hblk
          have hsl' := hsl
          obtain ⟨hnc, hcm, bx, hbx, s', hs', hle, hsr⟩ := hsl'
          obtain ⟨c1, c2, c3, c4, c5, c6⟩ := S.cell _ bx g pl' cs hbx hhid hg
          rw [hsp] at hs'
          cases hs'
          have hown := S.lock _ bx hbx (by omega)
          obtain ⟨o1, rs, ty, lo, hi', o2, o3, o4, o5⟩ := c6 hown
          obtain ⟨k1, k2⟩ := hsr c1
          obtain ⟨k2, k3⟩ := k2 h0
          split at h
          · rename_i hend
            split at h
            · rename_i hoff
              cases h
              simp only [Bool.and_eq_true, decide_eq_true_eq, small] at hoff
              obtain ⟨hoff, hsm⟩ := hoff
              have hra := k1 (.inr hoff)
              rw [hoff, o1, Nat.zero_add] at hra
              rw [hoff, Nat.zero_add] at hend k2 k3
              have hnm := hsum _ hsm
              have hgl : (cs ++ vs).length = (n + m) * e' := by rw [List.length_append, r2, ← hend, Nat.add_mul]
              have hpos : 0 < m * e' := Nat.mul_pos (by omega) h0
              have hcs : rel2 (relC X) cs (rs.toList.take cs.length) := by
                refine ⟨by simp; omega, fun i p q hp hq => ?_⟩
                obtain ⟨u, hu, hr'⟩ := c5 i p hp
                have hil : i < cs.length := (List.getElem?_eq_some_iff.1 hp).1
                simp only [World.cell?, o2, o1, Nat.zero_add] at hu
                rw [List.getElem?_take_of_lt hil] at hq
                simp at hu hq
                rw [hq] at hu
                cases hu
                exact hr'
              by_cases hroom : n + m ≤ c'
              · have hfit : (n + m) * e' ≤ c' * e' := Nat.mul_le_mul_right _ hroom
                have hnme : (n + m) * e' = n * e' + m * e' := Nat.add_mul _ _ _
                obtain ⟨w', f1, f2, f3, f4, f5, f6, f7⟩ := run_storeCells_fr (P := P) bx.b (n * e') ty lo hi' us 0 rs w o2 (by omega) (by omega) (fun u hu => by
                  obtain ⟨i, hi⟩ := List.mem_iff_getElem?.1 hu
                  have hil : i < vs.length := by rw [r1.1]; exact (List.getElem?_eq_some_iff.1 hi).1
                  exact relC_one (r1.2 i _ u (List.getElem?_eq_getElem hil) hi))
                have hadd : ra.add (n * i.size) = ⟨bx.b, n * e', none⟩ := by rw [hra, his, add_lit, Nat.zero_add]
                have hrun := run_append_fits (P := P) (w := w) (ty := o.type) ht hu hq hi (some ra) n c' m (a.eval y) us r3 (hfirst w rfl) (w' := w') (by simp only; rw [hadd]; exact f1) hroom
                have hsim := sim_grow (g' := (n + m) * e') (vs := vs) (d := addDirty σ ad.block vs) S hbx (by omega) hhid hg (b' := bx.b) f2 (by omega) (.inl rfl) (fun k _ hk => f4 k hk) f5 f6 f7 (by omega) (by omega) (by simp [putAt_length]; omega) (by simp [putAt_length]; omega) (fun e => hck.2.resolve_left (by simp [e]))
                  (fun j p hp => by
                    have hjl : j < (n + m) * e' := by rw [← hgl]; exact (List.getElem?_eq_some_iff.1 hp).1
                    have hput : (putAt rs.toList (n * e' + 0) us).toArray[j]? = if n * e' ≤ j ∧ j < n * e' + us.length then us[j - n * e']? else rs.toList[j]? := by
                      have := putAt_get us rs.toList (n * e') j (by simp; omega)
                      simpa using this
                    rw [hput]
                    by_cases hj : j < cs.length
                    · rw [List.getElem?_append_left hj] at hp
                      rw [if_neg (by omega)]
                      obtain ⟨u, hu, hr⟩ := hcs.get hp
                      rw [List.getElem?_take_of_lt hj] at hu
                      exact ⟨u, hu, hr⟩
                    · rw [List.getElem?_append_right (by omega)] at hp
                      rw [if_pos (by omega), ← hend] at *
                      exact r1.get hp)
                  dirty_ok.1 dirty_ok.2.1 (fun hnd => flat_sc (dirty_ok.2.2 hnd))
                obtain ⟨g1, g2, g3⟩ := hsim
                refine ⟨g3, _, .slice (some ra) (n + m) c', w', _, fin (by rw [e1]; exact hrun), .inl rfl, relV_slice_mk ?_, g1, g2⟩
                rw [hra]
                refine new_slice (if_pos rfl) hroom hcm (fun _ => ?_)
                rw [hgl]
                exact ⟨hfit, by simp [putAt_length]; omega⟩
              · have hrd := S.readCells (a := ad) (ra := ra) (n := n * e') hblk ⟨bx, hbx, g, hsp, hle, fun _ => by rw [hra, o1, hoff]⟩ (by rw [hoff]; omega)
                obtain ⟨olds, p1, p2⟩ := hrd
                rw [hoff, List.drop_zero, List.take_of_length_le (by omega)] at p1
                have hol : olds.length = n * e' := by rw [← p1.1]; omega
                have hrun := run_append_more (P := P) (w := w) (ty := o.type) ht hu hq hi hz1 (some ra) n c' m (a.eval y) olds us r3 hfirst (fun w' hw => by
                  have := run_loadCells_list (P := P) w' ra olds (fun j v hv => by rw [World.cell?_of_block (w := w) (by rw [hw])]; exact p2 j v hv)
                  rw [hol] at this
                  simpa [Builtin.firstCells, his] using this) (by omega) hnm hby
                have hcap : n + m ≤ grownCap w (n + m) c' e ∧ grownCap w (n + m) c' e ≤ maxLen := ⟨grownCap_ge w _ _ _, grownCap_le_maxLen w _ _ _ (by simp only [maxLen]; omega)⟩
                generalize grownCap w (n + m) c' e = cap at *
                have hsz : (olds.toArray ++ us.toArray ++ Builtin.zeroCells z.cells (cap - (n + m))).size = cap * e' := by
                  simp only [Array.size_append, List.size_toArray, zeroCells_size, hzsz, hul, hol]
                  rw [← Nat.add_mul, ← Nat.add_mul]
                  congr 1
                  omega
                have hrl := p1.append r1
                have hsim := sim_grow (w' := w.drew.alloc (.cells (olds.toArray ++ us.toArray ++ Builtin.zeroCells z.cells (cap - (n + m))) e)) (g' := (n + m) * e') (vs := vs) (d := addDirty σ ad.block vs) S hbx (by omega) hhid hg (b' := w.heap.size) (rs' := olds.toArray ++ us.toArray ++ Builtin.zeroCells z.cells (cap - (n + m))) (ty := e) (lo := 0) (hi := 0)
                  (by rw [heap_alloc]; exact Array.getElem?_push_size) (by rw [heap_alloc]; simp) (.inr (Nat.le_refl _)) (fun k hk _ => by rw [heap_alloc, Array.getElem?_push, if_neg (by show ¬ k = w.heap.size; omega)]; rfl) rfl rfl rfl (by have := Nat.add_mul n m e'; omega) (by omega) (.inl rfl) (by rw [hsz, hgl]; exact Nat.mul_le_mul_right _ hcap.1) (fun e => hck.2.resolve_left (by simp [e]))
                  (fun j p hp => by
                    obtain ⟨u, hu, hr⟩ := hrl.get hp
                    refine ⟨u, ?_, hr⟩
                    have hj := (List.getElem?_eq_some_iff.1 hu).1
                    rw [Array.getElem?_append_left (by simpa using hj)]
                    simpa using hu)
                  dirty_ok.1 dirty_ok.2.1 (fun hnd => flat_sc (dirty_ok.2.2 hnd))
                obtain ⟨g1, g2, g3⟩ := hsim
                refine ⟨g3, _, _, _, _, fin (by rw [e1]; exact hrun), .inl rfl, relV_slice_mk (new_slice (if_pos rfl) hcap.1 hcap.2 (fun _ => ?_)), g1, g2⟩
                rw [hsz, hgl]
                exact ⟨Nat.mul_le_mul_right _ hcap.1, Nat.le_refl _⟩
            · cases h
          · split at h
            · rename_i hov
              simp only [Bool.and_eq_true, decide_eq_true_eq, Bool.or_eq_true] at hov
              simp only [Option.map_eq_some_iff] at h
              obtain ⟨σ1, hw1, h⟩ := h
              cases h
              have hra := k1 hov.2
              have hnme : (n + m) * e' = n * e' + m * e' := Nat.add_mul _ _ _
              have hroom : n + m ≤ c' := by
                have : (n + m) * e' ≤ c' * e' := by omega
                exact Nat.le_of_mul_le_mul_right this h0
              have hrelA : relA X { ad with off := ad.off + n * e' } (ra.add (n * e')) := relA.add ⟨bx, hbx, g, hsp, hle, fun _ => hra⟩ _
              obtain ⟨ha, w', f1, f2, f3⟩ := write_does (P := P) S hrelA r1 hw1
              have hrun := run_append_fits (P := P) (w := w) (ty := o.type) ht hu hq hi (some ra) n c' m (a.eval y) us r3 (hfirst w rfl) (w' := w') (by simp only; rw [his]; exact f1) hroom
              refine ⟨ha, _, .slice (some ra) (n + m) c', w', X, fin (by rw [e1]; exact hrun), .inl rfl, relV_slice_mk ⟨hroom, hcm, bx, hbx, g, hsp, hle, fun h => ⟨fun _ => hra, fun _ => ⟨k2, k3⟩⟩⟩, f2, f3⟩
            · cases h
        · cases h
  · cases h

end
end AM
end Go.Proofs.Ytpjjkmfidghkjaa
end
section
namespace Go.Proofs.Ytpjjkmfidghkjaa
namespace AM
open Go Go.RowKit

section
variable {P : Program} {X : Emb} {fr : Fr} {a : Act} {o : Oper} {v : Value} {w0 w : World} {σ σ' : St}

/-- Where a write goes through a slice that is not empty. -/
theorem relSl.ptr {b ra : Addr} {n e c : Nat} (h : relSl X b n e ra c) (hn : 0 < n) : relA X b ra := by
  obtain ⟨_, _, bx, hx, s, hs, hl, hr⟩ := h
  exact ⟨bx, hx, s, hs, hl, fun e => (hr e).1 (.inl hn)⟩
theorem copy_does {c : Call} {x y : Operand} {t u e : TypeId} {s : Nat} {callf : CallF} (ho : o.op = .call c) (hb : c.callee = .builtin .copy) (hc : c.args.toList = [x, y]) (hct : c.argTypes.toList = [t, u]) (ht : P.underlying t = some (.slice e))
    (hs : sizeTy P e = some s) (h0 : 0 < s) (S : Sim w0 X σ w) (hx : ∀ v, ev fr x = some v → relV X v (a.eval x)) (hy : ∀ v, ev fr y = some v → relV X v (a.eval y))
    (h : aop callf (.copy s x y) fr σ = some (v, σ')) : Does P w0 o a X σ w v σ' := by
  simp only [aop, Option.bind_eq_some_iff] at h
  obtain ⟨x0, hx0, y0, hy0, ⟨m, vs⟩, hn, h⟩ := h
  simp only at h
  obtain ⟨us, r1, r2, r3, r4⟩ := news_src (P := P) S (hy y0 hy0) hn h0
  have hul : us.length = m * s := by rw [← r1.1, r2]
  obtain ⟨ks, hks⟩ := run_builtin (P := P) (a := a) ho hb w
  rw [args_two hc, types_two hct] at hks
  simp only [List.map_toArray, List.map_cons, List.map_nil, builtin] at hks
  have fin : ∀ {r : Value} {w' : World}, (Builtin.copy_ #[t, u] o.type #[a.eval x, a.eval y]).run P w = .ok r w' → (execOp a.eval o).run P w = .ok (.value r) w' := fun hr => by
    rw [hks]; simp only [Sem.run_bind, hr, Result.andThen_ok, Sem.run_pure]
  have run : ∀ (base : Option Addr) (n c' : Nat) (w' : World), a.eval x = .slice base n c' → (match base with | some b => (storeCells b (us.take (min m n * s))).run P w = .ok () w' | none => w' = w) → (Builtin.copy_ #[t, u] o.type #[a.eval x, a.eval y]).run P w = .ok (.int .i64 (min m n : Nat)) w' := by
    intro base n c' w' hbs hst
    have hf := r4 (min m n) (Nat.min_le_left _ _) w rfl
    have hmin : Nat.min m n = min m n := rfl
    rw [hbs]
    cases base with
    | none => simp only at hst; subst hst; simp [Builtin.copy_, run_under ht, run_size hs, r3, hmin, hf, goInt]
    | some b => simp only at hst; simp [Builtin.copy_, run_under ht, run_size hs, r3, hmin, hf, hst, goInt]
  split at h
  · cases h
    have e1 := relV_nilslice (hx _ hx0)
    have := run none 0 0 w e1 rfl
    simp only [Nat.min_zero] at this
    exact ⟨Ast.refl _, _, _, w, X, fin this, .inl rfl, relV_int_mk _ _, S, Stp.refl _ _ _⟩
  · rename_i ad n e'
    obtain ⟨ra, c', e1, hsl⟩ := relV_slice (hx _ hx0)
    split at h
    · rename_i hm
      cases h
      have := run (some ra) n c' w e1 (by simp only [hm, Nat.zero_mul, List.take_zero]; rfl)
      rw [hm] at this
      exact ⟨Ast.refl _, _, _, w, X, fin this, .inl rfl, relV_int_mk _ _, S, Stp.refl _ _ _⟩
    · rename_i hm
      simp only [Option.map_eq_some_iff] at h
      obtain ⟨σ1, hw, h⟩ := h
      cases h
      obtain ⟨ha, w', f1, f2, f3⟩ := write_does (P := P) S (hsl.ptr (by omega)) (r1.take (min m n * s)) hw
      exact ⟨ha, _, _, w', X, fin (run (some ra) n c' w' e1 f1), .inl rfl, relV_int_mk _ _, f2, f3⟩
  · cases h
theorem zeroCells_flat (z : Array Value) (n : Nat) (hz : 0 < z.size) : (Builtin.zeroCells z n).toList = (List.replicate n z.toList).flatten := made_flat z n hz
theorem clear_does {c : Call} {x : Operand} {t e : TypeId} {s : Nat} {zs : List Value} {callf : CallF} (ho : o.op = .call c) (hb : c.callee = .builtin .clear) (hc : c.args.toList = [x]) (hct : c.argTypes.toList = [t]) (ht : P.underlying t = some (.slice e))
    (hs : sizeTy P e = some s) (hz : zeroTy P e = some zs) (h0 : 0 < s) (S : Sim w0 X σ w) (hx : ∀ v, ev fr x = some v → relV X v (a.eval x))
    (h : aop callf (.clear s zs x) fr σ = some (v, σ')) : Does P w0 o a X σ w v σ' := by
  simp only [aop] at h
  obtain ⟨i, z, hi, hz1, hz2, hz3, hz4, hz5⟩ := zero_info hz
  have his : i.size = s := by simp [sizeTy, hi] at hs; exact hs
  obtain ⟨ks, hks⟩ := run_builtin (P := P) (a := a) ho hb w
  rw [args_one hc, types_one hct] at hks
  simp only [List.map_toArray, List.map_cons, List.map_nil, builtin] at hks
  have fin : ∀ {r : Value} {w' : World}, (Builtin.clear_ #[t] o.type #[a.eval x]).run P w = .ok r w' → (execOp a.eval o).run P w = .ok (.value r) w' := fun hr => by
    rw [hks]; simp only [Sem.run_bind, hr, Result.andThen_ok, Sem.run_pure]
  split at h
  · rename_i hx0
    cases h
    have e1 := relV_nilslice (hx _ hx0)
    exact ⟨Ast.refl _, _, .tuple #[], w, X, fin (by rw [e1]; simp [Builtin.clear_, run_under ht]), .inl rfl, relV_undef, S, Stp.refl _ _ _⟩
  · rename_i ad n e' hx0
    obtain ⟨ra, c', e1, hsl⟩ := relV_slice (hx _ hx0)
    split at h
    · rename_i hn
      subst hn
      cases h
      exact ⟨Ast.refl _, _, .tuple #[], w, X, fin (by rw [e1]; simp [Builtin.clear_, run_under ht]), .inl rfl, relV_undef, S, Stp.refl _ _ _⟩
    · rename_i hn
      simp only [Option.map_eq_some_iff] at h
      obtain ⟨σ1, hw, h⟩ := h
      cases h
      obtain ⟨ha, w', f1, f2, f3⟩ := write_does (P := P) S (hsl.ptr (by omega)) (rel2_sc_refl (sc_flat hz5 n)) hw
      refine ⟨ha, _, .tuple #[], w', X, fin ?_, .inl rfl, relV_undef, f2, f3⟩
      have hzf : (Builtin.zeroCells z.cells n).toList = (List.replicate n zs).flatten := by rw [zeroCells_flat _ _ (by omega), hz2]
      have hzv : (zeroValue e).run P w = .ok z w := by simp [zeroValue, typeInfo, hi, hz1]
      rw [e1]
      obtain ⟨k, rfl⟩ : ∃ k, n = k + 1 := ⟨n - 1, by omega⟩
      simp only [Builtin.clear_, Sem.run_bind, List.getElem?_toArray, List.getElem?_cons_zero, run_under ht, Result.andThen_ok, hzv, hzf, f1, Sem.run_pure]
  · cases h
end
end AM
end Go.Proofs.Ytpjjkmfidghkjaa
end
