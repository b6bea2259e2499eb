/-
  THE ABSTRACT MACHINE's MEMORY: a new block, a write, a block made longer: the state goes on standing for the world. Conditions: none.
-/
import Derived.Test.YtfefeikkjebfoaaAPure3
namespace Go.Proofs.Ytfefeikkjebfoaa
namespace AM
open Go Go.RowKit

theorem blk_inv {σ : St} {a : Addr} {pl : Bool} {cs : List Value} (h : σ.blk a = some (pl, cs)) : a.block ∉ σ.hid ∧ ∃ g, σ.heap[a.block]? = some (.cells g pl cs) ∧ a.spot = some g := by
  unfold St.blk at h
  split at h
  · cases h
  · rename_i hh
    split at h
    · rename_i g pl' cs' e
      split at h
      · rename_i hs
        cases h
        exact ⟨by simpa using hh, g, e, hs⟩
      · cases h
    · cases h
/-- What is known of a block that is read. -/
theorem Sim.read {w0 w : World} {X : Emb} {σ : St} (S : Sim w0 X σ w) {a ra : Addr} {pl : Bool} {cs : List Value} (hb : σ.blk a = some (pl, cs)) (hr : relA X a ra) :
    ∃ bx, X a.block = some bx ∧ a.spot = some bx.gen ∧ ra = ⟨bx.b, bx.o + a.off, none⟩ ∧ ∀ j v, cs[j]? = some v → ∃ u, w.cell? ⟨bx.b, bx.o + j, none⟩ = some u ∧ relC X v u := by
  obtain ⟨hh, g, hg, hs⟩ := blk_inv hb
  obtain ⟨bx, hx, s, hs', hl, hra⟩ := hr
  obtain ⟨h1, h2, h3, h4, h5, h6⟩ := S.cell _ bx g pl cs hx hh hg
  rw [hs] at hs'
  cases hs'
  exact ⟨bx, hx, by rw [hs, h1], hra h1, h5⟩
theorem Sim.readCells {w0 w : World} {X : Emb} {σ : St} (S : Sim w0 X σ w) {a ra : Addr} {pl : Bool} {cs : List Value} (hb : σ.blk a = some (pl, cs)) (hr : relA X a ra) {n : Nat} (hn : a.off + n ≤ cs.length) :
    ∃ rs : List Value, rel2 (relC X) ((cs.drop a.off).take n) rs ∧ ∀ j u, rs[j]? = some u → w.cell? (ra.add j) = some u := by
  obtain ⟨bx, hx, hs, rfl, hc⟩ := S.read hb hr
  have key : ∀ m, m ≤ n → ∃ rs : List Value, rel2 (relC X) ((cs.drop a.off).take m) rs ∧ ∀ j u, rs[j]? = some u → w.cell? ((⟨bx.b, bx.o + a.off, none⟩ : Addr).add j) = some u := by
    intro m
    induction m with
    | zero => intro _; exact ⟨[], by simpa using rel2.nil, by simp⟩
    | succ m ih =>
      intro hm
      obtain ⟨rs, h1, h2⟩ := ih (by omega)
      have hlt : a.off + m < cs.length := by omega
      obtain ⟨u, hu, hr'⟩ := hc (a.off + m) cs[a.off + m] (List.getElem?_eq_getElem hlt)
      refine ⟨rs ++ [u], ?_, fun j u' hj => ?_⟩
      · rw [List.take_succ_eq_append_getElem (by simp; omega)]
        refine h1.append ?_
        have : (cs.drop a.off)[m]'(by simp; omega) = cs[a.off + m] := by simp
        rw [this]
        exact rel2.nil.cons hr'
      · have hl : rs.length = m := by rw [← h1.1]; simp; omega
        rcases Nat.lt_or_ge j rs.length with hj' | hj'
        · rw [List.getElem?_append_left hj'] at hj
          exact h2 j u' hj
        · rw [List.getElem?_append_right hj'] at hj
          have : j = m := by
            have := (List.getElem?_eq_some_iff.1 hj).1
            simp at this; omega
          subst this
          rw [hl] at hj
          simp at hj
          subst hj
          rw [add_lit, ← hu]
          congr 2
          omega
  exact key n (Nat.le_refl _)

/-- A new block. -/
theorem sim_new {w0 w w' : World} {X : Emb} {σ : St} (S : Sim w0 X σ w) {rcs : Array Value} {ty : TypeId} {lo hi g : Nat} {pl : Bool} {cs : List Value}
    (hh : w'.heap = w.heap.push (.cells rcs ty (lo, hi))) (h1 : w'.os = w.os) (h2 : w'.tape = w.tape) (h3 : w'.output = w.output) (hf : hi = lo ∨ rcs.size ≤ lo) (hg : g ≤ cs.length) (hl : cs.length ≤ rcs.size)
    (hp : pl = true → cs.all sc = true) (hr : ∀ (j : Nat) (v : Value), cs[j]? = some v → ∃ u, rcs[j]? = some u ∧ relC X v u) (hz : cs.length = 0 → rcs.size = 0) :
    let X' : Emb := fun id => if id = σ.heap.length then some ⟨w.heap.size, 0, true, g, cs.length, rcs.size⟩ else X id
    Sim w0 X' { σ with heap := σ.heap ++ [.cells g pl cs] } w' ∧ Stp X σ w X' w' ∧ Ast σ { σ with heap := σ.heap ++ [.cells g pl cs] } := by
  intro X'
  have hnone : X σ.heap.length = none := by
    cases hx : X σ.heap.length with
    | none => rfl
    | some bx => have := S.dom _ _ hx; omega
  have hX : ∀ id bx, X id = some bx → X' id = some bx := fun id bx hx => by
    have := S.dom _ _ hx
    simp only [X']
    rw [if_neg (by omega)]
    exact hx
  have hevo : Evo X X' := fun id bx hx => ⟨bx, hX id bx hx, .inl rfl⟩
  have hold : ∀ k, k < w.heap.size → w'.heap[k]? = w.heap[k]? := fun k hk => by rw [hh, Array.getElem?_push, if_neg (by omega)]
  have hcell : ∀ (b : Nat) (o : Nat), b < w.heap.size → w'.cell? ⟨b, o, none⟩ = w.cell? ⟨b, o, none⟩ := fun b o hb => World.cell?_of_block (w := w) (hold b hb)
  have hsz : w'.heap.size = w.heap.size + 1 := by rw [hh]; simp
  have hback : ∀ id bx', X' id = some bx' → (id = σ.heap.length ∧ bx' = ⟨w.heap.size, 0, true, g, cs.length, rcs.size⟩) ∨ (id ≠ σ.heap.length ∧ X id = some bx') := fun id bx' h => by
    simp only [X'] at h
    split at h
    · rename_i e; cases h; exact .inl ⟨e, rfl⟩
    · rename_i e; exact .inr ⟨e, h⟩
  refine ⟨⟨?_, ?_, ?_, ?_, ?_, ?_, ?_⟩, ⟨by omega, h1, h2, h3, fun k hk _ => hold k hk, hevo, ?_, ?_⟩, ⟨by simp, rfl, rfl, fun _ h => h, ?_, ?_, fun t h => .inl h⟩⟩
  · exact S.bel.trans ⟨h1, h2, h3, by omega, fun k hk => hold k (by have := S.bel.size; omega)⟩
  · intro id bx h
    rcases hback id bx h with ⟨rfl, _⟩ | ⟨_, h⟩
    · simp
    · have := S.dom _ _ h; simp; omega
  · intro id bx h
    rcases hback id bx h with ⟨rfl, rfl⟩ | ⟨_, h⟩
    · simp; exact ⟨by omega, S.bel.size⟩
    · have := S.place _ _ h; exact ⟨by omega, this.2⟩
  · intro id bx g' pl' cs' h hh' hc
    rcases hback id bx h with ⟨rfl, rfl⟩ | ⟨hne, h⟩
    · simp only [List.getElem?_append_right (Nat.le_refl _), Nat.sub_self, List.getElem?_cons_zero, Option.some.injEq, Blk.cells.injEq] at hc
      obtain ⟨rfl, rfl, rfl⟩ := hc
      have hnew : w'.heap[w.heap.size]? = some (.cells rcs ty (lo, hi)) := by rw [hh]; simp
      refine ⟨rfl, rfl, hg, hp, fun j v hv => ?_, fun _ => ⟨rfl, rcs, ty, lo, hi, hnew, rfl, hl, hf⟩⟩
      obtain ⟨u, hu, hr'⟩ := hr j v hv
      exact ⟨u, by simp [World.cell?, hnew, hu], hr'.evo hevo⟩
    · have hlt := S.dom _ _ h
      rw [List.getElem?_append_left hlt] at hc
      obtain ⟨c1, c2, c3, c4, c5, c6⟩ := S.cell id bx g' pl' cs' h hh' hc
      have hb := (S.place _ _ h).1
      refine ⟨c1, c2, c3, c4, fun j v hv => ?_, fun ho => ?_⟩
      · obtain ⟨u, hu, hr'⟩ := c5 j v hv
        exact ⟨u, by rw [hcell _ _ hb]; exact hu, hr'.evo hevo⟩
      · obtain ⟨o1, rs, ty', lo', hi', o2, o3⟩ := c6 ho
        exact ⟨o1, rs, ty', lo', hi', by rw [hold _ hb]; exact o2, o3⟩
  · intro i j bi bj hi hj oi oj e
    rcases hback i bi hi with ⟨rfl, rfl⟩ | ⟨_, hi⟩ <;> rcases hback j bj hj with ⟨rfl, rfl⟩ | ⟨_, hj⟩
    · rfl
    · have := (S.place _ _ hj).1; simp at e; omega
    · have := (S.place _ _ hi).1; simp at e; omega
    · exact S.inj i j bi bj hi hj oi oj e
  · intro id bx h hl'
    rcases hback id bx h with ⟨rfl, rfl⟩ | ⟨_, h⟩
    · rfl
    · exact S.lock id bx h hl'
  · intro id bx h h0
    rcases hback id bx h with ⟨rfl, rfl⟩ | ⟨_, h⟩
    · exact hz h0
    · exact S.zero id bx h h0
  · intro id bx bx' h h'
    rw [hX id bx h] at h'
    cases h'
    exact .inl rfl
  · intro id bx' h
    rcases hback id bx' h with ⟨rfl, rfl⟩ | ⟨_, h⟩
    · exact .inr ⟨hnone, rfl, Nat.le_refl _, Nat.le_refl _⟩
    · exact .inl ⟨bx', h, rfl, .inl rfl⟩
  · intro id hi _ r hr
    simpa [refsAt, List.getElem?_append_left hi] using hr
  · intro id hi _
    exact List.getElem?_append_left hi

/-- A write into a block. -/
theorem sim_write {w0 w w' : World} {X : Emb} {σ : St} (S : Sim w0 X σ w) {id : Nat} {bx : Bx} {g : Nat} {pl : Bool} {cs cs' : List Value} {d : List Nat} {rs rs' : Array Value} {ty : TypeId} {lo hi : Nat}
    (hx : X id = some bx) (hlk : σ.lock ≤ id) (hhid : id ∉ σ.hid) (hc : σ.heap[id]? = some (.cells g pl cs)) (hr0 : w.heap[bx.b]? = some (.cells rs ty (lo, hi)))
    (hh : w'.heap[bx.b]? = some (.cells rs' ty (lo, hi))) (hsz : w'.heap.size = w.heap.size) (hold : ∀ k, k ≠ bx.b → w'.heap[k]? = w.heap[k]?) (h1 : w'.os = w.os) (h2 : w'.tape = w.tape) (h3 : w'.output = w.output)
    (hl : cs'.length = cs.length) (hrl : rs'.size = rs.size) (hp : pl = true → cs'.all sc = true) (hr : ∀ (j : Nat) (v : Value), cs'[j]? = some v → ∃ u, rs'[j]? = some u ∧ relC X v u)
    (hd1 : ∀ t, t ∈ σ.dirty → t ∈ d) (hd2 : ∀ t, t ∈ d → t ∈ σ.dirty ∨ t = id) (hd3 : id ∉ d → ∀ r, r ∈ refsB (.cells g pl cs') → r ∈ refsB (.cells g pl cs)) :
    Sim w0 X { σ with heap := σ.heap.set id (.cells g pl cs'), dirty := d } w' ∧ Stp X σ w X w' ∧ Ast σ { σ with heap := σ.heap.set id (.cells g pl cs'), dirty := d } := by
  have hown := S.lock id bx hx hlk
  obtain ⟨c1, c2, c3, c4, c5, c6⟩ := S.cell id bx g pl cs hx hhid hc
  obtain ⟨o1, rs0, ty0, lo0, hi0, o2, o3, o4, o5⟩ := c6 hown
  rw [hr0] at o2
  cases o2
  have hbp := S.place id bx hx
  rw [hown] at hbp
  simp only [if_true] at hbp
  have hlen : id < σ.heap.length := S.dom _ _ hx
  have hother : ∀ j bj, X j = some bj → j ≠ id → bj.b ≠ bx.b := fun j bj hj hne e => by
    cases ho : bj.own with
    | true => exact hne (S.inj j id bj bx hj hx ho hown e)
    | false =>
      have := (S.place j bj hj).2
      rw [ho] at this
      simp at this
      omega
  refine ⟨⟨?_, ?_, ?_, ?_, S.inj, S.lock, S.zero⟩, ⟨by omega, h1, h2, h3, fun k _ hk => hold k fun e => hk id bx hx hlk hhid hown e.symm, Evo.refl X, fun id bx bx' h h' => by rw [h] at h'; cases h'; exact .inl rfl, fun id bx' h => .inl ⟨bx', h, rfl, .inl rfl⟩⟩,
    ⟨by simp, rfl, rfl, hd1, ?_, ?_, ?_⟩⟩
  · exact S.bel.trans ⟨h1, h2, h3, by omega, fun k hk => hold k (by omega)⟩
  · intro j bj hj; simpa using S.dom j bj hj
  · intro j bj hj; have := S.place j bj hj; rw [hsz]; exact this
  · intro j bj g' pl' cs'' hj hh' hc'
    by_cases hji : j = id
    · subst hji
      rw [hx] at hj
      cases hj
      rw [List.getElem?_set_self hlen] at hc'
      cases hc'
      refine ⟨c1, by omega, by omega, hp, fun j v hv => ?_, fun _ => ⟨o1, rs', ty, lo, hi, hh, by omega, o4, o5⟩⟩
      obtain ⟨u, hu, hr'⟩ := hr j v hv
      exact ⟨u, by simp [World.cell?, hh, o1, hu], hr'⟩
    · rw [List.getElem?_set_ne (Ne.symm hji)] at hc'
      obtain ⟨k1, k2, k3, k4, k5, k6⟩ := S.cell j bj g' pl' cs'' hj hh' hc'
      have hne := hother j bj hj hji
      refine ⟨k1, k2, k3, k4, fun i v hv => ?_, fun ho => ?_⟩
      · obtain ⟨u, hu, hr'⟩ := k5 i v hv
        exact ⟨u, by rw [World.cell?_of_block (w := w) (hold bj.b hne)]; exact hu, hr'⟩
      · obtain ⟨q1, q2, q3, q4, q5, q6, q7⟩ := k6 ho
        exact ⟨q1, q2, q3, q4, q5, by rw [hold _ hne]; exact q6, q7⟩
  · intro j hj hnd r hr'
    by_cases hji : j = id
    · subst hji
      have h := hd3 hnd r
      unfold refsAt at hr' ⊢
      rw [List.getElem?_set_self hlen] at hr'
      rw [hc]
      exact h hr'
    · unfold refsAt at hr' ⊢
      rwa [List.getElem?_set_ne (Ne.symm hji)] at hr'
  · intro j hj hl'
    refine List.getElem?_set_ne fun e => ?_
    subst e
    rcases hl' with hl' | hl'
    · omega
    · exact hhid hl'
  · intro t ht
    rcases hd2 t ht with h | rfl
    · exact .inl h
    · exact .inr ⟨hlk, hhid⟩

/-- A block whose cells stay, of which more cannot be written behind its end. -/
theorem sim_mark {w0 w w' : World} {X : Emb} {σ : St} (S : Sim w0 X σ w) {id : Nat} {bx : Bx} {rs : Array Value} {ty : TypeId} {lo hi lo' hi' : Nat}
    (hx : X id = some bx) (hlk : σ.lock ≤ id) (hhid : id ∉ σ.hid) (hr0 : w.heap[bx.b]? = some (.cells rs ty (lo, hi)))
    (hh : w'.heap[bx.b]? = some (.cells rs ty (lo', hi'))) (hf : hi' = lo' ∨ rs.size ≤ lo') (hsz : w'.heap.size = w.heap.size) (hold : ∀ k, k ≠ bx.b → w'.heap[k]? = w.heap[k]?) (h1 : w'.os = w.os) (h2 : w'.tape = w.tape) (h3 : w'.output = w.output) :
    Sim w0 X σ w' ∧ Stp X σ w X w' := by
  have hown := S.lock id bx hx hlk
  have hbp := S.place id bx hx
  rw [hown] at hbp
  simp only [if_true] at hbp
  have hcell : ∀ (b o : Nat), w'.cell? ⟨b, o, none⟩ = w.cell? ⟨b, o, none⟩ := fun b o => by
    by_cases e : b = bx.b
    · subst e; simp [World.cell?, hh, hr0]
    · exact World.cell?_of_block (w := w) (hold b e)
  refine ⟨⟨?_, S.dom, ?_, ?_, S.inj, S.lock, S.zero⟩, ⟨by omega, h1, h2, h3, fun k _ hk => hold k fun e => hk id bx hx hlk hhid hown e.symm, Evo.refl X, fun id bx bx' h h' => by rw [h] at h'; cases h'; exact .inl rfl, fun id bx' h => .inl ⟨bx', h, rfl, .inl rfl⟩⟩⟩
  · exact S.bel.trans ⟨h1, h2, h3, by omega, fun k hk => hold k (by omega)⟩
  · intro j bj hj; have := S.place j bj hj; rw [hsz]; exact this
  · intro j bj g pl cs hj hh' hc'
    obtain ⟨k1, k2, k3, k4, k5, k6⟩ := S.cell j bj g pl cs hj hh' hc'
    refine ⟨k1, k2, k3, k4, fun i v hv => ?_, fun ho => ?_⟩
    · rw [hcell]; exact k5 i v hv
    · obtain ⟨q1, q2, q3, q4, q5, q6, q7, q8⟩ := k6 ho
      by_cases e : bj.b = bx.b
      · rw [e, hr0] at q6
        cases q6
        exact ⟨q1, rs, ty, lo', hi', by rw [e]; exact hh, q7, q8.1, by rw [← q7]; exact hf⟩
      · exact ⟨q1, q2, q3, q4, q5, by rw [hold _ e]; exact q6, q7, q8⟩

/-- A block made longer, where it lies or in a new place. -/
theorem sim_grow {w0 w w' : World} {X : Emb} {σ : St} (S : Sim w0 X σ w) {id : Nat} {bx : Bx} {g g' b' : Nat} {pl : Bool} {cs vs : List Value} {d : List Nat} {rs' : Array Value} {ty : TypeId} {lo hi : Nat}
    (hx : X id = some bx) (hlk : σ.lock ≤ id) (hhid : id ∉ σ.hid) (hc : σ.heap[id]? = some (.cells g pl cs))
    (hh : w'.heap[b']? = some (.cells rs' ty (lo, hi))) (hsz : w.heap.size ≤ w'.heap.size) (hb : b' = bx.b ∨ w.heap.size ≤ b') (hold : ∀ k, k < w.heap.size → k ≠ bx.b → w'.heap[k]? = w.heap[k]?) (h1 : w'.os = w.os) (h2 : w'.tape = w.tape) (h3 : w'.output = w.output)
    (hg : g < g') (hg' : g' ≤ (cs ++ vs).length) (hf : hi = lo ∨ rs'.size ≤ lo) (hl : (cs ++ vs).length ≤ rs'.size) (hp : pl = true → vs.all sc = true) (hr : ∀ (j : Nat) (v : Value), (cs ++ vs)[j]? = some v → ∃ u, rs'[j]? = some u ∧ relC X v u)
    (hd1 : ∀ t, t ∈ σ.dirty → t ∈ d) (hd2 : ∀ t, t ∈ d → t ∈ σ.dirty ∨ t = id) (hd3 : id ∉ d → vs.flatMap refsC = []) :
    let X' : Emb := fun i => if i = id then some ⟨b', 0, true, g', (cs ++ vs).length, rs'.size⟩ else X i
    Sim w0 X' { σ with heap := σ.heap.set id (.cells g' pl (cs ++ vs)), dirty := d } w' ∧ Stp X σ w X' w' ∧ Ast σ { σ with heap := σ.heap.set id (.cells g' pl (cs ++ vs)), dirty := d } := by
  intro X'
  have hown := S.lock id bx hx hlk
  obtain ⟨c1, c2, c3, c4, c5, c6⟩ := S.cell id bx g pl cs hx hhid hc
  have hbp := S.place id bx hx
  rw [hown] at hbp
  simp only [if_true] at hbp
  have hlen : id < σ.heap.length := S.dom _ _ hx
  have hb'lt : b' < w'.heap.size := by
    rcases Nat.lt_or_ge b' w'.heap.size with h | h
    · exact h
    · rw [Array.getElem?_eq_none h] at hh; cases hh
  have hother : ∀ j bj, X j = some bj → j ≠ id → bj.b ≠ bx.b := fun j bj hj hne e => by
    cases ho : bj.own with
    | true => exact hne (S.inj j id bj bx hj hx ho hown e)
    | false =>
      have := (S.place j bj hj).2
      rw [ho] at this
      simp at this
      omega
  have hXid : X' id = some ⟨b', 0, true, g', (cs ++ vs).length, rs'.size⟩ := by simp [X']
  have hXne : ∀ j, j ≠ id → X' j = X j := fun j hj => by simp [X', hj]
  have hevo : Evo X X' := fun j bj hj => by
    by_cases hji : j = id
    · subst hji
      rw [hx] at hj; cases hj
      exact ⟨_, hXid, .inr (by simp only; omega)⟩
    · exact ⟨bj, by rw [hXne j hji]; exact hj, .inl rfl⟩
  refine ⟨⟨?_, ?_, ?_, ?_, ?_, ?_, ?_⟩, ⟨hsz, h1, h2, h3, fun k hk hk' => hold k hk fun e => hk' id bx hx hlk hhid hown e.symm, hevo, ?_, ?_⟩, ⟨by simp, rfl, rfl, hd1, ?_, ?_, ?_⟩⟩
  · exact S.bel.trans ⟨h1, h2, h3, hsz, fun k hk => hold k (by have := S.bel.size; omega) (by omega)⟩
  · intro j bj hj
    by_cases hji : j = id
    · subst hji; simpa using hlen
    · rw [hXne j hji] at hj; simpa using S.dom j bj hj
  · intro j bj hj
    by_cases hji : j = id
    · subst hji
      rw [hXid] at hj; cases hj
      refine ⟨hb'lt, ?_⟩
      simp only [if_true]
      have := S.bel.size
      rcases hb with rfl | hb <;> omega
    · rw [hXne j hji] at hj
      have := S.place j bj hj
      exact ⟨by omega, this.2⟩
  · intro j bj g2 pl2 cs2 hj hh' hc'
    by_cases hji : j = id
    · subst hji
      rw [hXid] at hj
      cases hj
      rw [List.getElem?_set_self hlen] at hc'
      cases hc'
      refine ⟨rfl, rfl, hg', fun e => ?_, fun i v hv => ?_, fun _ => ⟨rfl, rs', ty, lo, hi, hh, rfl, hl, hf⟩⟩
      · rw [List.all_append, c4 e, hp e]; rfl
      · obtain ⟨u, hu, hr'⟩ := hr i v hv
        exact ⟨u, by simp [World.cell?, hh, hu], hr'.evo hevo⟩
    · rw [hXne j hji] at hj
      rw [List.getElem?_set_ne (Ne.symm hji)] at hc'
      obtain ⟨k1, k2, k3, k4, k5, k6⟩ := S.cell j bj g2 pl2 cs2 hj hh' hc'
      have hne := hother j bj hj hji
      have hlt := (S.place j bj hj).1
      refine ⟨k1, k2, k3, k4, fun i v hv => ?_, fun ho => ?_⟩
      · obtain ⟨u, hu, hr'⟩ := k5 i v hv
        exact ⟨u, by rw [World.cell?_of_block (w := w) (hold bj.b hlt hne)]; exact hu, hr'.evo hevo⟩
      · obtain ⟨q1, q2, q3, q4, q5, q6, q7⟩ := k6 ho
        exact ⟨q1, q2, q3, q4, q5, by rw [hold _ hlt hne]; exact q6, q7⟩
  · intro i j bi bj hi hj oi oj e
    by_cases hii : i = id <;> by_cases hjj : j = id
    · rw [hii, hjj]
    · subst hii
      rw [hXid] at hi; cases hi
      rw [hXne j hjj] at hj
      have h1 := hother j bj hj hjj
      have h2 := (S.place j bj hj).1
      simp at e
      rcases hb with rfl | hb
      · exact absurd e.symm h1
      · omega
    · subst hjj
      rw [hXid] at hj; cases hj
      rw [hXne i hii] at hi
      have h1 := hother i bi hi hii
      have h2 := (S.place i bi hi).1
      simp at e
      rcases hb with rfl | hb
      · exact absurd e h1
      · omega
    · rw [hXne i hii] at hi
      rw [hXne j hjj] at hj
      exact S.inj i j bi bj hi hj oi oj e
  · intro j bj hj hl'
    by_cases hji : j = id
    · subst hji; rw [hXid] at hj; cases hj; rfl
    · rw [hXne j hji] at hj; exact S.lock j bj hj hl'
  · intro j bj hj h0
    by_cases hji : j = id
    · subst hji
      rw [hXid] at hj; cases hj
      simp only at h0; omega
    · rw [hXne j hji] at hj; exact S.zero j bj hj h0
  · intro j bj bj' hj hj'
    by_cases hji : j = id
    · subst hji; exact .inr ⟨hlk, hhid⟩
    · rw [hXne j hji, hj] at hj'; cases hj'; exact .inl rfl
  · intro j bj' hj
    by_cases hji : j = id
    · subst hji
      rw [hXid] at hj; cases hj
      exact .inl ⟨bx, hx, hown.symm, hb⟩
    · rw [hXne j hji] at hj
      exact .inl ⟨bj', hj, rfl, .inl rfl⟩
  · intro j hj hnd r hr'
    by_cases hji : j = id
    · subst hji
      have h := hd3 hnd
      unfold refsAt at hr' ⊢
      rw [List.getElem?_set_self hlen] at hr'
      rw [hc]
      cases pl with
      | true => simp [refsB] at hr'
      | false =>
        simp only [refsB, List.flatMap_append, h, List.append_nil] at hr'
        exact hr'
    · unfold refsAt at hr' ⊢
      rwa [List.getElem?_set_ne (Ne.symm hji)] at hr'
  · intro j hj hl'
    refine List.getElem?_set_ne fun e => ?_
    subst e
    rcases hl' with hl' | hl'
    · omega
    · exact hhid hl'
  · intro t ht
    rcases hd2 t ht with h | rfl
    · exact .inl h
    · exact .inr ⟨hlk, hhid⟩
end AM
end Go.Proofs.Ytfefeikkjebfoaa
