/-
  REGIONS WHOSE ORDER IS DRAWN: the theorem. Conditions: the calls are sound; the static conditions of 'statB'.
-/
import Derived.Test.YtfefeikkjebfoaaADrawn2
set_option linter.all false
namespace Go.Proofs.Ytfefeikkjebfoaa
namespace AM
open Go Go.RowKit

/-! ### The walk through any order, with any invariant -/
section
variable {P : Program}
theorem drive {ops : Array Oper} (st : Stat2 ops) {Q : Exit → Act → World → Prop} {I : Array Bool → Act → World → Prop} (hls : ∀ l a w, I l a w → l.size = ops.size)
    (hstep : ∀ l a w j o, I l a w → ops[j]? = some o → l.getD j false = false → (∀ e ∈ o.after, Region.binds .any e = true → l.getD e.on false = true) →
      if Region.wanted o (yielded ops a.tmps) = true then Mono.gives P o a w (fun v w' => I (l.setIfInBounds j true) (a.put o.dst v) w') else I (l.setIfInBounds j true) (a.put o.dst undef) w)
    (hend : ∀ l a w, I l a w → (∀ j, j < ops.size → l.getD j false = true) → Q .normal a w) :
    ∀ (fuel : Nat) (l : Array Bool) (a : Act) (w : World), Mono.left ops.size l ≤ fuel → I l a w → wpAny P .any ops Q fuel l a w := by
  have hall : ∀ (l : Array Bool), l.size = ops.size → Region.ready .any ops l = [] → ∀ j, j < ops.size → l.getD j false = true := by
    intro l hl hnil j
    induction j using Nat.strongRecOn with
    | _ j ih =>
      intro hj
      cases hc : l.getD j false with
      | true => rfl
      | false =>
        have ho : ops[j]? = some ops[j] := Array.getElem?_eq_getElem hj
        have hm : j ∈ Region.ready .any ops l := mem_ready.2 ⟨by
          have : j < l.size := by omega
          simpa [this] using hc, ops[j], ho, fun e he hb => ih e.on (st.back j _ e ho he hb) (by have := st.back j _ e ho he hb; omega)⟩
        rw [hnil] at hm
        cases hm
  intro fuel
  induction fuel with
  | zero =>
    intro l a w hl inv
    have hnil : Region.ready .any ops l = [] := by
      refine List.eq_nil_iff_forall_not_mem.2 fun j hj => ?_
      obtain ⟨h0, o, ho, _⟩ := mem_ready.1 hj
      have h0' := Mono.listed_false_of h0
      have hjl : j < ops.size := (Array.getElem?_eq_some_iff.1 ho).1
      have : 0 < Mono.left ops.size l := by
        unfold Mono.left
        exact List.length_pos_of_mem (List.mem_filter.2 ⟨List.mem_range.2 hjl, by simp [h0']⟩)
      omega
    exact ⟨hnil, hend l a w inv (hall l (hls l a w inv) hnil)⟩
  | succ fuel ih =>
    intro l a w hl inv
    refine ⟨fun hnil => hend l a w inv (hall l (hls l a w inv) hnil), fun j hj => ?_⟩
    obtain ⟨h0, o, ho, hrd⟩ := mem_ready.1 hj
    have hun := Mono.listed_false_of h0
    have hjl : j < ops.size := (Array.getElem?_eq_some_iff.1 ho).1
    have hlt := Mono.left_set (hls l a w inv) hjl hun
    have hs := hstep l a w j o inv ho hun hrd
    unfold wpOp
    simp only [ho]
    split
    · rename_i hw
      simp only [hw, if_true] at hs
      exact .inl (Mono.wp_of_gives (fun v w' hI => ih _ _ _ (by omega) hI) hs)
    · rename_i hw
      simp only [hw] at hs
      exact ih _ _ _ (by omega) hs
end

/-! ### A part of the embedding -/
def cut (L : Nat) (X : Emb) : Emb := fun id => if id < L then X id else none
theorem cut_some {L : Nat} {X : Emb} {id : Nat} {bx : Bx} : cut L X id = some bx ↔ id < L ∧ X id = some bx := by
  unfold cut
  split
  · rename_i h; simp [h]
  · rename_i h; simp [h]
theorem cut_evo {L L' : Nat} {X X' : Emb} (h : L ≤ L') (e : Evo X X') : Evo (cut L X) (cut L' X') := fun id bx hx => by
  obtain ⟨h1, h2⟩ := cut_some.1 hx
  obtain ⟨bx', h3, h4⟩ := e id bx h2
  exact ⟨bx', cut_some.2 ⟨by omega, h3⟩, h4⟩
theorem cut_all {L : Nat} {X : Emb} : Evo (cut L X) X := fun id bx hx => ⟨bx, (cut_some.1 hx).2, .inl rfl⟩
/-- The new embedding up to L, the old one beyond. -/
def glue (L : Nat) (Y X : Emb) : Emb := fun id => if id < L then Y id else X id
theorem glue_lt {L : Nat} {Y X : Emb} {id : Nat} (h : id < L) : glue L Y X id = Y id := by simp [glue, h]
theorem glue_ge {L : Nat} {Y X : Emb} {id : Nat} (h : L ≤ id) : glue L Y X id = X id := by simp [glue, Nat.not_lt.2 h]

/-- What is known of the cells of one block. -/
def Facts (X : Emb) (w : World) (bx : Bx) (b : Option Blk) : Prop := ∀ g pl cs, b = some (.cells g pl cs) →
    g = bx.gen ∧ cs.length = bx.known ∧ g ≤ cs.length ∧ (pl = true → cs.all sc = true) ∧
    (∀ j v, cs[j]? = some v → ∃ u, w.cell? ⟨bx.b, bx.o + j, none⟩ = some u ∧ relC X v u) ∧
    (bx.own = true → bx.o = 0 ∧ ∃ rs ty lo hi, w.heap[bx.b]? = some (.cells rs ty (lo, hi)) ∧ rs.size = bx.size ∧ bx.known ≤ bx.size ∧ (hi = lo ∨ bx.size ≤ lo))
theorem Facts.mono {X X' : Emb} {w w' : World} {bx : Bx} {b : Option Blk} (h : Facts X w bx b) (e : Evo X X') (hw : w'.heap[bx.b]? = w.heap[bx.b]?) : Facts X' w' bx b := fun g pl cs hb => by
  obtain ⟨h1, h2, h3, h4, h5, h6⟩ := h g pl cs hb
  refine ⟨h1, h2, h3, h4, fun j v hj => ?_, fun ho => ?_⟩
  · obtain ⟨u, hu, hr⟩ := h5 j v hj
    exact ⟨u, by rw [← hu]; simp only [World.cell?, hw], hr.evo e⟩
  · rw [hw]; exact h6 ho
theorem Sim.facts {w0 w : World} {X : Emb} {σ : St} (S : Sim w0 X σ w) {id : Nat} {bx : Bx} (hx : X id = some bx) (hh : id ∉ σ.hid) : Facts X w bx σ.heap[id]? := fun g pl cs hb => S.cell id bx g pl cs hx hh hb

/-- An operation that does not touch old memory does the same on every heap of that length. -/
theorem nonmem_aop {callf : CallF} {p : AOp} {fr : Fr} {σ σ' : St} {v : Value} (hm : memOp p = false) (h : aop callf p fr σ = some (v, σ')) :
    ∃ bl, σ' = { σ with heap := σ.heap ++ bl } ∧ ∀ τ : St, τ.heap.length = σ.heap.length → aop callf p fr τ = some (v, { τ with heap := τ.heap ++ bl }) := by
  have pure_case : ∀ q : AOp, (pval q fr).map (fun v => (v, σ)) = some (v, σ') → ∃ bl, σ' = { σ with heap := σ.heap ++ bl } ∧ ∀ τ : St, τ.heap.length = σ.heap.length → (pval q fr).map (fun v => (v, τ)) = some (v, { τ with heap := τ.heap ++ bl }) := fun q h => by
    simp only [Option.map_eq_some_iff] at h
    obtain ⟨u, hu, h⟩ := h
    cases h
    exact ⟨[], by simp, fun τ _ => by simp [hu]⟩
  cases p <;> simp only [memOp] at hm <;> (try (cases hm)) <;> simp only [aop] at h ⊢ <;> first
    | exact pure_case _ h
    | skip
  case alloc pl zs => cases h; exact ⟨_, rfl, fun τ hτ => by simp [St.new, hτ]⟩
  case box pl x =>
    simp only [Option.bind_eq_some_iff] at h
    obtain ⟨p, hp, h⟩ := h
    split at h
    · rename_i hc
      cases h
      exact ⟨_, rfl, fun τ hτ => by rw [hp]; simp only [Option.bind_some]; rw [if_pos hc]; simp [St.new, hτ]⟩
    · cases h
  case bslice pl esz n zs ps =>
    simp only [Option.bind_eq_some_iff] at h
    obtain ⟨p, hp, cs, hcs, h⟩ := h
    split at h
    · rename_i hc
      cases h
      exact ⟨_, rfl, fun τ hτ => by rw [hp]; simp only [Option.bind_some]; rw [hcs]; simp only [Option.bind_some]; rw [if_pos hc]; simp [St.new, hτ]⟩
    · cases h
  case strb x =>
    split at h
    · rename_i s hs
      split at h
      · rename_i hc
        cases h
        exact ⟨_, rfl, fun τ hτ => by rw [if_pos hc]; simp [St.new, hτ]⟩
      · cases h
    · cases h
  case mkslice pl esz zs l c =>
    simp only [Option.bind_eq_some_iff] at h
    obtain ⟨p, hp, q, hq, l', hl', c', hc', h⟩ := h
    split at h
    · rename_i hc
      cases h
      exact ⟨_, rfl, fun τ hτ => by rw [hp]; simp only [Option.bind_some]; rw [hq]; simp only [Option.bind_some]; rw [hl']; simp only [Option.bind_some]; rw [hc']; simp only [Option.bind_some]; rw [if_pos hc]; simp [St.new, hτ]⟩
    · cases h
end AM
end Go.Proofs.Ytfefeikkjebfoaa
