/-
  WHAT A RUN OF THE ABSTRACT MACHINE DOES TO ITS STATE: old blocks that are locked or hidden stay; what is written with references is marked. Conditions: none.
-/
import Derived.Test.YtfefeikkjebfoaaASim
namespace Go.Proofs.Ytfefeikkjebfoaa
namespace AM
open Go Go.RowKit

section
variable {σ σ' : St} {v : Value} {fr : Fr}

theorem blk_inv' {a : Addr} {pl : Bool} {cs : List Value} (h : σ.blk a = some (pl, cs)) : a.block ∉ σ.hid ∧ ∃ g, σ.heap[a.block]? = some (.cells g pl cs) ∧ a.spot = some g := by
  unfold St.blk at h
  split at h
  · cases h
  · rename_i hh
    split at h
    · rename_i g pl' cs' e
      split at h
      · rename_i hs
        cases h
        exact ⟨by simpa using hh, g, e, hs⟩
      · cases h
    · cases h
theorem new_ast (b : Blk) : Ast σ { σ with heap := σ.heap ++ [b] } where
  len := by simp
  lock := rfl
  hid := rfl
  dirty := fun _ h => h
  refs := fun id hi _ r hr => by simpa [refsAt, List.getElem?_append_left hi] using hr
  fix := fun id hi _ => List.getElem?_append_left hi
  dlow := fun _ h => .inl h
theorem dirty_mem {b : Nat} {vs : List Value} : (∀ t, t ∈ σ.dirty → t ∈ addDirty σ b vs) ∧ (∀ t, t ∈ addDirty σ b vs → t ∈ σ.dirty ∨ t = b) ∧ (b ∉ addDirty σ b vs → vs.all sc = true) := by
  unfold addDirty
  split
  · rename_i hc
    refine ⟨fun _ h => h, fun _ h => .inl h, fun h => ?_⟩
    simp only [Bool.or_eq_true] at hc
    rcases hc with hc | hc
    · exact hc
    · exact absurd (by simpa using hc) h
  · exact ⟨fun t h => by simp [h], fun t h => by simp at h; exact h.symm, fun h => by simp at h⟩
theorem refs_sc' {v : Value} (h : sc v = true) : refsC v = [] := by
  unfold refsC
  split <;> first | rfl | simp [sc] at h
theorem mem_putAt' : ∀ {vs l : List Value} {off : Nat} {x : Value}, x ∈ putAt l off vs → x ∈ l ∨ x ∈ vs
  | [], l, off, x, h => .inl h
  | v :: vs, l, off, x, h => by
    have h' : x ∈ putAt (l.set off v) (off + 1) vs := h
    rcases mem_putAt' h' with h | h
    · rcases List.mem_or_eq_of_mem_set h with h | h
      · exact .inl h
      · exact .inr (by simp [h])
    · exact .inr (by simp [h])
theorem set_ast {id g g' : Nat} {pl : Bool} {cs cs' vs : List Value} (hlk : σ.lock ≤ id) (hh : id ∉ σ.hid) (hc : σ.heap[id]? = some (.cells g pl cs)) (hm : ∀ x ∈ cs', x ∈ cs ∨ x ∈ vs) :
    Ast σ { σ with heap := σ.heap.set id (.cells g' pl cs'), dirty := addDirty σ id vs } := by
  have hlen : id < σ.heap.length := (List.getElem?_eq_some_iff.1 hc).1
  refine ⟨by simp, rfl, rfl, dirty_mem.1, fun j hj hnd r hr => ?_, fun j hj hl => ?_, fun t ht => ?_⟩
  · by_cases hji : j = id
    · subst hji
      have hsc := dirty_mem.2.2 hnd
      unfold refsAt at hr ⊢
      rw [List.getElem?_set_self hlen] at hr
      rw [hc]
      cases pl with
      | true => simp [refsB] at hr
      | false =>
        simp only [refsB, List.mem_flatMap] at hr ⊢
        obtain ⟨x, hx, hr⟩ := hr
        rcases hm x hx with h' | h'
        · exact ⟨x, h', hr⟩
        · rw [refs_sc' (List.all_eq_true.1 hsc x h')] at hr; cases hr
    · unfold refsAt at hr ⊢
      rwa [List.getElem?_set_ne (Ne.symm hji)] at hr
  · refine List.getElem?_set_ne fun e => ?_
    subst e
    rcases hl with hl | hl
    · omega
    · exact hh hl
  · rcases dirty_mem.2.1 t ht with h | rfl
    · exact .inl h
    · exact .inr ⟨hlk, hh⟩
theorem write_ast {a : Addr} {vs : List Value} (h : σ.write a vs = some σ') : Ast σ σ' := by
  unfold St.write at h
  split at h
  · cases h
  · rename_i hlk
    simp only [Option.bind_eq_some_iff] at h
    obtain ⟨⟨pl, cs⟩, hb, h⟩ := h
    simp only at h
    obtain ⟨hh, g, hg, _⟩ := blk_inv' hb
    split at h
    · rw [hg] at h
      simp only [Option.some.injEq] at h
      subst h
      exact set_ast (by omega) hh hg fun x hx => mem_putAt' hx
    · cases h
theorem append_ast {pl : Bool} {esz m : Nat} {x : Value} {vs : List Value} (h : σ.append pl esz x m vs = some (v, σ')) : Ast σ σ' := by
  unfold St.append at h
  split at h
  · split at h
    · cases h; exact Ast.refl _
    · split at h
      · cases h; exact new_ast _
      · cases h
  · split at h
    · cases h; exact Ast.refl _
    · split at h
      · split at h
        · split at h
          · cases h; exact new_ast _
          · cases h
        · cases h
      · rename_i hlk
        simp only [Bool.or_eq_true, decide_eq_true_eq, not_or] at hlk
        simp only [Option.bind_eq_some_iff] at h
        obtain ⟨⟨pl', cs⟩, hb, h⟩ := h
        simp only at h
        obtain ⟨hh, g, hg, _⟩ := blk_inv' hb
        split at h
        · split at h
          · split at h
            · cases h
              exact set_ast (by omega) hh hg fun x hx => List.mem_append.1 hx
            · cases h
          · split at h
            · simp only [Option.map_eq_some_iff] at h
              obtain ⟨σ1, hw, h⟩ := h
              cases h
              exact write_ast hw
            · cases h
        · cases h
  · cases h
def CallAst (callf : CallF) : Prop := ∀ g args σ v σ', σ.lock ≤ σ.heap.length → callf g args σ = some (v, σ') → Ast σ σ'
theorem aop_ast {callf : CallF} {ao : AOp} (hcf : CallAst callf) (hl : σ.lock ≤ σ.heap.length) (h : aop callf ao fr σ = some (v, σ')) : Ast σ σ' := by
  have pure_ast : ∀ p : AOp, (pval p fr).map (fun v => (v, σ)) = some (v, σ') → Ast σ σ' := fun p h => by
    simp only [Option.map_eq_some_iff] at h
    obtain ⟨u, _, h⟩ := h
    cases h
    exact Ast.refl _
  cases ao <;> simp only [aop] at h <;> first
    | exact pure_ast _ h
    | skip
  case native k =>
    simp only [Option.map_eq_some_iff] at h
    obtain ⟨u, _, h⟩ := h
    cases h
    exact Ast.refl _
  case alloc pl zs => cases h; exact new_ast _
  case box pl x =>
    simp only [Option.bind_eq_some_iff] at h
    obtain ⟨p, _, h⟩ := h
    split at h
    · cases h; exact new_ast _
    · cases h
  case bslice pl esz n zs ps =>
    simp only [Option.bind_eq_some_iff] at h
    obtain ⟨p, _, cs, _, h⟩ := h
    split at h
    · cases h; exact new_ast _
    · cases h
  case load n a =>
    split at h
    · simp only [Option.bind_eq_some_iff, Option.map_eq_some_iff] at h
      obtain ⟨p, _, u, _, h⟩ := h
      cases h; exact Ast.refl _
    · cases h
  case store n a x =>
    simp only [Option.bind_eq_some_iff] at h
    obtain ⟨p, _, h⟩ := h
    split at h
    · split at h
      · simp only [Option.map_eq_some_iff] at h
        obtain ⟨σ1, hw, h⟩ := h
        cases h
        exact write_ast hw
      · cases h
    · cases h
  case strb x =>
    split at h
    · split at h
      · cases h; exact new_ast _
      · cases h
    · cases h
  case bstr x =>
    split at h
    · cases h; exact Ast.refl _
    · simp only [Option.bind_eq_some_iff] at h
      obtain ⟨p, _, h⟩ := h
      split at h
      · simp only [Option.map_eq_some_iff] at h
        obtain ⟨l, _, h⟩ := h
        cases h; exact Ast.refl _
      · cases h
    · cases h
  case mark x =>
    split at h
    · split at h
      · cases h
      · simp only [Option.map_eq_some_iff] at h
        obtain ⟨p, _, h⟩ := h
        cases h; exact Ast.refl _
    · cases h
  case mkslice pl esz zs l c =>
    simp only [Option.bind_eq_some_iff] at h
    obtain ⟨p, _, q, _, l', _, c', _, h⟩ := h
    split at h
    · cases h; exact new_ast _
    · cases h
  case call f args =>
    simp only [Option.bind_eq_some_iff] at h
    obtain ⟨vs, _, h⟩ := h
    exact hcf _ _ _ _ _ hl h
  case callv x args =>
    simp only [Option.bind_eq_some_iff] at h
    obtain ⟨q, _, vs, _, h⟩ := h
    split at h
    · exact hcf _ _ _ _ _ hl h
    · cases h
  case append pl esz x y =>
    simp only [Option.bind_eq_some_iff] at h
    obtain ⟨p, _, q, _, r, _, h⟩ := h
    exact append_ast h
  case copy esz x y =>
    simp only [Option.bind_eq_some_iff] at h
    obtain ⟨p, _, q, _, r, _, h⟩ := h
    split at h
    · cases h; exact Ast.refl _
    · split at h
      · cases h; exact Ast.refl _
      · simp only [Option.map_eq_some_iff] at h
        obtain ⟨σ1, hw, h⟩ := h
        cases h
        exact write_ast hw
    · cases h
  case clear esz zs x =>
    split at h
    · cases h; exact Ast.refl _
    · split at h
      · cases h; exact Ast.refl _
      · simp only [Option.map_eq_some_iff] at h
        obtain ⟨σ1, hw, h⟩ := h
        cases h
        exact write_ast hw
    · cases h
theorem aops_ast {callf : CallF} (hcf : CallAst callf) : ∀ (l : List AOper) (fr : Fr) (σ : St) (fr' : Fr) (σ' : St), σ.lock ≤ σ.heap.length → aops callf l fr σ = some (fr', σ') → Ast σ σ'
  | [], fr, σ, fr', σ', _, h => by
    simp only [aops, Option.some.injEq, Prod.mk.injEq] at h
    rw [← h.2]; exact Ast.refl _
  | o :: l, fr, σ, fr', σ', hl, h => by
    simp only [aops, Option.bind_eq_some_iff] at h
    obtain ⟨b, _, h⟩ := h
    cases b with
    | true =>
      simp only [if_true, Option.bind_eq_some_iff] at h
      obtain ⟨⟨v, σ1⟩, h1, h2⟩ := h
      have a1 := aop_ast hcf hl h1
      exact a1.trans (aops_ast hcf l _ _ _ _ (by rw [a1.lock]; exact Nat.le_trans hl a1.len) h2)
    | false =>
      simp only [Bool.false_eq_true, if_false] at h
      exact aops_ast hcf l _ _ _ _ hl h
/-- A step made with more locked and hidden. -/
theorem Ast.unlock {τ : St} {L : Nat} {H : List Nat} (hl : σ.lock ≤ σ.heap.length) (hL : L = σ.lock ∨ L = σ.heap.length) (h : Ast { σ with lock := L, hid := H ++ σ.hid } τ) : Ast σ { τ with lock := σ.lock, hid := σ.hid } where
  len := h.len
  lock := rfl
  hid := rfl
  dirty := h.dirty
  refs := h.refs
  fix := fun id hi hk => h.fix id hi (by
    simp only [List.mem_append]
    rcases hk with hk | hk
    · left; rcases hL with rfl | rfl <;> omega
    · exact .inr (.inr hk))
  dlow := fun t ht => by
    rcases h.dlow t ht with h1 | ⟨h1, h2⟩
    · exact .inl h1
    · simp only [List.mem_append, not_or] at h1 h2
      exact .inr ⟨by rcases hL with rfl | rfl <;> omega, h2.2⟩
theorem dops_ast {callf : CallF} (hcf : CallAst callf) : ∀ (l : List AOper) (born : List (Nat × Nat × Nat)) (j : Nat) (fr : Fr) (σ : St) (fr' : Fr) (σ' : St), σ.lock ≤ σ.heap.length → dops callf born j l fr σ = some (fr', σ') → Ast σ σ'
  | [], born, j, fr, σ, fr', σ', _, h => by
    simp only [dops, Option.some.injEq, Prod.mk.injEq] at h
    rw [← h.2]; exact Ast.refl _
  | o :: l, born, j, fr, σ, fr', σ', hl, h => by
    simp only [dops, Option.bind_eq_some_iff] at h
    obtain ⟨b, _, h⟩ := h
    cases b with
    | true =>
      simp only [if_true, Option.bind_eq_some_iff] at h
      obtain ⟨⟨v, σ1⟩, h1, h2⟩ := h
      have a0 := aop_ast hcf (by simp only; split <;> omega) h1
      have a1 := Ast.unlock hl (by split <;> simp) a0
      exact a1.trans (dops_ast hcf l _ _ _ _ _ _ (by rw [a1.lock]; exact Nat.le_trans hl a1.len) h2)
    | false =>
      simp only [Bool.false_eq_true, if_false] at h
      exact dops_ast hcf l _ _ _ _ _ _ hl h

/-- What collecting does to the state. -/
theorem gc_abs {base : Nat} {vs vs' : List Value} (h : gc base vs σ = some (vs', σ')) : σ'.lock = σ.lock ∧ σ'.hid = σ.hid ∧ (base ≤ σ.heap.length → base ≤ σ'.heap.length) ∧ (∀ t, t < base → (t ∈ σ'.dirty ↔ t ∈ σ.dirty)) ∧ (∀ t, t ∈ σ'.dirty → t ∈ σ.dirty) ∧ (∀ id, id < base → id ∉ σ.dirty → σ'.heap[id]? = σ.heap[id]?) := by
  have rl : ∀ (f : Nat → Nat) (l : List Nat) (h : List Blk), (renAll f l h).length = h.length := fun f l => by
    induction l with
    | nil => intro h; rfl
    | cons t l ih => intro h; rw [renAll, ih]; simp
  have rn : ∀ (f : Nat → Nat) (l : List Nat) (h : List Blk) (i : Nat), i ∉ l → (renAll f l h)[i]? = h[i]? := fun f l => by
    induction l with
    | nil => intro h i _; rfl
    | cons t l ih =>
      intro h i hi
      simp only [List.mem_cons, not_or] at hi
      rw [renAll, ih _ i hi.2, List.getElem?_modify]
      have : ¬ t = i := fun e => hi.1 e.symm
      simp [this]
  unfold gc at h
  split at h
  · cases h
    exact ⟨rfl, rfl, fun h => h, fun _ _ => Iff.rfl, fun _ h => h, fun _ _ _ => rfl⟩
  · simp only at h
    split at h
    · cases h
      exact ⟨rfl, rfl, fun _ => by simp; omega, fun t ht => by simp [ht], fun t h => by simp at h; exact h.1, fun id hi _ => by simp [hi]⟩
    · unfold gcKeep at h
      simp only at h
      split at h
      · cases h
        refine ⟨rfl, rfl, fun _ => by simp [rl]; omega, fun t ht => by simp [ht], fun t h => by simp at h; exact h.1, fun id hi hd => ?_⟩
        rw [List.getElem?_append_left (by rw [rl]; simp; omega), rn _ _ _ _ (by simp [hd])]
        exact List.getElem?_take_of_lt hi
      · cases h
theorem Ast.gc {τ0 τ1 τ2 : St} {vs vs' : List Value} (h : Ast τ0 τ1) (hd : τ0.dirty = []) (hg : AM.gc τ0.heap.length vs τ1 = some (vs', τ2)) : Ast τ0 τ2 := by
  obtain ⟨g1, g2, g3, g4, g5, g6⟩ := gc_abs hg
  refine ⟨g3 h.len, g1.trans h.lock, g2.trans h.hid, fun t ht => (by rw [hd] at ht; cases ht), fun id hi hn r hr => ?_, fun id hi hk => ?_, fun t ht => h.dlow t (g5 t ht)⟩
  · have hn' : id ∉ τ1.dirty := fun e => hn ((g4 id hi).2 e)
    refine h.refs id hi hn' r ?_
    unfold refsAt at hr ⊢
    rwa [g6 id hi hn'] at hr
  · have hn' : id ∉ τ1.dirty := fun e => by
      rcases h.dlow id e with h1 | ⟨h1, h2⟩
      · rw [hd] at h1; cases h1
      · rcases hk with hk | hk
        · omega
        · exact h2 hk
    rw [g6 id hi hn', h.fix id hi hk]
theorem join_mem : ∀ (b a : List Nat) (t : Nat), t ∈ joinDirty a b ↔ t ∈ a ∨ t ∈ b
  | [], a, t => by simp [joinDirty]
  | d :: b, a, t => by
    unfold joinDirty
    split
    · rename_i hc
      rw [join_mem b a t]
      simp only [List.contains_eq_mem, decide_eq_true_eq] at hc
      constructor
      · rintro (h | h)
        · exact .inl h
        · exact .inr (by simp [h])
      · rintro (h | h)
        · exact .inl h
        · rcases List.mem_cons.1 h with rfl | h
          · exact .inl hc
          · exact .inr h
    · rw [join_mem b (d :: a) t]
      simp only [List.mem_cons]
      constructor
      · rintro ((rfl | h) | h)
        · exact .inr (.inl rfl)
        · exact .inl h
        · exact .inr (.inr h)
      · rintro (h | rfl | h)
        · exact .inl (.inr h)
        · exact .inl (.inl rfl)
        · exact .inr h
/-- A part that was run with nothing marked, and its marks joined. -/
theorem Ast.join {τ : St} (h : Ast { σ with dirty := [] } τ) : Ast σ { τ with dirty := joinDirty σ.dirty τ.dirty } where
  len := h.len
  lock := h.lock
  hid := h.hid
  dirty := fun t ht => (join_mem _ _ _).2 (.inl ht)
  refs := fun id hi hn r hr => h.refs id hi (fun e => hn ((join_mem _ _ _).2 (.inr e))) r hr
  fix := h.fix
  dlow := fun t ht => by
    rcases (join_mem _ _ _).1 ht with h1 | h1
    · exact .inl h1
    · rcases h.dlow t h1 with h2 | h2
      · cases h2
      · exact .inr h2
theorem gcFr_abs {base : Nat} {fr fr' : Fr} (h : gcFr base fr σ = some (fr', σ')) : ∃ vs, gc base (fr.map (·.2)) σ = some (vs, σ') ∧ fr' = (fr.map (·.1)).zip vs := by
  simp only [gcFr, Option.map_eq_some_iff] at h
  obtain ⟨⟨vs, σ1⟩, h1, h2⟩ := h
  cases h2
  exact ⟨vs, h1, rfl⟩
theorem iter_ast {body : Fr → St → Option (Ex × Fr × St)} {live : List Nat} {τ0 : St} (hd : τ0.dirty = []) (hb : ∀ fr σ e fr' σ', σ.lock ≤ σ.heap.length → body fr σ = some (e, fr', σ') → Ast σ σ') : ∀ (n : Nat) (fr : Fr) (σ : St) (e : Ex) (fr' : Fr) (σ' : St), Ast τ0 σ → τ0.lock ≤ τ0.heap.length →
    iter body live τ0.heap.length n fr σ = some (e, fr', σ') → Ast τ0 σ'
  | 0, _, _, _, _, _, _, _, h => by simp [iter] at h
  | n + 1, fr, σ, e, fr', σ', h0, hl, h => by
    simp only [iter, Option.bind_eq_some_iff] at h
    obtain ⟨⟨e1, fr1, σ1⟩, h1, h⟩ := h
    have a1 := h0.trans (hb _ _ _ _ _ (by rw [h0.lock]; exact Nat.le_trans hl h0.len) h1)
    split at h
    · simp only [Option.bind_eq_some_iff] at h
      obtain ⟨⟨fr2, σ2⟩, h2, h⟩ := h
      obtain ⟨vs, g1, _⟩ := gcFr_abs h2
      exact iter_ast hd hb n _ _ _ _ _ (a1.gc hd g1) hl h
    · cases h
      exact a1
theorem noCall_ast : CallAst noCall := fun g args σ v σ' _ h => by simp [noCall] at h
theorem mops_ast : ∀ (l : List AOper) (seen : List (Bool × Nat)) (fr : Fr) (σ : St) (fr' : Fr) (σ' : St), σ.lock ≤ σ.heap.length → mops seen l fr σ = some (fr', σ') → Ast σ σ'
  | [], seen, fr, σ, fr', σ', hl, h => by simp only [mops, Option.some.injEq, Prod.mk.injEq] at h; rw [h.2]; exact Ast.refl _
  | o :: l, seen, fr, σ, fr', σ', hl, h => by
    simp only [mops] at h
    split at h
    · cases h
    · simp only [Option.bind_eq_some_iff] at h
      obtain ⟨tg, _, h⟩ := h
      split at h
      · simp only [Option.bind_eq_some_iff] at h
        obtain ⟨⟨v, σ1⟩, h1, h2⟩ := h
        have a1 := aop_ast noCall_ast hl h1
        exact a1.trans (mops_ast l _ _ _ _ _ (by rw [a1.lock]; exact Nat.le_trans hl a1.len) h2)
      · cases h
theorem exec_ast {callf : CallF} (hcf : CallAst callf) (n : Nat) : ∀ (c : ACode) (fr : Fr) (σ : St) (e : Ex) (fr' : Fr) (σ' : St), σ.lock ≤ σ.heap.length → exec callf n c fr σ = some (e, fr', σ') → Ast σ σ'
  | .skip, fr, σ, e, fr', σ', _, h => by simp only [exec] at h; cases h; exact Ast.refl _
  | .ret, fr, σ, e, fr', σ', _, h => by simp only [exec] at h; cases h; exact Ast.refl _
  | .exit _, fr, σ, e, fr', σ', _, h => by simp only [exec] at h; cases h; exact Ast.refl _
  | .region ops, fr, σ, e, fr', σ', hl, h => by
    simp only [exec, Option.map_eq_some_iff] at h
    obtain ⟨⟨fr1, σ1⟩, h1, h⟩ := h
    cases h
    exact aops_ast hcf _ _ _ _ _ hl h1
  | .drawn ops, fr, σ, e, fr', σ', hl, h => by
    simp only [exec, Option.map_eq_some_iff] at h
    obtain ⟨⟨fr1, σ1⟩, h1, h⟩ := h
    cases h
    exact dops_ast hcf _ _ _ _ _ _ _ hl h1
  | .moves ops, fr, σ, e, fr', σ', hl, h => by
    simp only [exec, Option.map_eq_some_iff] at h
    obtain ⟨⟨fr1, σ1⟩, h1, h⟩ := h
    cases h
    exact mops_ast _ _ _ _ _ _ hl h1
  | .seq x y, fr, σ, e, fr', σ', hl, h => by
    simp only [exec, Option.bind_eq_some_iff] at h
    obtain ⟨⟨e1, fr1, σ1⟩, h1, h⟩ := h
    have a1 := exec_ast hcf n x _ _ _ _ _ hl h1
    split at h
    · exact a1.trans (exec_ast hcf n y _ _ _ _ _ (by rw [a1.lock]; exact Nat.le_trans hl a1.len) h)
    · cases h; exact a1
  | .cond c x y, fr, σ, e, fr', σ', hl, h => by
    simp only [exec] at h
    split at h
    · exact exec_ast hcf n x _ _ _ _ _ hl h
    · exact exec_ast hcf n y _ _ _ _ _ hl h
    · cases h
  | .block id b, fr, σ, e, fr', σ', hl, h => by
    simp only [exec, Option.map_eq_some_iff] at h
    obtain ⟨⟨e1, fr1, σ1⟩, h1, h⟩ := h
    have a1 := exec_ast hcf n b _ _ _ _ _ hl h1
    have : σ' = σ1 := by
      split at h
      · split at h <;> (cases h; rfl)
      · cases h; rfl
    rw [this]; exact a1
  | .loop live b, fr, σ, e, fr', σ', hl, h => by
    simp only [exec, Option.map_eq_some_iff] at h
    obtain ⟨⟨e1, fr1, σ1⟩, h1, h⟩ := h
    cases h
    exact (iter_ast (τ0 := { σ with dirty := [] }) rfl (fun fr σ e fr' σ' hl h => exec_ast hcf n b fr σ e fr' σ' hl h) n _ _ _ _ _ (Ast.refl _) hl h1).join
theorem body_ast {callf : CallF} (hcf : CallAst callf) {n : Nat} {fn : AFn} {args : List Value} (hl : σ.lock ≤ σ.heap.length) (h : body callf n fn args σ = some (v, σ')) : Ast σ σ' := by
  simp only [body, Option.bind_eq_some_iff] at h
  obtain ⟨⟨e1, fr1, σ1⟩, h1, h⟩ := h
  have a1 := exec_ast hcf n fn.code _ { σ with dirty := [] } _ _ _ hl h1
  split at h
  · cases h
  · simp only [Option.bind_eq_some_iff] at h
    obtain ⟨vs, _, u, _, ⟨q, σ2⟩, h2, h⟩ := h
    split at h
    · cases h
      exact (a1.gc (τ0 := { σ with dirty := [] }) rfl h2).join
    · cases h
theorem run_ast (env : Env) : ∀ n, CallAst (run env n)
  | 0 => fun g args σ v σ' _ h => by simp [run] at h
  | n + 1 => fun g args σ v σ' hl h => by
    cases g with
    | func f =>
      simp only [run, Option.bind_eq_some_iff] at h
      obtain ⟨fn, _, h⟩ := h
      exact body_ast (run_ast env n) hl h
    | _ => simp [run] at h
end
end AM
end Go.Proofs.Ytfefeikkjebfoaa
