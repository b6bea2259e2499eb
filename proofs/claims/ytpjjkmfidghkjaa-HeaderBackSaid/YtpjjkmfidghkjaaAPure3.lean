/-
  WHAT A RUN OF THE ABSTRACT MACHINE DOES TO ITS STATE: old blocks that are locked or hidden stay; what is written with references is marked. Conditions: none.
  THE ABSTRACT MACHINE's PURE OPERATIONS: what they give stands for what the program's operations give, and the world stays. Conditions: none.
  THE ABSTRACT MACHINE's PURE OPERATIONS, one by one. Conditions: none.
  EQUALITY of structs and arrays of numbers is equality of their cells. Conditions: none.
  THE ABSTRACT MACHINE's PURE OPERATIONS: literals, lengths, least and greatest. Conditions: none.
-/
import Derived.Test.YtpjjkmfidghkjaaASim
import Derived.Laws.Strings
import Derived.ChangeKeysEq
set_option linter.all false
section
namespace Go.Proofs.Ytpjjkmfidghkjaa
namespace AM
open Go Go.RowKit

section
variable {σ σ' : St} {v : Value} {fr : Fr}

theorem blk_inv' {a : Addr} {pl : Bool} {cs : List Value} (h : σ.blk a = some (pl, cs)) : a.block ∉ σ.hid ∧ ∃ g, σ.heap[a.block]? = some (.cells g pl cs) ∧ a.spot = some g := by
  unfold St.blk at h
  split at h
  · cases h
  · rename_i hh
    split at h
    · rename_i g pl' cs' e
      split at h
      · rename_i hs
        cases h
        exact ⟨by simpa using hh, g, e, hs⟩
      · cases h
    · cases h
theorem new_ast (b : Blk) : Ast σ { σ with heap := σ.heap ++ [b] } where
  len := by simp
  lock := rfl
  hid := rfl
  dirty := fun _ h => h
  refs := fun id hi _ r hr => by simpa [refsAt, List.getElem?_append_left hi] using hr
  fix := fun id hi _ => List.getElem?_append_left hi
  dlow := fun _ h => .inl h
theorem dirty_mem {b : Nat} {vs : List Value} : (∀ t, t ∈ σ.dirty → t ∈ addDirty σ b vs) ∧ (∀ t, t ∈ addDirty σ b vs → t ∈ σ.dirty ∨ t = b) ∧ (b ∉ addDirty σ b vs → vs.all sc = true) := by
  unfold addDirty
  split
  · rename_i hc
    refine ⟨fun _ h => h, fun _ h => .inl h, fun h => ?_⟩
    simp only [Bool.or_eq_true] at hc
    rcases hc with hc | hc
    · exact hc
    · exact absurd (by simpa using hc) h
  · exact ⟨fun t h => by simp [h], fun t h => by simp at h; exact h.symm, fun h => by simp at h⟩
theorem refs_sc' {v : Value} (h : sc v = true) : refsC v = [] := by
  unfold refsC
  split <;> first | rfl | simp [sc] at h
theorem mem_putAt' : ∀ {vs l : List Value} {off : Nat} {x : Value}, x ∈ putAt l off vs → x ∈ l ∨ x ∈ vs
  | [], l, off, x, h => .inl h
  | v :: vs, l, off, x, h => by
    have h' : x ∈ putAt (l.set off v) (off + 1) vs := h
    rcases mem_putAt' h' with h | h
    · rcases List.mem_or_eq_of_mem_set h with h | h
      · exact .inl h
      · exact .inr (by simp [h])
    · exact .inr (by simp [h])
theorem set_ast {id g g' : Nat} {pl : Bool} {cs cs' vs : List Value} (hlk : σ.lock ≤ id) (hh : id ∉ σ.hid) (hc : σ.heap[id]? = some (.cells g pl cs)) (hm : ∀ x ∈ cs', x ∈ cs ∨ x ∈ vs) :
    Ast σ { σ with heap := σ.heap.set id (.cells g' pl cs'), dirty := addDirty σ id vs } := by
  have hlen : id < σ.heap.length := (List.getElem?_eq_some_iff.1 hc).1
  refine ⟨by simp, rfl, rfl, dirty_mem.1, fun j hj hnd r hr => ?_, fun j hj hl => ?_, fun t ht => ?_⟩
  · by_cases hji : j = id
    · subst hji
      have hsc := dirty_mem.2.2 hnd
      unfold refsAt at hr ⊢
      rw [List.getElem?_set_self hlen] at hr
      rw [hc]
      cases pl with
      | true => simp [refsB] at hr
      | false =>
        simp only [refsB, List.mem_flatMap] at hr ⊢
        obtain ⟨x, hx, hr⟩ := hr
        rcases hm x hx with h' | h'
        · exact ⟨x, h', hr⟩
        · rw [refs_sc' (List.all_eq_true.1 hsc x h')] at hr; cases hr
    · unfold refsAt at hr ⊢
      rwa [List.getElem?_set_ne (Ne.symm hji)] at hr
  · refine List.getElem?_set_ne fun e => ?_
    subst e
    rcases hl with hl | hl
    · omega
    · exact hh hl
  · rcases dirty_mem.2.1 t ht with h | rfl
    · exact .inl h
    · exact .inr ⟨hlk, hh⟩
theorem write_ast {a : Addr} {vs : List Value} (h : σ.write a vs = some σ') : Ast σ σ' := by
  unfold St.write at h
  split at h
  · cases h
  · rename_i hlk
    simp only [Option.bind_eq_some_iff] at h
    obtain ⟨⟨pl, cs⟩, hb, h⟩ := h
    simp only at h
    obtain ⟨hh, g, hg, _⟩ := blk_inv' hb
    split at h
    · rw [hg] at h
      simp only [Option.some.injEq] at h
      subst h
      exact set_ast (by omega) hh hg fun x hx => mem_putAt' hx
    · cases h
theorem append_ast {pl : Bool} {esz m : Nat} {x : Value} {vs : List Value} (h : σ.append pl esz x m vs = some (v, σ')) : Ast σ σ' := by
  unfold St.append at h
  split at h
  · split at h
    · cases h; exact Ast.refl _
    · split at h
      · cases h; exact new_ast _
      · cases h
  · split at h
    · cases h; exact Ast.refl _
    · split at h
      · split at h
        · split at h
          · cases h; exact new_ast _
          · cases h
        · cases h
      · rename_i hlk
        simp only [Bool.or_eq_true, decide_eq_true_eq, not_or] at hlk
        simp only [Option.bind_eq_some_iff] at h
        obtain ⟨⟨pl', cs⟩, hb, h⟩ := h
        simp only at h
        obtain ⟨hh, g, hg, _⟩ := blk_inv' hb
        split at h
        · split at h
          · split at h
            · cases h
              exact set_ast (by omega) hh hg fun x hx => List.mem_append.1 hx
            · cases h
          · split at h
            · simp only [Option.map_eq_some_iff] at h
              obtain ⟨σ1, hw, h⟩ := h
              cases h
              exact write_ast hw
            · cases h
        · cases h
  · cases h
def CallAst (callf : CallF) : Prop := ∀ g args σ v σ', σ.lock ≤ σ.heap.length → callf g args σ = some (v, σ') → Ast σ σ'
theorem aop_ast {callf : CallF} {ao : AOp} (hcf : CallAst callf) (hl : σ.lock ≤ σ.heap.length) (h : aop callf ao fr σ = some (v, σ')) : Ast σ σ' := by
  have pure_ast : ∀ p : AOp, (pval p fr).map (fun v => (v, σ)) = some (v, σ') → Ast σ σ' := fun p h => by
    simp only [Option.map_eq_some_iff] at h
    obtain ⟨u, _, h⟩ := h
    cases h
    exact Ast.refl _
  cases ao <;> simp only [aop] at h <;> first
    | exact pure_ast _ h
    | skip
  case native k =>
    simp only [Option.map_eq_some_iff] at h
    obtain ⟨u, _, h⟩ := h
    cases h
    exact Ast.refl _
  case alloc pl zs => cases h; exact new_ast _
  case box pl x =>
    simp only [Option.bind_eq_some_iff] at h
    obtain ⟨p, _, h⟩ := h
    split at h
    · cases h; exact new_ast _
    · cases h
  case bslice pl esz n zs ps =>
    simp only [Option.bind_eq_some_iff] at h
    obtain ⟨p, _, cs, _, h⟩ := h
    split at h
    · cases h; exact new_ast _
    · cases h
  case load n a =>
    split at h
    · simp only [Option.bind_eq_some_iff, Option.map_eq_some_iff] at h
      obtain ⟨p, _, u, _, h⟩ := h
      cases h; exact Ast.refl _
    · cases h
  case store n a x =>
    simp only [Option.bind_eq_some_iff] at h
    obtain ⟨p, _, h⟩ := h
    split at h
    · split at h
      · simp only [Option.map_eq_some_iff] at h
        obtain ⟨σ1, hw, h⟩ := h
        cases h
        exact write_ast hw
      · cases h
    · cases h
  case strb x =>
    split at h
    · split at h
      · cases h; exact new_ast _
      · cases h
    · cases h
  case bstr x =>
    split at h
    · cases h; exact Ast.refl _
    · simp only [Option.bind_eq_some_iff] at h
      obtain ⟨p, _, h⟩ := h
      split at h
      · simp only [Option.map_eq_some_iff] at h
        obtain ⟨l, _, h⟩ := h
        cases h; exact Ast.refl _
      · cases h
    · cases h
  case mark x =>
    split at h
    · split at h
      · cases h
      · simp only [Option.map_eq_some_iff] at h
        obtain ⟨p, _, h⟩ := h
        cases h; exact Ast.refl _
    · cases h
  case mkslice pl esz zs l c =>
    simp only [Option.bind_eq_some_iff] at h
    obtain ⟨p, _, q, _, l', _, c', _, h⟩ := h
    split at h
    · cases h; exact new_ast _
    · cases h
  case call f args =>
    simp only [Option.bind_eq_some_iff] at h
    obtain ⟨vs, _, h⟩ := h
    exact hcf _ _ _ _ _ hl h
  case callv x args =>
    simp only [Option.bind_eq_some_iff] at h
    obtain ⟨q, _, vs, _, h⟩ := h
    split at h
    · split at h
      · cases h
      · exact hcf _ _ _ _ _ hl h
    · cases h
  case append pl esz x y =>
    simp only [Option.bind_eq_some_iff] at h
    obtain ⟨p, _, q, _, r, _, h⟩ := h
    exact append_ast h
  case appendz x n =>
    simp only [Option.bind_eq_some_iff] at h
    obtain ⟨p, _, q, _, h⟩ := h
    unfold zerosF at h
    split at h
    · split at h
      · cases h; exact Ast.refl _
      · split at h
        · cases h; exact new_ast _
        · cases h
    · cases h
  case copy esz x y =>
    simp only [Option.bind_eq_some_iff] at h
    obtain ⟨p, _, q, _, r, _, h⟩ := h
    split at h
    · cases h; exact Ast.refl _
    · split at h
      · cases h; exact Ast.refl _
      · simp only [Option.map_eq_some_iff] at h
        obtain ⟨σ1, hw, h⟩ := h
        cases h
        exact write_ast hw
    · cases h
  case clear esz zs x =>
    split at h
    · cases h; exact Ast.refl _
    · split at h
      · cases h; exact Ast.refl _
      · simp only [Option.map_eq_some_iff] at h
        obtain ⟨σ1, hw, h⟩ := h
        cases h
        exact write_ast hw
    · cases h
theorem aops_ast {callf : CallF} (hcf : CallAst callf) : ∀ (l : List AOper) (fr : Fr) (σ : St) (fr' : Fr) (σ' : St), σ.lock ≤ σ.heap.length → aops callf l fr σ = some (fr', σ') → Ast σ σ'
  | [], fr, σ, fr', σ', _, h => by
    simp only [aops, Option.some.injEq, Prod.mk.injEq] at h
    rw [← h.2]; exact Ast.refl _
  | o :: l, fr, σ, fr', σ', hl, h => by
    simp only [aops, Option.bind_eq_some_iff] at h
    obtain ⟨b, _, h⟩ := h
    cases b with
    | true =>
      simp only [if_true, Option.bind_eq_some_iff] at h
      obtain ⟨⟨v, σ1⟩, h1, h2⟩ := h
      have a1 := aop_ast hcf hl h1
      exact a1.trans (aops_ast hcf l _ _ _ _ (by rw [a1.lock]; exact Nat.le_trans hl a1.len) h2)
    | false =>
      simp only [Bool.false_eq_true, if_false] at h
      exact aops_ast hcf l _ _ _ _ hl h
/-- A step made with more locked and hidden. -/
theorem Ast.unlock {τ : St} {L : Nat} {H : List Nat} (hL : σ.lock ≤ L) (h : Ast { σ with lock := L, hid := H ++ σ.hid } τ) : Ast σ { τ with lock := σ.lock, hid := σ.hid } where
  len := h.len
  lock := rfl
  hid := rfl
  dirty := h.dirty
  refs := h.refs
  fix := fun id hi hk => h.fix id hi (by
    simp only [List.mem_append]
    rcases hk with hk | hk
    · left; omega
    · exact .inr (.inr hk))
  dlow := fun t ht => by
    rcases h.dlow t ht with h1 | ⟨h1, h2⟩
    · exact .inl h1
    · simp only [List.mem_append, not_or] at h1 h2
      exact .inr ⟨by omega, h2.2⟩
theorem dops_ast {callf : CallF} (hcf : CallAst callf) : ∀ (l : List AOper) (born : List (Nat × Nat × Nat)) (j : Nat) (fr : Fr) (σ : St) (fr' : Fr) (σ' : St), σ.lock ≤ σ.heap.length → dops callf born j l fr σ = some (fr', σ') → Ast σ σ'
  | [], born, j, fr, σ, fr', σ', _, h => by
    simp only [dops, Option.some.injEq, Prod.mk.injEq] at h
    rw [← h.2]; exact Ast.refl _
  | o :: l, born, j, fr, σ, fr', σ', hl, h => by
    simp only [dops, Option.bind_eq_some_iff] at h
    obtain ⟨b, _, h⟩ := h
    cases b with
    | true =>
      simp only [if_true, Option.bind_eq_some_iff] at h
      obtain ⟨⟨v, σ1⟩, h1, h2⟩ := h
      have a0 := aop_ast hcf (lockD_le hl).2 h1
      have a1 := Ast.unlock (lockD_le hl).1 a0
      exact a1.trans (dops_ast hcf l _ _ _ _ _ _ (by rw [a1.lock]; exact Nat.le_trans hl a1.len) h2)
    | false =>
      simp only [Bool.false_eq_true, if_false] at h
      exact dops_ast hcf l _ _ _ _ _ _ hl h

/-- What collecting does to the state. -/
theorem gc_abs {base : Nat} {vs vs' : List Value} (h : gc base vs σ = some (vs', σ')) : σ'.lock = σ.lock ∧ σ'.hid = σ.hid ∧ (base ≤ σ.heap.length → base ≤ σ'.heap.length) ∧ (∀ t, t < base → (t ∈ σ'.dirty ↔ t ∈ σ.dirty)) ∧ (∀ t, t ∈ σ'.dirty → t ∈ σ.dirty) ∧ (∀ id, id < base → id ∉ σ.dirty → σ'.heap[id]? = σ.heap[id]?) := by
  have rl : ∀ (f : Nat → Nat) (l : List Nat) (h : List Blk), (renAll f l h).length = h.length := fun f l => by
    induction l with
    | nil => intro h; rfl
    | cons t l ih => intro h; rw [renAll, ih]; simp
  have rn : ∀ (f : Nat → Nat) (l : List Nat) (h : List Blk) (i : Nat), i ∉ l → (renAll f l h)[i]? = h[i]? := fun f l => by
    induction l with
    | nil => intro h i _; rfl
    | cons t l ih =>
      intro h i hi
      simp only [List.mem_cons, not_or] at hi
      rw [renAll, ih _ i hi.2, List.getElem?_modify]
      have : ¬ t = i := fun e => hi.1 e.symm
      simp [this]
  unfold gc at h
  split at h
  · cases h
    exact ⟨rfl, rfl, fun h => h, fun _ _ => Iff.rfl, fun _ h => h, fun _ _ _ => rfl⟩
  · simp only at h
    split at h
    · cases h
      exact ⟨rfl, rfl, fun _ => by simp; omega, fun t ht => by simp [ht], fun t h => by simp at h; exact h.1, fun id hi _ => by simp [hi]⟩
    · unfold gcKeep at h
      simp only at h
      split at h
      · cases h
        refine ⟨rfl, rfl, fun _ => by simp [rl]; omega, fun t ht => by simp [ht], fun t h => by simp at h; exact h.1, fun id hi hd => ?_⟩
        rw [List.getElem?_append_left (by rw [rl]; simp; omega), rn _ _ _ _ (by simp [hd])]
        exact List.getElem?_take_of_lt hi
      · cases h
theorem Ast.gc {τ0 τ1 τ2 : St} {vs vs' : List Value} (h : Ast τ0 τ1) (hd : τ0.dirty = []) (hg : AM.gc τ0.heap.length vs τ1 = some (vs', τ2)) : Ast τ0 τ2 := by
  obtain ⟨g1, g2, g3, g4, g5, g6⟩ := gc_abs hg
  refine ⟨g3 h.len, g1.trans h.lock, g2.trans h.hid, fun t ht => (by rw [hd] at ht; cases ht), fun id hi hn r hr => ?_, fun id hi hk => ?_, fun t ht => h.dlow t (g5 t ht)⟩
  · have hn' : id ∉ τ1.dirty := fun e => hn ((g4 id hi).2 e)
    refine h.refs id hi hn' r ?_
    unfold refsAt at hr ⊢
    rwa [g6 id hi hn'] at hr
  · have hn' : id ∉ τ1.dirty := fun e => by
      rcases h.dlow id e with h1 | ⟨h1, h2⟩
      · rw [hd] at h1; cases h1
      · rcases hk with hk | hk
        · omega
        · exact h2 hk
    rw [g6 id hi hn', h.fix id hi hk]
theorem join_mem : ∀ (b a : List Nat) (t : Nat), t ∈ joinDirty a b ↔ t ∈ a ∨ t ∈ b
  | [], a, t => by simp [joinDirty]
  | d :: b, a, t => by
    unfold joinDirty
    split
    · rename_i hc
      rw [join_mem b a t]
      simp only [List.contains_eq_mem, decide_eq_true_eq] at hc
      constructor
      · rintro (h | h)
        · exact .inl h
        · exact .inr (by simp [h])
      · rintro (h | h)
        · exact .inl h
        · rcases List.mem_cons.1 h with rfl | h
          · exact .inl hc
          · exact .inr h
    · rw [join_mem b (d :: a) t]
      simp only [List.mem_cons]
      constructor
      · rintro ((rfl | h) | h)
        · exact .inr (.inl rfl)
        · exact .inl h
        · exact .inr (.inr h)
      · rintro (h | rfl | h)
        · exact .inl (.inr h)
        · exact .inl (.inl rfl)
        · exact .inr h
/-- A part that was run with nothing marked, and its marks joined. -/
theorem Ast.join {τ : St} (h : Ast { σ with dirty := [] } τ) : Ast σ { τ with dirty := joinDirty σ.dirty τ.dirty } where
  len := h.len
  lock := h.lock
  hid := h.hid
  dirty := fun t ht => (join_mem _ _ _).2 (.inl ht)
  refs := fun id hi hn r hr => h.refs id hi (fun e => hn ((join_mem _ _ _).2 (.inr e))) r hr
  fix := h.fix
  dlow := fun t ht => by
    rcases (join_mem _ _ _).1 ht with h1 | h1
    · exact .inl h1
    · rcases h.dlow t h1 with h2 | h2
      · cases h2
      · exact .inr h2
theorem gcFr_abs {base : Nat} {fr fr' : Fr} (h : gcFr base fr σ = some (fr', σ')) : ∃ vs, gc base (fr.map (·.2)) σ = some (vs, σ') ∧ fr' = (fr.map (·.1)).zip vs := by
  simp only [gcFr, Option.map_eq_some_iff] at h
  obtain ⟨⟨vs, σ1⟩, h1, h2⟩ := h
  cases h2
  exact ⟨vs, h1, rfl⟩
theorem iter_ast {body : Fr → St → Option (Ex × Fr × St)} {live : List Nat} {τ0 : St} (hd : τ0.dirty = []) (hb : ∀ fr σ e fr' σ', σ.lock ≤ σ.heap.length → body fr σ = some (e, fr', σ') → Ast σ σ') : ∀ (n : Nat) (fr : Fr) (σ : St) (e : Ex) (fr' : Fr) (σ' : St), Ast τ0 σ → τ0.lock ≤ τ0.heap.length →
    iter body live τ0.heap.length n fr σ = some (e, fr', σ') → Ast τ0 σ'
  | 0, _, _, _, _, _, _, _, h => by simp [iter] at h
  | n + 1, fr, σ, e, fr', σ', h0, hl, h => by
    simp only [iter, Option.bind_eq_some_iff] at h
    obtain ⟨⟨e1, fr1, σ1⟩, h1, h⟩ := h
    have a1 := h0.trans (hb _ _ _ _ _ (by rw [h0.lock]; exact Nat.le_trans hl h0.len) h1)
    split at h
    · simp only [Option.bind_eq_some_iff] at h
      obtain ⟨⟨fr2, σ2⟩, h2, h⟩ := h
      obtain ⟨vs, g1, _⟩ := gcFr_abs h2
      exact iter_ast hd hb n _ _ _ _ _ (a1.gc hd g1) hl h
    · cases h
      exact a1
theorem noCall_ast : CallAst noCall := fun g args σ v σ' _ h => by simp [noCall] at h
theorem mops_ast {callf : CallF} (hcf : CallAst callf) {m : Bool} {B : List Nat} : ∀ (l : List AOper) (seen : List (Bool × Nat)) (fr : Fr) (σ : St) (fr' : Fr) (σ' : St), σ.lock ≤ σ.heap.length → mops callf m B seen l fr σ = some (fr', σ') → Ast σ σ'
  | [], seen, fr, σ, fr', σ', hl, h => by simp only [mops, Option.some.injEq, Prod.mk.injEq] at h; rw [h.2]; exact Ast.refl _
  | o :: l, seen, fr, σ, fr', σ', hl, h => by
    simp only [mops, Option.bind_eq_some_iff] at h
    obtain ⟨b, _, h⟩ := h
    cases b with
    | false =>
      simp only [Bool.false_eq_true, if_false] at h
      exact mops_ast hcf l _ _ _ _ _ hl h
    | true =>
      simp only [if_true] at h
      split at h
      · split at h
        · simp only [Option.bind_eq_some_iff] at h
          obtain ⟨⟨v, σ1⟩, h1, h2⟩ := h
          have a0 := aop_ast hcf (σ := { σ with hid := B ++ σ.hid }) hl h1
          have a1 := Ast.unlock (L := σ.lock) (Nat.le_refl _) a0
          have e : ({ σ1 with lock := σ.lock, hid := σ.hid } : St) = { σ1 with hid := σ.hid } := by rw [← a0.lock]
          rw [e] at a1
          exact a1.trans (mops_ast hcf l _ _ _ _ _ (by rw [a1.lock]; exact Nat.le_trans hl a1.len) h2)
        · cases h
      · simp only [Option.bind_eq_some_iff] at h
        obtain ⟨tg, _, h⟩ := h
        split at h
        · simp only [Option.bind_eq_some_iff] at h
          obtain ⟨⟨v, σ1⟩, h1, h2⟩ := h
          have a1 := aop_ast noCall_ast hl h1
          exact a1.trans (mops_ast hcf l _ _ _ _ _ (by rw [a1.lock]; exact Nat.le_trans hl a1.len) h2)
        · cases h
theorem withYield_ast {callf : CallF} {y : List Value → St → Option (Value × St)} (hcf : CallAst callf) (hy : ∀ args (σ : St) v σ', σ.lock ≤ σ.heap.length → y args σ = some (v, σ') → Ast σ σ') : CallAst (withYield callf y) := fun g args σ v σ' hl h => by
  cases g with
  | func f => exact hcf _ _ _ _ _ hl h
  | yield l => exact hy _ _ _ _ hl h
  | _ => simp [withYield] at h
theorem noYield_ast {callf : CallF} (hcf : CallAst callf) : CallAst (noYield callf) := withYield_ast hcf fun _ _ _ _ _ h => by cases h
theorem gcn_ast {τ : St} {z : List Value × St} (h1 : Ast { σ with dirty := [] } τ) (h2 : gc σ.heap.length [] τ = some z) : Ast σ { z.2 with dirty := joinDirty σ.dirty z.2.dirty } :=
  (h1.gc (τ0 := { σ with dirty := [] }) rfl (vs' := z.1) (τ2 := z.2) h2).join
theorem roundF_ast {ba b : Fr → St → Option (Ex × Fr × St)} {ps : List Nat} {fr : Fr} (ha : ∀ fr σ e fr' σ', σ.lock ≤ σ.heap.length → ba fr σ = some (e, fr', σ') → Ast σ σ') (hb : ∀ fr σ e fr' σ', σ.lock ≤ σ.heap.length → b fr σ = some (e, fr', σ') → Ast σ σ')
    {args : List Value} {v : Value} (hl : σ.lock ≤ σ.heap.length) (h : roundF ba b ps fr args σ = some (v, σ')) : Ast σ σ' := by
  unfold roundF at h
  split at h
  · simp only [Option.bind_eq_some_iff] at h
    obtain ⟨⟨e1, fr1, σ1⟩, h1, h⟩ := h
    have a1 := ha _ { σ with dirty := [] } _ _ _ hl h1
    cases e1 with
    | normal =>
      simp only [Option.bind_eq_some_iff] at h
      obtain ⟨⟨e2, fr2, σ2⟩, h2, h⟩ := h
      have a2 := a1.trans (hb _ _ _ _ _ (by rw [a1.lock]; exact Nat.le_trans hl a1.len) h2)
      cases e2 with
      | normal =>
        simp only [Option.map_eq_some_iff] at h
        obtain ⟨z, h3, h⟩ := h
        cases h
        exact gcn_ast a2 h3
      | _ => cases h
    | _ => cases h
  · cases h
theorem exec_ast1 : ∀ (c : ACode) {callf : CallF} (hcf : CallAst callf) (n : Nat) (fr : Fr) (σ : St) (e : Ex) (fr' : Fr) (σ' : St), σ.lock ≤ σ.heap.length → exec callf n c fr σ = some (e, fr', σ') → Ast σ σ'
  | .skip, callf, hcf, n, fr, σ, e, fr', σ', _, h => by simp only [exec] at h; cases h; exact Ast.refl _
  | .ret, callf, hcf, n, fr, σ, e, fr', σ', _, h => by simp only [exec] at h; cases h; exact Ast.refl _
  | .exit _, callf, hcf, n, fr, σ, e, fr', σ', _, h => by simp only [exec] at h; cases h; exact Ast.refl _
  | .region ops, callf, hcf, n, fr, σ, e, fr', σ', hl, h => by
    simp only [exec, Option.map_eq_some_iff] at h
    obtain ⟨⟨fr1, σ1⟩, h1, h⟩ := h
    cases h
    exact aops_ast hcf _ _ _ _ _ hl h1
  | .drawn ops, callf, hcf, n, fr, σ, e, fr', σ', hl, h => by
    simp only [exec, Option.map_eq_some_iff] at h
    obtain ⟨⟨fr1, σ1⟩, h1, h⟩ := h
    cases h
    exact dops_ast (noYield_ast hcf) _ _ _ _ _ _ _ hl h1
  | .moves xs m ops, callf, hcf, n, fr, σ, e, fr', σ', hl, h => by
    simp only [exec, Option.bind_eq_some_iff, Option.map_eq_some_iff] at h
    obtain ⟨B, _, ⟨fr1, σ1⟩, h1, h⟩ := h
    cases h
    exact mops_ast (noYield_ast hcf) _ _ _ _ _ _ hl h1
  | .seq x y, callf, hcf, n, fr, σ, e, fr', σ', hl, h => by
    simp only [exec, Option.bind_eq_some_iff] at h
    obtain ⟨⟨e1, fr1, σ1⟩, h1, h⟩ := h
    have a1 := exec_ast1 x hcf n _ _ _ _ _ hl h1
    split at h
    · exact a1.trans (exec_ast1 y hcf n _ _ _ _ _ (by rw [a1.lock]; exact Nat.le_trans hl a1.len) h)
    · cases h; exact a1
  | .cond c x y, callf, hcf, n, fr, σ, e, fr', σ', hl, h => by
    simp only [exec] at h
    split at h
    · exact exec_ast1 x hcf n _ _ _ _ _ hl h
    · exact exec_ast1 y hcf n _ _ _ _ _ hl h
    · cases h
  | .block id b, callf, hcf, n, fr, σ, e, fr', σ', hl, h => by
    simp only [exec, Option.map_eq_some_iff] at h
    obtain ⟨⟨e1, fr1, σ1⟩, h1, h⟩ := h
    have a1 := exec_ast1 b hcf n _ _ _ _ _ hl h1
    have : σ' = σ1 := by
      split at h
      · split at h <;> (cases h; rfl)
      · cases h; rfl
    rw [this]; exact a1
  | .loop live b, callf, hcf, n, fr, σ, e, fr', σ', hl, h => by
    simp only [exec, Option.map_eq_some_iff] at h
    obtain ⟨⟨e1, fr1, σ1⟩, h1, h⟩ := h
    cases h
    exact (iter_ast (τ0 := { σ with dirty := [] }) rfl (fun fr σ e fr' σ' hl h => exec_ast1 b hcf n fr σ e fr' σ' hl h) n _ _ _ _ _ (Ast.refl _) hl h1).join
  | .each x g gc ps ba b, callf, hcf, n, fr, σ, e, fr', σ', hl, h => by
    simp only [exec] at h
    split at h
    · split at h
      · simp only [Option.bind_eq_some_iff] at h
        obtain ⟨⟨e1, fr1, σ1⟩, h1, h⟩ := h
        have hy := withYield_ast hcf (y := roundF (exec callf n ba) (exec callf n b) ps fr) fun args σ v σ' hl h => roundF_ast (fun fr σ e fr' σ' hl h => exec_ast1 ba hcf n fr σ e fr' σ' hl h) (fun fr σ e fr' σ' hl h => exec_ast1 b hcf n fr σ e fr' σ' hl h) hl h
        have a1 := exec_ast1 gc hy n _ { σ with dirty := [] } _ _ _ hl h1
        unfold eachEnd at h
        split at h
        · cases h
        · simp only [Option.map_eq_some_iff] at h
          obtain ⟨z, h3, h⟩ := h
          cases h
          exact gcn_ast a1 h3
      · cases h
    · cases h
theorem exec_ast {callf : CallF} (hcf : CallAst callf) (n : Nat) (c : ACode) (fr : Fr) (σ : St) (e : Ex) (fr' : Fr) (σ' : St) (hl : σ.lock ≤ σ.heap.length) (h : exec callf n c fr σ = some (e, fr', σ')) : Ast σ σ' := exec_ast1 c hcf n fr σ e fr' σ' hl h
theorem body_ast {callf : CallF} (hcf : CallAst callf) {n : Nat} {fn : AFn} {args : List Value} (hl : σ.lock ≤ σ.heap.length) (h : body callf n fn args σ = some (v, σ')) : Ast σ σ' := by
  simp only [body, Option.bind_eq_some_iff] at h
  obtain ⟨⟨e1, fr1, σ1⟩, h1, h⟩ := h
  have a1 := exec_ast hcf n fn.code _ { σ with dirty := [] } _ _ _ hl h1
  split at h
  · cases h
  · simp only [Option.bind_eq_some_iff] at h
    obtain ⟨vs, _, u, _, ⟨q, σ2⟩, h2, h⟩ := h
    split at h
    · cases h
      exact (a1.gc (τ0 := { σ with dirty := [] }) rfl h2).join
    · cases h
theorem runB_ast (l : List (Nat × AFn)) : ∀ n, CallAst (runB l n)
  | 0 => fun g args σ v σ' _ h => by simp [runB] at h
  | n + 1 => fun g args σ v σ' hl h => by
    cases g with
    | func f =>
      simp only [runB, Option.bind_eq_some_iff] at h
      obtain ⟨fn, _, h⟩ := h
      exact body_ast (runB_ast l n) hl h
    | _ => simp [runB] at h
theorem run_ast : ∀ (env : Env) (n : Nat), CallAst (run env n)
  | .base l, n => runB_ast l n
  | .yl e ps ba b fr, n => withYield_ast (run_ast e n) fun _ _ _ _ hl h => roundF_ast (fun fr σ e1 fr' σ' hl h => exec_ast (run_ast e n) n ba fr σ e1 fr' σ' hl h) (fun fr σ e1 fr' σ' hl h => exec_ast (run_ast e n) n b fr σ e1 fr' σ' hl h) hl h
end
end AM
end Go.Proofs.Ytpjjkmfidghkjaa
end
section
namespace Go.Proofs.Ytpjjkmfidghkjaa
namespace AM
open Go Go.RowKit

section
variable {P : Program}

theorem run_under {t : TypeId} {d : TypeDesc} (h : P.underlying t = some d) (w : World) : (underlying t).run P w = .ok d w := run_underlying h w
theorem run_size {t : TypeId} {n : Nat} (h : sizeTy P t = some n) (w : World) : (sizeOf t).run P w = .ok n w := by
  unfold sizeTy at h
  cases hi : P.info? t with
  | none => rw [hi] at h; cases h
  | some i => rw [hi] at h; simp at h; simp [sizeOf, typeInfo, hi, h]
theorem run_isAgg {t : TypeId} {b : Bool} (h : aggTy P t = some b) (w : World) : (isAgg t).run P w = .ok b w := by
  unfold aggTy at h
  unfold isAgg
  cases hu : P.underlying t with
  | none => rw [hu] at h; cases h
  | some d =>
    rw [hu] at h
    simp only [Sem.run_bind, run_under hu, Result.andThen_ok]
    cases d <;> simp at h <;> subst h <;> rfl
theorem spanTy_agg {t : TypeId} {n : Nat} (h : spanTy P t = some (some n)) : aggTy P t = some true ∧ sizeTy P t = some n := by
  unfold spanTy at h
  split at h
  · rename_i e; refine ⟨e, ?_⟩; cases hs : sizeTy P t <;> rw [hs] at h <;> simp at h; rw [h]
  · split at h <;> cases h
  · cases h
theorem spanTy_one {t : TypeId} (h : spanTy P t = some none) : aggTy P t = some false ∧ sizeTy P t = some 1 := by
  unfold spanTy at h
  split at h
  · cases hs : sizeTy P t <;> rw [hs] at h <;> simp at h
  · rename_i e; split at h
    · rename_i e'; exact ⟨e, e'⟩
    · cases h
  · cases h

/-- The world of an operation that does nothing to it. -/
def Gives (P : Program) (o : Oper) (a : Act) (w : World) (X : Emb) (v : Value) : Prop := ∃ u, (execOp a.eval o).run P w = .ok (.value u) w ∧ relV X v u

theorem run_part {X : Emb} {t : TypeId} {n : Option Nat} {cs rs : List Value} {off : Nat} {v : Value} (ht : spanTy P t = some n) (h : rdCells cs off n = some v) (hr : rel2 (relC X) cs rs) (w : World) :
    ∃ u, (part t rs.toArray off).run P w = .ok u w ∧ relF X v u := by
  cases n with
  | none =>
    obtain ⟨h1, h2⟩ := spanTy_one ht
    simp only [rdCells] at h
    obtain ⟨u, hu, hv⟩ := hr.get h
    refine ⟨u, ?_, relF_of_relC hv⟩
    simp [part, run_isAgg h1, hu]
  | some n =>
    obtain ⟨h1, h2⟩ := spanTy_agg ht
    simp only [rdCells] at h
    split at h
    · rename_i hle
      cases h
      refine ⟨.agg ((rs.drop off).take n).toArray, ?_, ?_⟩
      · simp [part, run_isAgg h1, run_size h2, List.take_drop]
      · simp only [relF]; exact ⟨_, rfl, by simpa using (hr.drop off).take n⟩
    · cases h

theorem pureOf_eq {α : Type} {s : Sem α} {a : α} (h : pureOf s = some a) : s = .pure a := by
  cases s <;> simp [pureOf] at h; rw [h]
theorem bless_eq : ∀ (x y : List UInt8), Op.bytesLess x y = bless x y
  | _, [] => by unfold Op.bytesLess bless; rfl
  | [], _ :: _ => by unfold Op.bytesLess bless; rfl
  | a :: x, b :: y => by unfold Op.bytesLess bless; rw [bless_eq x y]
theorem binOp_int (op : BinOp) (t : TypeId) (k k' : IntKind) (a b : Int) : binOp op t (.int k a) (.int k' b) = binOp op 0 (.int k a) (.int k' b) := by
  cases op <;> simp only [binOp]
theorem guard_int (op : BinOp) (t : TypeId) (x y : Operand) (k k' : IntKind) (a b : Int) (w : World) : (eqGuard op t x y (.int k a) (.int k' b)).run P w = .ok () w := by
  unfold eqGuard; split <;> simp
theorem guard_str (op : BinOp) (t : TypeId) (x y : Operand) (a b : ByteArray) (w : World) : (eqGuard op t x y (.string a) (.string b)).run P w = .ok () w := by
  unfold eqGuard; split <;> simp
theorem sbin_ok {op : BinOp} {s t : ByteArray} {v : Value} (h : sbin op s t = some v) (w : World) : (Op.stringOp op s t).run P w = .ok v w := by
  cases op <;> simp only [sbin, reduceCtorEq, Option.some.injEq] at h <;> (try subst h) <;> simp [Op.stringOp, ByteArray.toList_eq, bless_eq]
  split at h
  · rename_i hl
    cases h
    rw [if_neg (by have : IntKind.i64.max = 9223372036854775807 := by decide
                   omega)]
    congr 2
    apply ByteArray.ext; simp
  · cases h
theorem relV_int {X : Emb} {k : IntKind} {n : Int} {u : Value} (h : relV X (.int k n) u) : u = .int k n := (relV_sc rfl).1 h
theorem relV_bool {X : Emb} {b : Bool} {u : Value} (h : relV X (.bool b) u) : u = .bool b := (relV_sc rfl).1 h
theorem relV_string {X : Emb} {s : ByteArray} {u : Value} (h : relV X (.string s) u) : u = .string s := (relV_sc rfl).1 h
theorem relV_int_mk {X : Emb} (k : IntKind) (n : Int) : relV X (.int k n) (.int k n) := (relV_sc rfl).2 rfl
theorem relV_bool_mk {X : Emb} (b : Bool) : relV X (.bool b) (.bool b) := (relV_sc rfl).2 rfl
theorem relV_string_mk {X : Emb} (s : ByteArray) : relV X (.string s) (.string s) := (relV_sc rfl).2 rfl

/-- The result of a number's operation is a number, a bool. -/
theorem pure_sc {op : BinOp} {k k' : IntKind} {a b : Int} {v : Value} (h : pureOf (binOp op 0 (.int k a) (.int k' b)) = some v) : sc v = true := by
  have h' := pureOf_eq h
  cases op <;> simp only [binOp, Op.shift, Op.intArith, Op.intDiv, Op.intBits, Op.intCmp] at h' <;> (repeat' split at h') <;> first
    | (cases h'; rfl)
    | (simp only [pure] at h'; cases h'; rfl)
    | (exfalso; revert h'; simp [stuck, runtimePanic, program, bind, Sem.bind]; done)

theorem bin_gives {X : Emb} {fr : Fr} {a : Act} {op : BinOp} {t yt : TypeId} {x y : Operand} {o : Oper} {v : Value} (ho : o.op = .binOp op t x y yt)
    (hx : ∀ v, ev fr x = some v → relV X v (a.eval x)) (hy : ∀ v, ev fr y = some v → relV X v (a.eval y)) (h : pval (.bin op x y) fr = some v) (w : World) : Gives P o a w X v := by
  simp only [pval, Option.bind_eq_some_iff] at h
  obtain ⟨p, hp, q, hq, h⟩ := h
  have h1 := hx p hp
  have h2 := hy q hq
  unfold abin at h
  split at h
  · rename_i k n k' m
    have h1 := relV_int h1
    have h2 := relV_int h2
    have hs := pure_sc h
    refine ⟨v, ?_, (relV_sc hs).2 rfl⟩
    simp only [execOp, ho, h1, h2, Sem.run_bind, guard_int, Result.andThen_ok, binOp_int op t, pureOf_eq h, Sem.run_pure', Sem.run_pure]
  · rename_i s u
    have h1 := relV_string h1
    have h2 := relV_string h2
    refine ⟨v, ?_, ?_⟩
    · have : binOp op t (.string s) (.string u) = Op.stringOp op s u := by cases op <;> rfl
      simp only [execOp, ho, h1, h2, Sem.run_bind, guard_str, Result.andThen_ok, this, sbin_ok h, Sem.run_pure]
    · refine (relV_sc ?_).2 rfl
      cases op <;> simp [sbin] at h <;> (try (obtain ⟨_, h⟩ := h)) <;> (try subst h) <;> rfl
  · cases h

theorem un_gives {X : Emb} {fr : Fr} {a : Act} {op : UnOp} {t : TypeId} {x : Operand} {o : Oper} {v : Value} (ho : o.op = .unOp op t x)
    (hx : ∀ v, ev fr x = some v → relV X v (a.eval x)) (h : pval (.un op x) fr = some v) (w : World) : Gives P o a w X v := by
  simp only [pval, Option.bind_eq_some_iff] at h
  obtain ⟨p, hp, h⟩ := h
  have h1 := hx p hp
  unfold aun at h
  split at h
  · rename_i k n
    have h1 := relV_int h1
    have h' := pureOf_eq h
    refine ⟨v, by simp only [execOp, ho, h1, Sem.run_bind, h', Sem.run_pure', Result.andThen_ok, Sem.run_pure], (relV_sc ?_).2 rfl⟩
    cases op <;> simp only [Op.unary, Op.intArith, Op.intBits] at h' <;> first
      | (simp only [pure] at h'; cases h'; rfl)
      | (exfalso; revert h'; simp [stuck]; done)
  · rename_i b
    have h1 := relV_bool h1
    have h' := pureOf_eq h
    refine ⟨v, by simp only [execOp, ho, h1, Sem.run_bind, h', Sem.run_pure', Result.andThen_ok, Sem.run_pure], (relV_sc ?_).2 rfl⟩
    cases op <;> simp only [Op.unary] at h' <;> first
      | (simp only [pure] at h'; cases h'; rfl)
      | (exfalso; revert h'; simp [stuck]; done)
  · cases h

/-- The three cuts' bounds. -/
theorem bound_int {v : Value} {y d n : Nat} (h : boundv y (some v) d = some n) : ∃ k i, v = .int k i := by
  cases v <;> simp only [boundv] at h <;> first | cases h | exact ⟨_, _, rfl⟩
theorem run_bound' {v : Value} {y d n c : Nat} (h : boundv y (some v) d = some n) (hc : y ≤ c) (code : BoundsCode) (w : World) : (Instr.sliceBound v c code).run P w = .ok n w := by
  obtain ⟨k, i, rfl⟩ := bound_int h
  simp only [boundv] at h
  split at h
  · cases h
    simp only [Instr.sliceBound, asIntOf, Sem.run_bind, Sem.run_pure, Result.andThen_ok]
    rw [if_pos (by omega)]
    rfl
  · cases h
theorem bound_le {v : Value} {y d n : Nat} (h : boundv y (some v) d = some n) : n ≤ y := by
  obtain ⟨k, i, rfl⟩ := bound_int h
  simp only [boundv] at h
  split at h
  · cases h; omega
  · cases h
theorem run_cuts {isS : Bool} {len cap : Nat} {lo hi mx : Option Value} {l h : Nat} {m : Option Nat} (hl : len ≤ cap) (hc : cuts len lo hi mx = some (l, h, m)) (w : World) :
    (Instr.sliceBounds isS len cap lo hi mx).run P w = .ok (l, h, m.getD cap) w ∧ l ≤ h ∧ h ≤ len ∧ (∀ k, m = some k → h ≤ k ∧ k ≤ len) := by
  cases mx with
  | none =>
    simp only [cuts, Option.bind_eq_some_iff, Option.map_eq_some_iff] at hc
    obtain ⟨h', hh, l', hl', he⟩ := hc
    cases he
    have h1 : h ≤ len := by
      cases hi with
      | none => simp only [boundv] at hh; cases hh; exact Nat.le_refl _
      | some v => exact bound_le hh
    have h2 : l ≤ h := by
      cases lo with
      | none => simp only [boundv] at hl'; cases hl'; exact Nat.zero_le _
      | some v => exact bound_le hl'
    refine ⟨?_, h2, h1, fun k hk => by cases hk⟩
    unfold Instr.sliceBounds
    cases hi <;> cases lo <;> (try (simp only [boundv] at hh; cases hh)) <;> (try (simp only [boundv] at hl'; cases hl')) <;>
      simp only [Sem.run_bind, Sem.run_pure, Result.andThen_ok, Option.getD_none]
    · rw [run_bound' hl' (Nat.le_refl _)]; rfl
    · rw [run_bound' hh hl]; rfl
    · rw [run_bound' hh hl]
      simp only [Result.andThen_ok]
      rw [run_bound' hl' (Nat.le_refl _)]; rfl
  | some mv =>
    simp only [cuts, Option.bind_eq_some_iff, Option.map_eq_some_iff] at hc
    obtain ⟨m', hm, h', hh, l', hl', he⟩ := hc
    cases he
    cases hi with
    | none => cases hh
    | some v =>
      simp only at hh
      have h2 : l ≤ h := by
        cases lo with
        | none => simp only [boundv] at hl'; cases hl'; exact Nat.zero_le _
        | some v => exact bound_le hl'
      refine ⟨?_, h2, Nat.le_trans (bound_le hh) (bound_le hm), fun k hk => by cases hk; exact ⟨bound_le hh, bound_le hm⟩⟩
      unfold Instr.sliceBounds
      cases lo <;> (try (simp only [boundv] at hl'; cases hl')) <;>
        simp only [Sem.run_bind, Sem.run_pure, Result.andThen_ok, Option.getD_some]
      · rw [run_bound' hm hl]
        simp only [Result.andThen_ok]
        rw [run_bound' hh (Nat.le_refl _)]; rfl
      · rw [run_bound' hm hl]
        simp only [Result.andThen_ok]
        rw [run_bound' hh (Nat.le_refl _)]
        simp only [Result.andThen_ok]
        rw [run_bound' hl' (Nat.le_refl _)]; rfl

theorem evo_rel {X : Emb} {fr : Fr} {a : Act} {x : Option Operand} {v : Option Value} (hx : ∀ y, x = some y → ∀ v, ev fr y = some v → relV X v (a.eval y)) (h : evo fr x = some v) :
    (v = none ∧ x = none) ∨ ∃ y q, x = some y ∧ v = some q ∧ relV X q (a.eval y) := by
  cases x with
  | none => simp only [evo] at h; cases h; exact .inl ⟨rfl, rfl⟩
  | some y =>
    simp only [evo, Option.map_eq_some_iff] at h
    obtain ⟨q, hq, rfl⟩ := h
    exact .inr ⟨y, q, rfl, rfl, hx y rfl q hq⟩
/-- A bound's operand is the number itself. -/
theorem evo_same {X : Emb} {fr : Fr} {a : Act} {x : Option Operand} {v : Option Value} (hx : ∀ y, x = some y → ∀ v, ev fr y = some v → relV X v (a.eval y)) (h : evo fr x = some v) (hi : ∀ q, v = some q → ∃ k i, q = .int k i) : x.map a.eval = v := by
  rcases evo_rel hx h with ⟨rfl, rfl⟩ | ⟨y, q, rfl, rfl, hr⟩
  · rfl
  · obtain ⟨k, i, rfl⟩ := hi q rfl
    simp [relV_int hr]
theorem cuts_ints {len : Nat} {lo hi mx : Option Value} {r : Nat × Nat × Option Nat} (hc : cuts len lo hi mx = some r) : (∀ q, lo = some q → ∃ k i, q = Value.int k i) ∧ (∀ q, hi = some q → ∃ k i, q = Value.int k i) ∧ (∀ q, mx = some q → ∃ k i, q = Value.int k i) := by
  cases mx with
  | none =>
    simp only [cuts, Option.bind_eq_some_iff, Option.map_eq_some_iff] at hc
    obtain ⟨h', hh, l', hl', he⟩ := hc
    exact ⟨fun q e => by subst e; exact bound_int hl', fun q e => by subst e; exact bound_int hh, fun q e => by cases e⟩
  | some mv =>
    simp only [cuts, Option.bind_eq_some_iff, Option.map_eq_some_iff] at hc
    obtain ⟨m', hm, h', hh, l', hl', he⟩ := hc
    refine ⟨fun q e => by subst e; exact bound_int hl', fun q e => ?_, fun q e => by cases e; exact bound_int hm⟩
    subst e
    exact bound_int hh

/-- A cut of a slice stands for a cut of a slice. -/
theorem relSl.cut {X : Emb} {a ra : Addr} {n e c l h m esz : Nat} {mx : Option Nat} (hs : relSl X a n e ra c) (hl : l ≤ h) (hh : h ≤ n) (hm : mx.getD c = m) (hmx : ∀ k, mx = some k → h ≤ k ∧ k ≤ n) (he : e = 0 ∨ e = esz) (hz : 0 < esz) :
    relSl X { a with off := a.off + l * esz } (h - l) (if mx.isSome then 0 else e) (if m = l then ra else ra.add (l * esz)) (m - l) := by
  obtain ⟨h1, h2, bx, hx, s, hsp, hle, hr⟩ := hs
  have hmc : h ≤ m ∧ m ≤ c := by
    cases mx with
    | none => simp at hm; omega
    | some k => simp at hm; have := hmx k rfl; omega
  refine ⟨by omega, by omega, bx, hx, s, hsp, hle, fun e' => ?_⟩
  obtain ⟨g1, g2⟩ := hr e'
  constructor
  · intro hpos
    rcases Nat.eq_zero_or_pos l with rfl | hl0
    · have hp : 0 < n ∨ a.off = 0 := by
        rcases hpos with h' | h'
        · exact .inl (by omega)
        · exact .inr (by simpa using h')
      rw [g1 hp]
      simp [Addr.add]
    · have hne : 0 < l * esz := Nat.mul_pos hl0 hz
      have hpos' : 0 < h - l := by
        rcases hpos with h | h
        · exact h
        · simp at h; omega
      rw [if_neg (by omega), g1 (.inl (by omega))]
      simp [Addr.add, Nat.ne_of_gt hne, Nat.add_assoc]
  · intro hpos
    cases mx with
    | some k => simp at hpos
    | none =>
      simp at hpos hm
      subst hm
      have he' : e = esz := by omega
      subst he'
      obtain ⟨q1, q2⟩ := g2 hpos
      simp only [Option.isSome_none, Bool.false_eq_true, if_false]
      have hk : l * e + (c - l) * e = c * e := by rw [← Nat.add_mul]; congr 1; omega
      constructor <;> omega

end
end AM
end Go.Proofs.Ytpjjkmfidghkjaa
end
section
namespace Go.Proofs.Ytpjjkmfidghkjaa
namespace AM
open Go Go.RowKit

section
variable {P : Program} {X : Emb} {fr : Fr} {a : Act} {o : Oper} {v : Value}

theorem mv_gives {x : Operand} (ho : o.op = .move x ∨ o.op = .assign x) (hx : ∀ v, ev fr x = some v → relV X v (a.eval x)) (h : pval (.mv x) fr = some v) (w : World) : Gives P o a w X v := by
  rcases ho with ho | ho <;> exact ⟨a.eval x, by simp [execOp, ho], hx v h⟩
theorem pick_gives {c x y : Operand} (ho : o.op = .pick c x y) (hc : ∀ v, ev fr c = some v → relV X v (a.eval c)) (hx : ∀ v, ev fr x = some v → relV X v (a.eval x)) (hy : ∀ v, ev fr y = some v → relV X v (a.eval y))
    (h : pval (.pick c x y) fr = some v) (w : World) : Gives P o a w X v := by
  simp only [pval] at h
  split at h
  · rename_i e
    have := relV_bool (hc _ e)
    exact ⟨a.eval x, by simp [execOp, ho, this, asBool], hx v h⟩
  · rename_i e
    have := relV_bool (hc _ e)
    exact ⟨a.eval y, by simp [execOp, ho, this, asBool], hy v h⟩
  · cases h
theorem relV_ptr {b : Addr} {u : Value} (h : relV X (.pointer (some b)) u) : ∃ ra, u = .pointer (some ra) ∧ relA X b ra := h
theorem relV_slice {b : Addr} {n e : Nat} {u : Value} (h : relV X (.slice (some b) n e) u) : ∃ ra c, u = .slice (some ra) n c ∧ relSl X b n e ra c := h
theorem relV_func {g : Fn} {fi ca : Array Value} {u : Value} (h : relV X (.func g fi ca) u) : ∃ rf rc, u = .func (X.name g) rf rc ∧ rel2 (relC X) fi.toList rf.toList ∧ rel2 (relC X) ca.toList rc.toList := h
theorem relV_funcf {f : FuncId} {fi ca : Array Value} {u : Value} (h : relV X (.func (.func f) fi ca) u) : ∃ rf rc, u = .func (.func f) rf rc ∧ rel2 (relC X) fi.toList rf.toList ∧ rel2 (relC X) ca.toList rc.toList := h
theorem relV_agg {cs : Array Value} {u : Value} (h : relV X (.agg cs) u) : ∃ rs, u = .agg rs ∧ rel2 (relC X) cs.toList rs.toList := h
theorem relV_tuple {cs : Array Value} {u : Value} (h : relV X (.tuple cs) u) : ∃ rs, u = .tuple rs ∧ rel2 (relF X) cs.toList rs.toList := h
theorem relV_nilslice {u : Value} (h : relV X (.slice none 0 0) u) : u = .slice none 0 0 := (relV_sc rfl).1 h
theorem nilck_gives {x : Operand} (ho : o.op = .nilCheck x) (hx : ∀ v, ev fr x = some v → relV X v (a.eval x)) (h : pval (.nilck x) fr = some v) (w : World) : Gives P o a w X v := by
  simp only [pval] at h
  split at h
  · rename_i b e
    cases h
    have hr := hx _ e
    obtain ⟨ra, h1, h2⟩ := relV_ptr hr
    exact ⟨a.eval x, by simp [execOp, ho, h1], hr⟩
  · rename_i f fi ca e
    cases h
    have hr := hx _ e
    obtain ⟨rf, rc, h1, h2⟩ := relV_funcf hr
    exact ⟨a.eval x, by simp [execOp, ho, h1], hr⟩
  · cases h
theorem ext_gives {x : Operand} {i : Nat} (ho : o.op = .extract x i) (hx : ∀ v, ev fr x = some v → relV X v (a.eval x)) (h : pval (.ext x i) fr = some v) (w : World) : Gives P o a w X v := by
  simp only [pval] at h
  split at h
  · rename_i vs e
    obtain ⟨rs, h1, h2⟩ := relV_tuple (hx _ e)
    obtain ⟨u, hu, hr⟩ := h2.get h
    have hu' : rs[i]? = some u := by simpa using hu
    exact ⟨u, by simp [execOp, ho, h1, Instr.extract, hu'], relV_of_relF hr⟩
  · cases h
theorem conv_gives {x : Operand} {s d : TypeId} {k k0 : IntKind} (ho : o.op = .convert s d x) (hs : P.underlying s = some (.int k0)) (hd : P.underlying d = some (.int k)) (hx : ∀ v, ev fr x = some v → relV X v (a.eval x)) (h : pval (.conv k x) fr = some v) (w : World) : Gives P o a w X v := by
  simp only [pval] at h
  split at h
  · rename_i k' n e
    cases h
    have := relV_int (hx _ e)
    refine ⟨.int k (k.wrap n), ?_, relV_int_mk _ _⟩
    simp [execOp, ho, this, convert, run_under hs, run_under hd, Conv.intToInt]
  · cases h
theorem evs_rel : ∀ {xs : List Operand} {vs : List Value}, (∀ x ∈ xs, ∀ v, ev fr x = some v → relV X v (a.eval x)) → evs fr xs = some vs → rel2 (relV X) vs (xs.map a.eval)
  | [], vs, _, h => by simp only [evs] at h; cases h; exact rel2.nil
  | x :: xs, vs, hx, h => by
    simp only [evs, Option.bind_eq_some_iff, Option.map_eq_some_iff] at h
    obtain ⟨p, hp, q, hq, rfl⟩ := h
    exact (evs_rel (fun y hy => hx y (by simp [hy])) hq).cons (hx x (by simp) p hp)
theorem rel2_cells {vs us : List Value} (h : rel2 (relV X) vs us) (hc : vs.all cellv = true) : rel2 (relC X) vs us :=
  h.mono fun v hv _ hr => relC_of_relV hr (List.all_eq_true.1 hc v hv)
theorem mkfn_gives {f : FuncId} {fi ca : Array Operand} (ho : o.op = .makeFunc (.func f) fi ca) (h1 : ∀ x ∈ fi.toList, ∀ v, ev fr x = some v → relV X v (a.eval x)) (h2 : ∀ x ∈ ca.toList, ∀ v, ev fr x = some v → relV X v (a.eval x))
    (h : pval (.mkfn f fi.toList ca.toList) fr = some v) (w : World) : Gives P o a w X v := by
  simp only [pval, Option.bind_eq_some_iff] at h
  obtain ⟨p, hp, q, hq, h⟩ := h
  split at h
  · rename_i hc
    cases h
    simp only [Bool.and_eq_true] at hc
    refine ⟨.func (.func f) (fi.map a.eval) (ca.map a.eval), by simp [execOp, ho, Instr.makeFunc], ?_⟩
    simp only [relV, relF]
    exact ⟨_, _, rfl, by simpa using rel2_cells (evs_rel h1 hp) hc.1, by simpa using rel2_cells (evs_rel h2 hq) hc.2⟩
  · cases h
theorem relA.add {b ra : Addr} (h : relA X b ra) (k : Nat) : relA X { b with off := b.off + k } (ra.add k) := by
  obtain ⟨bx, hx, s, hs, hl, hr⟩ := h
  refine ⟨bx, hx, s, hs, hl, fun e => ?_⟩
  rw [hr e]
  unfold Addr.add
  split <;> simp_all [Nat.add_assoc]
theorem relV_ptr_mk {b ra : Addr} (h : relA X b ra) : relV X (.pointer (some b)) (.pointer (some ra)) := ⟨ra, rfl, h⟩
theorem faddr_gives {x : Operand} {t : TypeId} {i s : Nat} {fs : Array Field} {f : Field} (ho : o.op = .fieldAddr t x i) (ht : P.underlying t = some (.struct fs)) (hf : fs[i]? = some f) (hs : sizeTy P f.type = some s) (h0 : 0 < s)
    (hx : ∀ v, ev fr x = some v → relV X v (a.eval x)) (h : pval (.faddr f.offset x) fr = some v) (w : World) : Gives P o a w X v := by
  simp only [pval] at h
  split at h
  · rename_i b e
    cases h
    obtain ⟨ra, h1, h2⟩ := relV_ptr (hx _ e)
    refine ⟨.pointer (some (ra.add f.offset)), ?_, relV_ptr_mk (h2.add _)⟩
    have hn : ¬ s = 0 := by omega
    simp [execOp, ho, h1, Instr.fieldAt, run_under ht, hf, Instr.sureAddr, fieldPlace, run_size hs, hn]
  · cases h
theorem field_gives {x : Operand} {t : TypeId} {i : Nat} {n : Option Nat} {fs : Array Field} {f : Field} (ho : o.op = .field t x i) (ht : P.underlying t = some (.struct fs)) (hf : fs[i]? = some f) (hs : spanTy P f.type = some n)
    (hx : ∀ v, ev fr x = some v → relV X v (a.eval x)) (h : pval (.field f.offset n x) fr = some v) (w : World) : Gives P o a w X v := by
  simp only [pval] at h
  split at h
  · rename_i cs e
    obtain ⟨rs, h1, h2⟩ := relV_agg (hx _ e)
    obtain ⟨u, hu, hr⟩ := run_part (P := P) hs h h2 w
    have hu' : (part f.type rs f.offset).run P w = .ok u w := by simpa using hu
    exact ⟨u, by simp [execOp, ho, h1, Instr.field, run_under ht, hf, asAgg, hu'], relV_of_relF hr⟩
  · cases h
theorem idxv_int {n : Nat} {q : Value} {i : Nat} (h : idxv n q = some i) : ∃ k z, q = .int k z ∧ 0 ≤ z ∧ z < n ∧ z.toNat = i := by
  cases q <;> simp only [idxv] at h <;> try cases h
  split at h
  · rename_i hc; cases h; exact ⟨_, _, rfl, hc.1, hc.2, rfl⟩
  · cases h
theorem iaddr_gives {x y : Operand} {t e : TypeId} {s : Nat} (ho : o.op = .indexAddr t x y) (ht : P.underlying t = some (.slice e)) (hs : sizeTy P e = some s)
    (hx : ∀ v, ev fr x = some v → relV X v (a.eval x)) (hy : ∀ v, ev fr y = some v → relV X v (a.eval y)) (h : pval (.iaddr s x y) fr = some v) (w : World) : Gives P o a w X v := by
  simp only [pval, Option.bind_eq_some_iff] at h
  obtain ⟨p, hp, q, hq, h⟩ := h
  split at h
  · rename_i b n e'
    simp only [Option.map_eq_some_iff] at h
    obtain ⟨i, hi, rfl⟩ := h
    obtain ⟨k, z, rfl, hz0, hzn, rfl⟩ := idxv_int hi
    have h2 := relV_int (hy _ hq)
    obtain ⟨ra, c, h1, h3⟩ := relV_slice (hx _ hp)
    refine ⟨.pointer (some (ra.add (z.toNat * s))), ?_, ?_⟩
    · simp [execOp, ho, h1, h2, Instr.indexAt, asIntOf, run_under ht, hz0, hzn, run_size hs]
    · obtain ⟨_, _, bx, hx', s', hs', hl, hr⟩ := h3
      refine relV_ptr_mk (relA.add (b := b) ⟨bx, hx', s', hs', hl, fun e => (hr e).1 (.inl (by omega))⟩ _)
  · cases h
theorem iaddra_gives {x y : Operand} {t e : TypeId} {s n : Nat} (ho : o.op = .indexAddr t x y) (ht : P.underlying t = some (.array n e)) (hs : sizeTy P e = some s)
    (hx : ∀ v, ev fr x = some v → relV X v (a.eval x)) (hy : ∀ v, ev fr y = some v → relV X v (a.eval y)) (h : pval (.iaddra s n x y) fr = some v) (w : World) : Gives P o a w X v := by
  simp only [pval, Option.bind_eq_some_iff] at h
  obtain ⟨p, hp, q, hq, h⟩ := h
  split at h
  · rename_i b
    simp only [Option.map_eq_some_iff] at h
    obtain ⟨i, hi, rfl⟩ := h
    obtain ⟨k, z, rfl, hz0, hzn, rfl⟩ := idxv_int hi
    have h2 := relV_int (hy _ hq)
    obtain ⟨ra, h1, h3⟩ := relV_ptr (hx _ hp)
    refine ⟨.pointer (some (ra.add (z.toNat * s))), ?_, relV_ptr_mk (h3.add _)⟩
    simp [execOp, ho, h1, h2, Instr.indexAt, asIntOf, run_under ht, hz0, hzn, run_size hs, Instr.sureAddr]
  · cases h
theorem idx_gives {x y : Operand} {t e : TypeId} {s n : Nat} {m : Option Nat} (ho : o.op = .index t x y) (ht : P.underlying t = some (.array n e)) (hs : sizeTy P e = some s) (hm : spanTy P e = some m)
    (hx : ∀ v, ev fr x = some v → relV X v (a.eval x)) (hy : ∀ v, ev fr y = some v → relV X v (a.eval y)) (h : pval (.idx s n m x y) fr = some v) (w : World) : Gives P o a w X v := by
  simp only [pval, Option.bind_eq_some_iff] at h
  obtain ⟨p, hp, q, hq, h⟩ := h
  split at h
  · rename_i cs
    simp only [Option.bind_eq_some_iff] at h
    obtain ⟨i, hi, h⟩ := h
    obtain ⟨k, z, rfl, hz0, hzn, rfl⟩ := idxv_int hi
    have h2 := relV_int (hy _ hq)
    obtain ⟨rs, h1, h3⟩ := relV_agg (hx _ hp)
    obtain ⟨u, hu, hr⟩ := run_part (P := P) hm h h3 w
    refine ⟨u, ?_, relV_of_relF hr⟩
    have hu' : (part e rs (z.toNat * s)).run P w = .ok u w := by simpa using hu
    simp [execOp, ho, h1, h2, Instr.index, asIntOf, run_under ht, hz0, hzn, run_size hs, hu']
  · cases h
theorem idxs_gives {x y : Operand} {t : TypeId} (ho : o.op = .index t x y) (ht : P.underlying t = some .string)
    (hx : ∀ v, ev fr x = some v → relV X v (a.eval x)) (hy : ∀ v, ev fr y = some v → relV X v (a.eval y)) (h : pval (.idxs x y) fr = some v) (w : World) : Gives P o a w X v := by
  simp only [pval, Option.bind_eq_some_iff] at h
  obtain ⟨p, hp, q, hq, h⟩ := h
  split at h
  · rename_i s
    simp only [Option.bind_eq_some_iff, Option.map_eq_some_iff] at h
    obtain ⟨i, hi, b, hb, rfl⟩ := h
    obtain ⟨k, z, rfl, hz0, hzn, rfl⟩ := idxv_int hi
    have h2 := relV_int (hy _ hq)
    have h1 := relV_string (hx _ hp)
    refine ⟨.int .u8 b.toNat, ?_, relV_int_mk _ _⟩
    have hlt : z.toNat < s.size := by omega
    have hb' : s[z.toNat]? = some b := by
      rw [getElem?_pos s z.toNat hlt]
      have : z.toNat < s.data.toList.length := (List.getElem?_eq_some_iff.1 hb).1
      rw [List.getElem?_eq_getElem this] at hb
      simp at hb
      exact congrArg some hb
    simp [execOp, ho, h1, h2, Instr.index, asIntOf, run_under ht, hz0, hb']
  · cases h
theorem slices_gives {x : Operand} {lo hi : Option Operand} {t : TypeId} (ho : o.op = .slice t x lo hi none) (ht : P.underlying t = some .string)
    (hx : ∀ v, ev fr x = some v → relV X v (a.eval x)) (hl : ∀ y, lo = some y → ∀ v, ev fr y = some v → relV X v (a.eval y)) (hh : ∀ y, hi = some y → ∀ v, ev fr y = some v → relV X v (a.eval y))
    (h : pval (.slices x lo hi) fr = some v) (w : World) : Gives P o a w X v := by
  simp only [pval, Option.bind_eq_some_iff] at h
  obtain ⟨p, hp, l, hl', r, hr', h⟩ := h
  split at h
  · rename_i s
    simp only [Option.map_eq_some_iff] at h
    obtain ⟨⟨l1, h1, m⟩, hc, rfl⟩ := h
    obtain ⟨c1, c2, _⟩ := cuts_ints hc
    have e1 := evo_same hl hl' c1
    have e2 := evo_same hh hr' c2
    have e0 := relV_string (hx _ hp)
    have hcut := run_cuts (P := P) (isS := false) (Nat.le_refl s.size) hc w
    refine ⟨.string (s.extract l1 h1), ?_, ?_⟩
    · simp [execOp, ho, e0, e1, e2, Instr.sliceAt, run_under ht, Instr.slice, hcut.1]
    · have : s.extract l1 h1 = ⟨((s.data.toList.drop l1).take (h1 - l1)).toArray⟩ := by
        apply ByteArray.ext
        apply Array.toList_inj.1
        rw [ByteArray.data_extract, Array.toList_extract]
      rw [this]
      exact relV_string_mk _
  · cases h
theorem slice_gives {x : Operand} {lo hi mx : Option Operand} {t e : TypeId} {s : Nat} (ho : o.op = .slice t x lo hi mx) (ht : P.underlying t = some (.slice e)) (hs : sizeTy P e = some s) (h0 : 0 < s)
    (hx : ∀ v, ev fr x = some v → relV X v (a.eval x)) (hl : ∀ y, lo = some y → ∀ v, ev fr y = some v → relV X v (a.eval y)) (hh : ∀ y, hi = some y → ∀ v, ev fr y = some v → relV X v (a.eval y)) (hm : ∀ y, mx = some y → ∀ v, ev fr y = some v → relV X v (a.eval y))
    (h : pval (.slice s x lo hi mx) fr = some v) (w : World) : Gives P o a w X v := by
  simp only [pval, Option.bind_eq_some_iff] at h
  obtain ⟨p, hp, l, hl', r, hr', q, hq', h⟩ := h
  split at h
  · simp only [Option.map_eq_some_iff] at h
    obtain ⟨⟨l1, h1, m⟩, hc, rfl⟩ := h
    obtain ⟨c1, c2, c3⟩ := cuts_ints hc
    have e1 := evo_same hl hl' c1
    have e2 := evo_same hh hr' c2
    have e3 := evo_same hm hq' c3
    have e0 := relV_nilslice (hx _ hp)
    have hcut := run_cuts (P := P) (isS := true) (Nat.le_refl 0) hc w
    refine ⟨.slice none 0 0, ?_, (relV_sc rfl).2 rfl⟩
    have z1 : h1 = 0 := by omega
    have z2 : l1 = 0 := by omega
    have z3 : m.getD 0 = 0 := by
      cases m with
      | none => rfl
      | some k => have := hcut.2.2.2 k rfl; simp; omega
    subst z1; subst z2
    simp [execOp, ho, e0, e1, e2, e3, Instr.sliceAt, run_under ht, Instr.slice, hcut.1, run_size hs, z3]
  · rename_i b n e'
    split at h
    · rename_i he'
      simp only [Option.map_eq_some_iff] at h
      obtain ⟨⟨l1, h1, m⟩, hc, rfl⟩ := h
      obtain ⟨c1, c2, c3⟩ := cuts_ints hc
      have e1 := evo_same hl hl' c1
      have e2 := evo_same hh hr' c2
      have e3 := evo_same hm hq' c3
      obtain ⟨ra, c, e0, hsl⟩ := relV_slice (hx _ hp)
      have hcut := run_cuts (P := P) (isS := true) hsl.1 hc w
      refine ⟨.slice (some (if m.getD c = l1 then ra else ra.add (l1 * s))) (h1 - l1) (m.getD c - l1), ?_, ⟨_, _, rfl, hsl.cut hcut.2.1 hcut.2.2.1 rfl hcut.2.2.2 he' h0⟩⟩
      simp only [execOp, ho, Sem.run_bind, Instr.sliceAt, run_under ht, Result.andThen_ok, e0, e1, e2, e3, Instr.slice, hcut.1, run_size hs, Sem.run_pure]
      split <;> simp
    · cases h
  · cases h
theorem slicea_gives {x : Operand} {lo hi mx : Option Operand} {t e : TypeId} {s n : Nat} (ho : o.op = .slice t x lo hi mx) (ht : P.underlying t = some (.array n e)) (hs : sizeTy P e = some s) (hn : n ≤ 1048576)
    (hx : ∀ v, ev fr x = some v → relV X v (a.eval x)) (hl : ∀ y, lo = some y → ∀ v, ev fr y = some v → relV X v (a.eval y)) (hh : ∀ y, hi = some y → ∀ v, ev fr y = some v → relV X v (a.eval y)) (hm : ∀ y, mx = some y → ∀ v, ev fr y = some v → relV X v (a.eval y))
    (h : pval (.slicea s n x lo hi mx) fr = some v) (w : World) : Gives P o a w X v := by
  simp only [pval, Option.bind_eq_some_iff] at h
  obtain ⟨p, hp, l, hl', r, hr', q, hq', h⟩ := h
  split at h
  · rename_i b
    simp only [Option.map_eq_some_iff] at h
    obtain ⟨⟨l1, h1, m⟩, hc, rfl⟩ := h
    obtain ⟨c1, c2, c3⟩ := cuts_ints hc
    have e1 := evo_same hl hl' c1
    have e2 := evo_same hh hr' c2
    have e3 := evo_same hm hq' c3
    obtain ⟨ra, e0, hra⟩ := relV_ptr (hx _ hp)
    have hcut := run_cuts (P := P) (isS := false) (Nat.le_refl n) hc w
    have hmn : h1 ≤ m.getD n ∧ m.getD n ≤ n := by
      cases m with
      | none => simp; omega
      | some k => have := hcut.2.2.2 k rfl; simp; omega
    refine ⟨.slice (some (if m.getD n = l1 then ra else ra.add (l1 * s))) (h1 - l1) (m.getD n - l1), ?_, ?_⟩
    · simp [execOp, ho, e0, e1, e2, e3, Instr.sliceAt, run_under ht, Instr.sureAddr, hcut.1, run_size hs]
    · obtain ⟨bx, hx', s', hs', hl2, hr⟩ := hra
      refine ⟨_, _, rfl, ?_⟩
      dsimp only
      refine ⟨by omega, by simp only [maxLen]; omega, ?_⟩
      refine ⟨bx, hx', s', hs', hl2, fun e => ⟨fun hpos => ?_, fun h' => absurd h' (Nat.lt_irrefl _)⟩⟩
      have hr := hr e
      split
      · rename_i hml
        rcases hpos with hpos | hpos
        · omega
        · simp at hpos
          rw [hr]; simp; omega
      · rw [hr]; unfold Addr.add; split <;> simp_all [Nat.add_assoc]
  · cases h
end
end AM
end Go.Proofs.Ytpjjkmfidghkjaa
end
section
namespace Go.Proofs.Ytpjjkmfidghkjaa
namespace AM
open Go Go.RowKit

section
variable {P : Program}

def IsVal (P : Program) (t : TypeId) (v : Value) (cs : List Value) : Prop := (aggTy P t = some true ∧ v = .agg cs.toArray) ∨ (aggTy P t = some false ∧ cs = [v])
theorem part_val {t : TypeId} {n off : Nat} {cs : List Value} (ha : aggTy P t = some true ∨ (aggTy P t = some false ∧ n = 1)) (hs : sizeTy P t = some n) (hl : off + n ≤ cs.length) (w : World) :
    ∃ v, (part t cs.toArray off).run P w = .ok v w ∧ IsVal P t v ((cs.drop off).take n) := by
  rcases ha with ha | ⟨ha, rfl⟩
  · exact ⟨.agg ((cs.drop off).take n).toArray, by simp [part, run_isAgg ha, run_size hs, List.take_drop], .inl ⟨ha, rfl⟩⟩
  · have h : off < cs.length := by omega
    refine ⟨cs[off], by simp [part, run_isAgg ha, h], .inr ⟨ha, ?_⟩⟩
    rw [List.drop_eq_getElem_cons h]; rfl
theorem sheqs_split : ∀ (s r : List Sh) {xs ys : List Value} {b : Bool}, sheqs (s ++ r) xs ys = some b →
    ∃ b1 b2, sheqs s (xs.take s.length) (ys.take s.length) = some b1 ∧ sheqs r (xs.drop s.length) (ys.drop s.length) = some b2 ∧ b = (b1 && b2)
  | [], r, xs, ys, b, h => ⟨true, b, by simp [sheqs], by simpa using h, by simp⟩
  | q :: s, r, [], ys, b, h => by simp [sheqs] at h
  | q :: s, r, x :: xs, [], b, h => by simp [sheqs] at h
  | q :: s, r, x :: xs, y :: ys, b, h => by
    simp only [List.cons_append, sheqs, Option.bind_eq_some_iff, Option.map_eq_some_iff] at h
    obtain ⟨c, hc, d, hd, rfl⟩ := h
    obtain ⟨b1, b2, h1, h2, rfl⟩ := sheqs_split s r hd
    exact ⟨c && b1, b2, by simp [sheqs, hc, h1], by simpa using h2, by simp [Bool.and_assoc]⟩
theorem shTy_agg {d : Nat} {t : TypeId} {s : List Sh} (h : shTy P d t = some s) : aggTy P t = some true ∨ (aggTy P t = some false ∧ s.length = 1) := by
  cases d with
  | zero => simp [shTy] at h
  | succ d =>
    unfold shTy at h
    unfold aggTy
    cases hu : P.underlying t with
    | none => rw [hu] at h; simp at h
    | some q => rw [hu] at h; cases q <;> simp at h <;> first | exact .inl rfl | (subst h; exact .inr ⟨rfl, rfl⟩)

/-- What is asked of the equality of a type. -/
def EqOn (P : Program) (D : Nat) (t : TypeId) (s : List Sh) : Prop := ∀ (xs ys : List Value) (v u : Value) (b : Bool), xs.length = s.length → ys.length = s.length → IsVal P t v xs → IsVal P t u ys → sheqs s xs ys = some b → ∀ w, (Op.equalIn D t v u).run P w = .ok b w

theorem run_eqFields {D : Nat} {f : TypeId → Option (List Sh)} (hf : ∀ t s, f t = some s → EqOn P D t s ∧ (aggTy P t = some true ∨ (aggTy P t = some false ∧ s.length = 1))) : ∀ (fs : List Field) (n : Nat) (s : List Sh) (xs ys : List Value) (b : Bool), shFs P f fs n = some s → xs.length = n + s.length → ys.length = n + s.length →
    sheqs s (xs.drop n) (ys.drop n) = some b → ∀ w, (Op.eqFields D xs.toArray ys.toArray fs).run P w = .ok b w
  | [], n, s, xs, ys, b, h, hx, hy, he, w => by
    simp only [shFs, Option.some.injEq] at h
    subst h
    rw [List.drop_eq_nil_of_le (by simp at hx; omega), List.drop_eq_nil_of_le (by simp at hy; omega)] at he
    simp only [sheqs, Option.some.injEq] at he
    subst he
    rfl
  | fd :: l, n, s, xs, ys, b, h, hx, hy, he, w => by
    simp only [shFs] at h
    split at h
    · rename_i hc
      simp only [Bool.and_eq_true, decide_eq_true_eq, bne_iff_ne, ne_eq] at hc
      simp only [Option.bind_eq_some_iff] at h
      obtain ⟨s1, h1, h⟩ := h
      split at h
      · rename_i hs
        simp only [Option.map_eq_some_iff] at h
        obtain ⟨s2, h2, rfl⟩ := h
        obtain ⟨b1, b2, e1, e2, rfl⟩ := sheqs_split s1 s2 he
        obtain ⟨g1, g2⟩ := hf _ _ h1
        simp only [List.length_append] at hx hy
        obtain ⟨p, hp, pv⟩ := part_val (P := P) (off := n) (cs := xs) g2 hs (by omega) w
        obtain ⟨q, hq, qv⟩ := part_val (P := P) (off := n) (cs := ys) g2 hs (by omega) w
        have heq := g1 _ _ p q b1 (by simp; omega) (by simp; omega) pv qv e1 w
        have hrec := run_eqFields hf l (n + s1.length) s2 xs ys b2 h2 (by omega) (by omega) (by simpa [List.drop_drop, Nat.add_comm] using e2) w
        rw [← hc.1] at hp hq
        simp only [Op.eqFields, ne_eq, hc.2, not_false_eq_true, if_true, Sem.run_bind, hp, hq, Result.andThen_ok, heq]
        cases b1 <;> simp [hrec]
      · cases h
    · cases h
theorem run_eqItems {D : Nat} {e : TypeId} {s : List Sh} (hf : EqOn P D e s ∧ (aggTy P e = some true ∨ (aggTy P e = some false ∧ s.length = 1))) (hs : sizeTy P e = some s.length) : ∀ (n j : Nat) (xs ys : List Value) (b : Bool), xs.length = (j + n) * s.length → ys.length = (j + n) * s.length →
    sheqs (List.replicate n s).flatten (xs.drop (j * s.length)) (ys.drop (j * s.length)) = some b → ∀ w, (Op.eqItems D e s.length xs.toArray ys.toArray (List.range' j n)).run P w = .ok b w
  | 0, j, xs, ys, b, hx, hy, he, w => by
    rw [List.drop_eq_nil_of_le (by simp at hx; omega), List.drop_eq_nil_of_le (by simp at hy; omega)] at he
    simp only [List.replicate_zero, List.flatten_nil, sheqs, Option.some.injEq] at he
    subst he
    rfl
  | n + 1, j, xs, ys, b, hx, hy, he, w => by
    rw [List.replicate_succ, List.flatten_cons] at he
    obtain ⟨b1, b2, e1, e2, rfl⟩ := sheqs_split s _ he
    have hm : (j + (n + 1)) * s.length = j * s.length + s.length + n * s.length := by rw [Nat.add_mul, Nat.add_mul, Nat.one_mul]; omega
    have hm2 : (j + 1 + n) * s.length = j * s.length + s.length + n * s.length := by rw [Nat.add_mul, Nat.add_mul, Nat.one_mul]
    obtain ⟨p, hp, pv⟩ := part_val (P := P) (off := j * s.length) (cs := xs) hf.2 hs (by omega) w
    obtain ⟨q, hq, qv⟩ := part_val (P := P) (off := j * s.length) (cs := ys) hf.2 hs (by omega) w
    have heq := hf.1 _ _ p q b1 (by simp; omega) (by simp; omega) pv qv e1 w
    have hrec := run_eqItems hf hs n (j + 1) xs ys b2 (by omega) (by omega) (by
      have : (j + 1) * s.length = j * s.length + s.length := by rw [Nat.add_mul, Nat.one_mul]
      rw [this]
      simpa [List.drop_drop, Nat.add_comm] using e2) w
    simp only [List.range'_succ, Op.eqItems, Sem.run_bind, hp, hq, Result.andThen_ok, heq]
    cases b1 <;> simp [hrec]
theorem cellsOf_size {e : TypeId} {n : Nat} (h : sizeTy P e = some n) : P.cellsOf e = n ∧ ∃ i, P.info? e = some i := by
  unfold sizeTy at h
  cases hi : P.info? e with
  | none => rw [hi] at h; cases h
  | some i => rw [hi] at h; simp at h; exact ⟨by simp [Program.cellsOf, hi, h], i, rfl⟩

theorem run_equal_sh : ∀ (d : Nat) {t : TypeId} {s : List Sh}, shTy P d t = some s → ∀ (D : Nat), d ≤ D → EqOn P D t s
  | 0, t, s, h, _, _ => by simp [shTy] at h
  | d + 1, t, s, h, 0, hD => by omega
  | d + 1, t, s, h, D + 1, hD => by
    intro xs ys v u b hx hy hv hu he w
    have hagg := shTy_agg h
    unfold shTy at h
    cases ht : P.underlying t with
    | none => rw [ht] at h; simp at h
    | some q =>
      rw [ht] at h
      have one : (∃ x, s = [x]) → aggTy P t = some false → ∃ x, s = [x] ∧ sheq x v u = some b := by
        rintro ⟨x, rfl⟩ hf
        rcases hv with ⟨h1, _⟩ | ⟨_, rfl⟩
        · rw [hf] at h1; cases h1
        rcases hu with ⟨h1, _⟩ | ⟨_, rfl⟩
        · rw [hf] at h1; cases h1
        simp only [sheqs, Option.bind_eq_some_iff, Option.map_some, Option.some.injEq, Bool.and_true] at he
        obtain ⟨c, hc, rfl⟩ := he
        exact ⟨x, rfl, hc⟩
      have two : aggTy P t = some true → v = .agg xs.toArray ∧ u = .agg ys.toArray := by
        intro hf
        rcases hv with ⟨_, rfl⟩ | ⟨h1, _⟩
        · rcases hu with ⟨_, rfl⟩ | ⟨h1, _⟩
          · exact ⟨rfl, rfl⟩
          · rw [hf] at h1; cases h1
        · rw [hf] at h1; cases h1
      cases q <;> simp only [reduceCtorEq, Option.some.injEq] at h
      · obtain ⟨x, e1, e2⟩ := one ⟨_, h.symm⟩ (by unfold aggTy; rw [ht])
        rw [← h] at e1; cases e1
        unfold sheq at e2
        split at e2 <;> first | (cases e2; done) | (rename_i hh; cases hh; done) | (simp at *; done) | skip
        all_goals (first | (cases e2; exact run_equalIn_bool' w D t _ _ ht) | (exfalso; simp_all; done))
      · obtain ⟨x, e1, e2⟩ := one ⟨_, h.symm⟩ (by unfold aggTy; rw [ht])
        rw [← h] at e1; cases e1
        unfold sheq at e2
        split at e2
        · split at e2
          · rename_i hk; subst hk; cases e2; exact run_equalIn_int w D t _ _ _ _ ht
          · cases e2
        all_goals (exfalso; simp_all; done)
      · obtain ⟨x, e1, e2⟩ := one ⟨_, h.symm⟩ (by unfold aggTy; rw [ht])
        rw [← h] at e1; cases e1
        unfold sheq at e2
        split at e2 <;> first | (exfalso; simp_all; done) | (cases e2; rw [run_equalIn_string w D t _ _ ht, ByteArray.toList_eq, ByteArray.toList_eq]) 
      · rename_i n e
        simp only [Option.bind_eq_some_iff] at h
        obtain ⟨s1, h1, h⟩ := h
        split at h
        · rename_i hs
          cases h
          obtain ⟨rfl, rfl⟩ := two (by unfold aggTy; rw [ht])
          obtain ⟨hce, i, hi⟩ := cellsOf_size hs
          rw [run_equalIn_array w D _ _ ht hi, hce, List.range_eq_range']
          have hlen : (List.replicate n s1).flatten.length = n * s1.length := by simp
          exact run_eqItems ⟨run_equal_sh d h1 D (by omega), shTy_agg h1⟩ hs n 0 xs ys b (by rw [hx, hlen]; simp) (by rw [hy, hlen]; simp) (by simpa using he) w
        · cases h
      · rename_i fs
        split at h
        · cases h
        · rename_i hst
          obtain ⟨rfl, rfl⟩ := two (by unfold aggTy; rw [ht])
          have hfo : P.fieldsOf t = fs := by unfold Program.fieldsOf; rw [ht]
          rw [run_equalIn_struct w D t _ _ (by rw [ht, hfo]) (by simpa using hst), hfo]
          exact run_eqFields (fun t' s' h' => ⟨run_equal_sh d h' D (by omega), shTy_agg h'⟩) fs.toList 0 s xs ys b h (by omega) (by omega) (by simpa using he) w
theorem sheq_sc {s : Sh} {v w : Value} {b : Bool} (h : sheq s v w = some b) : sc v = true ∧ sc w = true := by
  unfold sheq at h
  split at h <;> first | exact ⟨rfl, rfl⟩ | cases h
theorem sheqs_sc : ∀ {s : List Sh} {xs ys : List Value} {b : Bool}, sheqs s xs ys = some b → xs.length = s.length ∧ ys.length = s.length ∧ (∀ v ∈ xs, sc v = true) ∧ ∀ v ∈ ys, sc v = true
  | [], [], [], b, _ => by simp
  | [], [], y :: ys, b, h => by simp [sheqs] at h
  | [], x :: xs, ys, b, h => by simp [sheqs] at h
  | s :: r, [], ys, b, h => by simp [sheqs] at h
  | s :: r, x :: xs, [], b, h => by simp [sheqs] at h
  | s :: r, x :: xs, y :: ys, b, h => by
    simp only [sheqs, Option.bind_eq_some_iff, Option.map_eq_some_iff] at h
    obtain ⟨c, hc, d, hd, rfl⟩ := h
    obtain ⟨h1, h2, h3, h4⟩ := sheqs_sc hd
    obtain ⟨g1, g2⟩ := sheq_sc hc
    refine ⟨by simp [h1], by simp [h2], fun v hv => ?_, fun v hv => ?_⟩
    · rcases List.mem_cons.1 hv with rfl | hv
      · exact g1
      · exact h3 v hv
    · rcases List.mem_cons.1 hv with rfl | hv
      · exact g2
      · exact h4 v hv
theorem rel2_sc {X : Emb} : ∀ {xs rs : List Value}, rel2 (relC X) xs rs → (∀ v ∈ xs, sc v = true) → rs = xs
  | [], rs, h, _ => h.nil'
  | x :: xs, rs, h, hs => by
    obtain ⟨u, m, rfl, hu, ht⟩ := h.head
    rw [(relC_sc (hs x (by simp))).1 hu, rel2_sc ht fun v hv => hs v (by simp [hv])]
theorem eqOk_bool {t : TypeId} (h : eqOk P t = some .bool) : P.underlying t = some .bool := by
  unfold eqOk at h
  split at h <;> first | (cases h; done) | (split at h <;> first | (cases h; done) | (simp at h; done)) | (rename_i e; exact e) | skip
theorem eqOk_ptr {t : TypeId} (h : eqOk P t = some .ptr) : ∃ e, P.underlying t = some (.pointer e) := by
  unfold eqOk at h
  split at h <;> first | (cases h; done) | (split at h <;> first | (cases h; done) | (simp at h; done)) | (rename_i e; exact ⟨_, e⟩) | skip
theorem eqOk_slice {t : TypeId} (h : eqOk P t = some .slice) : ∃ e, P.underlying t = some (.slice e) := by
  unfold eqOk at h
  split at h <;> first | (cases h; done) | (split at h <;> first | (cases h; done) | (simp at h; done)) | (rename_i e; exact ⟨_, e⟩) | skip
theorem eqOk_map {t : TypeId} (h : eqOk P t = some .map) : ∃ k e, P.underlying t = some (.map k e) := by
  unfold eqOk at h
  split at h <;> first | (cases h; done) | (split at h <;> first | (cases h; done) | (simp at h; done)) | (rename_i e; exact ⟨_, _, e⟩) | skip
theorem eqOk_func {t : TypeId} (h : eqOk P t = some .func) : ∃ a b c, P.underlying t = some (.func a b c) := by
  unfold eqOk at h
  split at h <;> first | (cases h; done) | (split at h <;> first | (cases h; done) | (simp at h; done)) | (rename_i e; exact ⟨_, _, _, e⟩) | skip
theorem eqIn_ptr {t e : TypeId} (h : P.underlying t = some (.pointer e)) (d : Nat) (q : Option Addr) (w : World) : (Op.equalIn (d + 1) t (.pointer none) (.pointer q)).run P w = .ok q.isNone w := by simp [Op.equalIn, run_under h]
theorem eqIn_ptr' {t e : TypeId} (h : P.underlying t = some (.pointer e)) (d : Nat) (q : Addr) (w : World) : (Op.equalIn (d + 1) t (.pointer (some q)) (.pointer none)).run P w = .ok false w := by simp [Op.equalIn, run_under h]
theorem eqIn_slice {t e : TypeId} (h : P.underlying t = some (.slice e)) (d : Nat) (q : Option Addr) (n c n' c' : Nat) (w : World) : (Op.equalIn (d + 1) t (.slice none n c) (.slice q n' c')).run P w = .ok q.isNone w := by simp [Op.equalIn, run_under h]
theorem eqIn_slice' {t e : TypeId} (h : P.underlying t = some (.slice e)) (d : Nat) (q : Addr) (n c n' c' : Nat) (w : World) : (Op.equalIn (d + 1) t (.slice (some q) n c) (.slice none n' c')).run P w = .ok false w := by simp [Op.equalIn, run_under h]
theorem eqIn_func {t : TypeId} {x y : Array TypeId} {z : Bool} (h : P.underlying t = some (.func x y z)) (d : Nat) (w : World) : (Op.equalIn (d + 1) t .nilFunc .nilFunc).run P w = .ok true w := by simp [Op.equalIn, run_under h]
theorem eqIn_func' {t : TypeId} {x y : Array TypeId} {z : Bool} (h : P.underlying t = some (.func x y z)) (d : Nat) (f : Fn) (p q : Array Value) (w : World) : (Op.equalIn (d + 1) t .nilFunc (.func f p q)).run P w = .ok false w := by simp [Op.equalIn, run_under h]
theorem eqIn_func'' {t : TypeId} {x y : Array TypeId} {z : Bool} (h : P.underlying t = some (.func x y z)) (d : Nat) (f : Fn) (p q : Array Value) (w : World) : (Op.equalIn (d + 1) t (.func f p q) .nilFunc).run P w = .ok false w := by simp [Op.equalIn, run_under h]
theorem eqs_gives {X : Emb} {fr : Fr} {a : Act} {o : Oper} {v : Value} {op : BinOp} {t yt : TypeId} {x y : Operand} {neg : Bool} {sh : EqK} (ho : o.op = .binOp op t x y yt) (hop : (op = .eql ∧ neg = false) ∨ (op = .neq ∧ neg = true)) (hsh : eqOk P t = some sh)
    (hx : ∀ v, ev fr x = some v → relV X v (a.eval x)) (hy : ∀ v, ev fr y = some v → relV X v (a.eval y)) (h : pval (.eqs neg sh x y) fr = some v) (w : World) : Gives P o a w X v := by
  simp only [pval, Option.bind_eq_some_iff, Option.map_eq_some_iff] at h
  obtain ⟨p, hp, q, hq, b, hb, rfl⟩ := h
  have h1 := hx p hp
  have h2 := hy q hq
  refine ⟨.bool (if neg then !b else b), ?_, relV_bool_mk _⟩
  have fin : (eqGuard op t x y (a.eval x) (a.eval y)).run P w = .ok () w → (Op.equal t (a.eval x) (a.eval y)).run P w = .ok b w →
      (∀ op', op' = .eql → binOp op' t (a.eval x) (a.eval y) = do pure (.bool (← Op.equal t (a.eval x) (a.eval y)))) → (∀ op', op' = .neq → binOp op' t (a.eval x) (a.eval y) = do pure (.bool (!(← Op.equal t (a.eval x) (a.eval y))))) →
      (execOp a.eval o).run P w = .ok (.value (.bool (if neg then !b else b))) w := by
    intro g1 g2 g3 g4
    rcases hop with ⟨rfl, rfl⟩ | ⟨rfl, rfl⟩
    · simp only [execOp, ho, Sem.run_bind, g1, Result.andThen_ok, g3 _ rfl, g2, Sem.run_pure, Bool.false_eq_true, if_false]
    · simp only [execOp, ho, Sem.run_bind, g1, Result.andThen_ok, g4 _ rfl, g2, Sem.run_pure, if_true]
  have guard : ∀ (v u : Value), (∀ cs, v ≠ .agg cs) → v ≠ .nilIface → (eqGuard op t x y v u).run P w = .ok () w := by
    intro v u n1 n2
    unfold eqGuard
    cases op <;> cases v <;> first | exact absurd rfl (n1 _) | exact absurd rfl n2 | rfl
  unfold aeq at hb
  split at hb
  · rename_i s xs ys
    obtain ⟨rs, e1, r1⟩ := relV_agg h1
    obtain ⟨us, e2, r2⟩ := relV_agg h2
    obtain ⟨l1, l2, s1, s2⟩ := sheqs_sc hb
    have q1 : rs = xs := by apply Array.toList_inj.1; exact rel2_sc r1 s1
    have q2 : us = ys := by apply Array.toList_inj.1; exact rel2_sc r2 s2
    subst q1; subst q2
    unfold eqOk at hsh
    have hh : shTy P 8 t = some s ∧ P.eqGuardType P.depth t = false ∧ aggTy P t = some true := by
      cases ht : P.underlying t with
      | none => rw [ht] at hsh; cases hsh
      | some d =>
        rw [ht] at hsh
        have ha : (∃ fs, d = .struct fs) ∨ (∃ n e, d = .array n e) → aggTy P t = some true := by
          unfold aggTy; rw [ht]; rintro (⟨_, rfl⟩ | ⟨_, _, rfl⟩) <;> rfl
        cases d <;> simp at hsh
        · exact ⟨hsh.2, hsh.1, ha (.inr ⟨_, _, rfl⟩)⟩
        · exact ⟨hsh.2, hsh.1, ha (.inl ⟨_, rfl⟩)⟩
    refine fin ?_ ?_ ?_ ?_
    · rw [e1, e2]; exact run_eqGuard_agg w op t x y rs us hh.2.1
    · rw [e1, e2]
      exact run_equal_sh 8 hh.1 10000 (by omega) rs.toList us.toList (.agg rs) (.agg us) b l1 l2 (.inl ⟨hh.2.2, by simp⟩) (.inl ⟨hh.2.2, by simp⟩) hb w
    · rw [e1, e2]; rintro _ rfl; rfl
    · rw [e1, e2]; rintro _ rfl; rfl
  · rename_i c d
    cases hb
    have e1 := relV_bool h1
    have e2 := relV_bool h2
    have ht := eqOk_bool hsh
    refine fin ?_ ?_ ?_ ?_
    · rw [e1]; exact guard _ _ (by simp) (by simp)
    · rw [e1, e2]; exact run_equal_bool w t _ _ ht
    · rw [e1, e2]; rintro _ rfl; rfl
    · rw [e1, e2]; rintro _ rfl; rfl
  · rename_i q
    cases hb
    obtain ⟨e, ht⟩ := eqOk_ptr hsh
    have e1 : a.eval x = .pointer none := (relV_sc rfl).1 h1
    obtain ⟨q', e2, hq'⟩ : ∃ q', a.eval y = .pointer q' ∧ q'.isNone = q.isNone := by
      cases q with
      | none => exact ⟨none, (relV_sc rfl).1 h2, rfl⟩
      | some c => obtain ⟨ra, e, _⟩ := relV_ptr h2; exact ⟨some ra, e, rfl⟩
    refine fin ?_ ?_ ?_ ?_
    · rw [e1]; exact guard _ _ (by simp) (by simp)
    · rw [e1, e2, ← hq']; exact eqIn_ptr ht 9999 _ w
    · rw [e1, e2]; rintro _ rfl; rfl
    · rw [e1, e2]; rintro _ rfl; rfl
  · cases hb
    obtain ⟨e, ht⟩ := eqOk_ptr hsh
    obtain ⟨ra, e1, _⟩ := relV_ptr h1
    have e2 : a.eval y = .pointer none := (relV_sc rfl).1 h2
    refine fin ?_ ?_ ?_ ?_
    · rw [e1]; exact guard _ _ (by simp) (by simp)
    · rw [e1, e2]; exact eqIn_ptr' ht 9999 _ w
    · rw [e1, e2]; rintro _ rfl; rfl
    · rw [e1, e2]; rintro _ rfl; rfl
  · rename_i n c q n' c'
    cases hb
    obtain ⟨e, ht⟩ := eqOk_slice hsh
    obtain ⟨n1, c1, e1⟩ : ∃ n c, a.eval x = .slice none n c := by
      have h1' : relC X (.slice none n c) (a.eval x) := h1
      exact ⟨n, c, h1'.2⟩
    obtain ⟨q', n2, c2, e2, hq'⟩ : ∃ q' n c, a.eval y = .slice q' n c ∧ q'.isNone = q.isNone := by
      cases q with
      | none => have h2' : relC X (.slice none n' c') (a.eval y) := h2; exact ⟨none, n', c', h2'.2, rfl⟩
      | some b => obtain ⟨ra, c, e, _⟩ := relV_slice h2; exact ⟨some ra, _, _, e, rfl⟩
    refine fin ?_ ?_ ?_ ?_
    · rw [e1]; exact guard _ _ (by simp) (by simp)
    · rw [e1, e2, ← hq']; exact eqIn_slice ht 9999 _ _ _ _ _ w
    · rw [e1, e2]; rintro _ rfl; rfl
    · rw [e1, e2]; rintro _ rfl; rfl
  · rename_i b n c n' c'
    cases hb
    obtain ⟨e, ht⟩ := eqOk_slice hsh
    obtain ⟨ra, c1, e1, _⟩ := relV_slice h1
    have h2' : relC X (.slice none n' c') (a.eval y) := h2
    have e2 := h2'.2
    refine fin ?_ ?_ ?_ ?_
    · rw [e1]; exact guard _ _ (by simp) (by simp)
    · rw [e1, e2]; exact eqIn_slice' ht 9999 _ _ _ _ _ w
    · rw [e1, e2]; rintro _ rfl; rfl
    · rw [e1, e2]; rintro _ rfl; rfl
  · cases hb
    obtain ⟨_, _, _, ht⟩ := eqOk_func hsh
    have e1 : a.eval x = .nilFunc := (relV_sc rfl).1 h1
    have e2 : a.eval y = .nilFunc := (relV_sc rfl).1 h2
    refine fin ?_ ?_ ?_ ?_
    · rw [e1]; exact guard _ _ (by simp) (by simp)
    · rw [e1, e2]; exact eqIn_func ht 9999 w
    · rw [e1, e2]; rintro _ rfl; rfl
    · rw [e1, e2]; rintro _ rfl; rfl
  · cases hb
    obtain ⟨_, _, _, ht⟩ := eqOk_func hsh
    have e1 : a.eval x = .nilFunc := (relV_sc rfl).1 h1
    obtain ⟨rf, rc, e2, _⟩ := relV_func h2
    refine fin ?_ ?_ ?_ ?_
    · rw [e1]; exact guard _ _ (by simp) (by simp)
    · rw [e1, e2]; exact eqIn_func' ht 9999 _ _ _ w
    · rw [e1, e2]; rintro _ rfl; rfl
    · rw [e1, e2]; rintro _ rfl; rfl
  · cases hb
    obtain ⟨_, _, _, ht⟩ := eqOk_func hsh
    obtain ⟨rf, rc, e1, _⟩ := relV_func h1
    have e2 : a.eval y = .nilFunc := (relV_sc rfl).1 h2
    refine fin ?_ ?_ ?_ ?_
    · rw [e1]; exact guard _ _ (by simp) (by simp)
    · rw [e1, e2]; exact eqIn_func'' ht 9999 _ _ _ w
    · rw [e1, e2]; rintro _ rfl; rfl
    · rw [e1, e2]; rintro _ rfl; rfl
  · cases hb
end
end AM
end Go.Proofs.Ytpjjkmfidghkjaa
end
section
namespace Go.Proofs.Ytpjjkmfidghkjaa
namespace AM
open Go Go.RowKit

section
variable {P : Program} {X : Emb} {fr : Fr} {a : Act} {o : Oper} {v : Value}

theorem foldl_zipIdx (off : Nat) : ∀ (l : List Value) (k : Nat) (cs : Array Value), ((l.zipIdx k).foldl (fun cs (p : Value × Nat) => cs.setIfInBounds (off + p.2) p.1) cs).toList = putAt cs.toList (off + k) l
  | [], k, cs => rfl
  | x :: l, k, cs => by
    simp only [List.zipIdx_cons, List.foldl_cons, putAt]
    rw [foldl_zipIdx off l (k + 1)]
    simp [Nat.add_assoc]
theorem foldl_cells (off : Nat) (l cs : Array Value) : (l.zipIdx.foldl (fun cs (p : Value × Nat) => cs.setIfInBounds (off + p.2) p.1) cs).toList = putAt cs.toList off l.toList := by
  have := foldl_zipIdx off l.toList 0 cs
  rw [← Array.toList_zipIdx, Array.foldl_toList] at this
  simpa using this
theorem putAt_length : ∀ (vs cs : List Value) (off : Nat), (putAt cs off vs).length = cs.length
  | [], _, _ => rfl
  | v :: vs, cs, off => by rw [putAt, putAt_length]; simp

theorem fill_rel {pl place : Nat → Option (Nat × Nat)} (hp : ∀ i q, pl i = some q → place i = some q) : ∀ (ps : List (Nat × Operand)) (ps' : List (Nat × Nat × Operand)) (vals : List (Nat × Nat × Value)) (cs0 cs : List Value) (rs0 : Array Value),
    (∀ q ∈ ps, ∀ v, ev fr q.2 = some v → relV X v (a.eval q.2)) → compPs pl ps = some ps' → evps fr ps' = some vals → fill cs0 vals = some cs → rel2 (relC X) cs0 rs0.toList →
    ∃ rs, Instr.fill place rs0 (ps.map fun q => (q.1, a.eval q.2)) = some rs ∧ rel2 (relC X) cs rs.toList
  | [], ps', vals, cs0, cs, rs0, _, h1, h2, h3, hr => by
    simp only [compPs, Option.some.injEq] at h1
    subst h1
    simp only [evps, Option.some.injEq] at h2
    subst h2
    simp only [fill, Option.some.injEq] at h3
    subst h3
    exact ⟨rs0, rfl, hr⟩
  | (i, x) :: ps, ps', vals, cs0, cs, rs0, hx, h1, h2, h3, hr => by
    simp only [compPs, Option.bind_eq_some_iff, Option.map_eq_some_iff] at h1
    obtain ⟨⟨off, size⟩, hq, r, hr1, rfl⟩ := h1
    simp only [evps, Option.bind_eq_some_iff, Option.map_eq_some_iff] at h2
    obtain ⟨v, hv, vs, hvs, rfl⟩ := h2
    simp only [fill] at h3
    split at h3
    · rename_i hc
      simp only [Bool.and_eq_true, decide_eq_true_eq] at hc
      have hrel := hx (i, x) (by simp) v hv
      have hcells := rel_cells hrel hc.2
      have hl : (a.eval x).cells.size = size := by rw [← hc.1.1, hcells.1]; simp
      have hput : rel2 (relC X) (putAt cs0 off (cellsOf v)) ((a.eval x).cells.zipIdx.foldl (fun cs (p : Value × Nat) => cs.setIfInBounds (off + p.2) p.1) rs0).toList := by
        rw [foldl_cells]
        exact hr.putAt off hcells
      obtain ⟨rs, e1, e2⟩ := fill_rel hp ps r vs _ cs _ (fun q hq => hx q (by simp [hq])) hr1 hvs h3 hput
      refine ⟨rs, ?_, e2⟩
      have hle : rs0.size = cs0.length := by rw [hr.1]; simp
      simp only [List.map_cons, Instr.fill, hp _ _ hq]
      rw [if_neg (by simp [hl]; omega)]
      exact e1
    · cases h3
theorem run_zero {t : TypeId} {zs : List Value} (h : zeroTy P t = some zs) (w : World) : ∃ z, (zeroValue t).run P w = .ok z w ∧ z.cells.toList = zs ∧ (∀ v ∈ zs, sc v = true) ∧ sizeTy P t = some zs.length := by
  unfold zeroTy at h
  cases hi : P.info? t with
  | none => rw [hi] at h; cases h
  | some i =>
    rw [hi] at h
    cases hz : i.zero with
    | none => simp [hz] at h
    | some z =>
      simp only [hz] at h
      split at h
      · rename_i hc
        cases h
        simp only [Bool.and_eq_true, decide_eq_true_eq] at hc
        exact ⟨z, by simp [zeroValue, typeInfo, hi, hz], rfl, fun v hv => List.all_eq_true.1 hc.2 v hv, by simp [sizeTy, hi, hc.1]⟩
      · cases h
theorem rel2_sc_refl {xs : List Value} (h : ∀ v ∈ xs, sc v = true) : rel2 (relC X) xs xs := rel2.refl fun v hv => (relC_sc (h v hv)).2 rfl

theorem run_mapM_list {α : Type} {f : α → Sem (Nat × Nat)} {g : α → Nat × Nat} {w : World} : ∀ (l : List α), (∀ x ∈ l, (f x).run P w = .ok (g x) w) → (l.mapM f).run P w = .ok (l.map g) w
  | [], _ => by simp
  | x :: l, h => by
    rw [List.mapM_cons]
    simp [h x (by simp), run_mapM_list l fun y hy => h y (by simp [hy])]
theorem build_gives {t : TypeId} {ps : Array (Nat × Operand)} {zs : List Value} {pl : Nat → Option (Nat × Nat)} {ps' : List (Nat × Nat × Operand)} (ho : o.op = .build t ps) (hz : zeroTy P t = some zs) (hpl : placesTy P t = some pl) (hps : compPs pl ps.toList = some ps')
    (hx : ∀ q ∈ ps.toList, ∀ v, ev fr q.2 = some v → relV X v (a.eval q.2)) (h : pval (.build zs ps') fr = some v) (w : World) : Gives P o a w X v := by
  simp only [pval, Option.bind_eq_some_iff, Option.map_eq_some_iff] at h
  obtain ⟨vals, hv, cs, hc, rfl⟩ := h
  obtain ⟨z, hz1, hz2, hz3, _⟩ := run_zero hz w
  have hfill := fun place hp => fill_rel (X := X) (a := a) (place := place) hp ps.toList ps' vals zs cs z.cells hx hps hv hc (by rw [hz2]; exact rel2_sc_refl hz3)
  unfold placesTy at hpl
  split at hpl
  · rename_i fs ht
    split at hpl
    · rename_i hall
      cases hpl
      have hmap : (fs.mapM fun f => (do pure (f.offset, ← sizeOf f.type) : Sem (Nat × Nat))).run P w = .ok (fs.map fun f => (f.offset, (sizeTy P f.type).getD 0)) w := by
        rw [Array.mapM_eq_mapM_toList]
        have := run_mapM_list (P := P) (w := w) (f := fun f => (do pure (f.offset, ← sizeOf f.type) : Sem (Nat × Nat))) (g := fun f : Field => (f.offset, (sizeTy P f.type).getD 0)) fs.toList (fun f hf => by
          have hs := List.all_eq_true.1 hall f hf
          obtain ⟨s, hs⟩ := Option.isSome_iff_exists.1 hs
          simp [run_size hs, hs])
        rw [map_eq_pure_bind, Sem.run_bind, this]
        simp only [Result.andThen_ok, Sem.run_pure]
        congr 1
        apply Array.toList_inj.1
        simp
      obtain ⟨rs, e1, e2⟩ := hfill ((fs.map fun f => (f.offset, (sizeTy P f.type).getD 0))[·]?) (fun i q hq => by
        simp only [Option.bind_eq_some_iff, Option.map_eq_some_iff] at hq
        obtain ⟨f, hf, s, hs, rfl⟩ := hq
        simp [hf, hs])
      refine ⟨.agg rs, ?_, ⟨rs, rfl, e2⟩⟩
      have e1' : Instr.fill (fun x => (fs.map fun f => (f.offset, (sizeTy P f.type).getD 0))[x]?) z.cells (ps.map fun x => (x.1, a.eval x.2)).toList = some rs := by simpa using e1
      simp only [execOp, ho, Instr.build, Sem.run_bind, hz1, Result.andThen_ok, run_under ht, hmap, e1', Sem.run_pure]
    · cases hpl
  · rename_i n e ht
    simp only [Option.map_eq_some_iff] at hpl
    obtain ⟨s, hs, rfl⟩ := hpl
    obtain ⟨rs, e1, e2⟩ := hfill (fun i => some (i * s, s)) (fun i q hq => hq)
    refine ⟨.agg rs, ?_, ⟨rs, rfl, e2⟩⟩
    have e1' : Instr.fill (fun i => some (i * s, s)) z.cells (ps.map fun x => (x.1, a.eval x.2)).toList = some rs := by simpa using e1
    simp only [execOp, ho, Instr.build, Sem.run_bind, hz1, Result.andThen_ok, run_under ht, run_size hs, e1', Sem.run_pure]
  · cases hpl

theorem run_builtin {c : Call} {b : Builtin} (ho : o.op = .call c) (hb : c.callee = .builtin b) (w : World) :
    ∃ cs, (execOp a.eval o).run P w = (builtin b c.argTypes o.type cs (c.args.map a.eval)).run P w := by
  simp only [execOp, ho, resolve, hb, Sem.run_bind, Sem.run_pure, Result.andThen_ok, invoke]
  exact ⟨_, rfl⟩
theorem args_one {c : Call} {x : Operand} (h : c.args.toList = [x]) : c.args = #[x] := by apply Array.toList_inj.1; simpa using h
theorem args_two {c : Call} {x y : Operand} (h : c.args.toList = [x, y]) : c.args = #[x, y] := by apply Array.toList_inj.1; simpa using h
theorem types_one {c : Call} {x : TypeId} (h : c.argTypes.toList = [x]) : c.argTypes = #[x] := by apply Array.toList_inj.1; simpa using h
theorem types_two {c : Call} {x y : TypeId} (h : c.argTypes.toList = [x, y]) : c.argTypes = #[x, y] := by apply Array.toList_inj.1; simpa using h
theorem len_gives {c : Call} {x : Operand} {t e : TypeId} (ho : o.op = .call c) (hb : c.callee = .builtin .len) (hc : c.args.toList = [x]) (ht : c.argTypes.toList = [t]) (hu : P.underlying t = some (.slice e))
    (hx : ∀ v, ev fr x = some v → relV X v (a.eval x)) (h : pval (.len x) fr = some v) (w : World) : Gives P o a w X v := by
  simp only [pval] at h
  unfold Gives
  obtain ⟨ks, hks⟩ := run_builtin (P := P) (a := a) ho hb w
  rw [hks, args_one hc, types_one ht]
  split at h
  · rename_i p n e he
    cases h
    have hr := hx _ he
    obtain ⟨q, c', e1⟩ : ∃ q c', a.eval x = .slice q n c' := by
      cases p with
      | none => have hr' : relC X (.slice none n e) (a.eval x) := hr; exact ⟨none, e, hr'.2⟩
      | some b => obtain ⟨ra, c', e1, _⟩ := relV_slice hr; exact ⟨_, _, e1⟩
    exact ⟨.int .i64 n, by simp [builtin, Builtin.len_, e1, run_under hu, goInt], relV_int_mk _ _⟩
  · cases h
theorem lens_gives {c : Call} {x : Operand} {t : TypeId} (ho : o.op = .call c) (hb : c.callee = .builtin .len) (hc : c.args.toList = [x]) (ht : c.argTypes.toList = [t]) (hu : P.underlying t = some .string)
    (hx : ∀ v, ev fr x = some v → relV X v (a.eval x)) (h : pval (.lens x) fr = some v) (w : World) : Gives P o a w X v := by
  simp only [pval] at h
  unfold Gives
  obtain ⟨ks, hks⟩ := run_builtin (P := P) (a := a) ho hb w
  rw [hks, args_one hc, types_one ht]
  split at h
  · rename_i s he
    cases h
    have e1 := relV_string (hx _ he)
    exact ⟨.int .i64 s.size, by simp [builtin, Builtin.len_, e1, run_under hu, goInt], relV_int_mk _ _⟩
  · cases h
theorem lena_gives {c : Call} {x : Operand} {t e : TypeId} {n : Nat} (ho : o.op = .call c) (hb : c.callee = .builtin .len) (hc : c.args.toList = [x]) (ht : c.argTypes.toList = [t]) (hu : P.underlying t = some (.array n e))
    (h : pval (.lena n) fr = some v) (w : World) : Gives P o a w X v := by
  simp only [pval, Option.some.injEq] at h
  subst h
  unfold Gives
  obtain ⟨ks, hks⟩ := run_builtin (P := P) (a := a) ho hb w
  rw [hks, args_one hc, types_one ht]
  refine ⟨.int .i64 n, ?_, relV_int_mk _ _⟩
  simp only [List.map_toArray, List.map_cons, List.map_nil, builtin, Builtin.len_]
  simp only [Sem.run_bind, List.getElem?_toArray, List.getElem?_cons_zero, run_under hu, Result.andThen_ok]
  generalize a.eval x = q
  cases q <;> rfl
theorem cap_gives {c : Call} {x : Operand} {t e : TypeId} (ho : o.op = .call c) (hb : c.callee = .builtin .cap) (hc : c.args.toList = [x]) (ht : c.argTypes.toList = [t]) (hu : P.underlying t = some (.slice e))
    (hx : ∀ v, ev fr x = some v → relV X v (a.eval x)) (h : pval (.cap x) fr = some v) (w : World) : Gives P o a w X v := by
  simp only [pval] at h
  unfold Gives
  obtain ⟨ks, hks⟩ := run_builtin (P := P) (a := a) ho hb w
  rw [hks, args_one hc, types_one ht]
  split at h
  · rename_i he
    cases h
    have e1 := relV_nilslice (hx _ he)
    exact ⟨.int .i64 0, by simp [builtin, Builtin.cap_, e1, run_under hu, goInt], relV_int_mk _ _⟩
  · cases h
theorem mm2_int {mx : Bool} {p q r : Value} (h : mm2 mx p q = some r) : ∃ k n, p = .int k n ∧ ∃ m, q = .int k m ∧ ∃ l, r = .int k l := by
  unfold mm2 at h
  split at h
  · split at h
    · rename_i hk
      subst hk
      cases h
      exact ⟨_, _, rfl, _, rfl, _, rfl⟩
    · cases h
  · cases h
theorem mm2_run {mx : Bool} {p q r : Value} (h : mm2 mx p q = some r) (w : World) : (if mx then Builtin.max2 p q else Builtin.min2 p q).run P w = .ok r w := by
  unfold mm2 at h
  split at h
  · split at h
    · rename_i hk
      subst hk
      cases h
      cases mx <;> simp [Builtin.max2, Builtin.min2]
    · cases h
  · cases h
theorem mmf_run {mx : Bool} : ∀ (l : List Value) (p r : Value), mmf mx p l = some r → ∀ w, (l.foldlM (if mx then Builtin.max2 else Builtin.min2) p).run P w = .ok r w
  | [], p, r, h, w => by simp only [mmf, Option.some.injEq] at h; subst h; simp
  | q :: l, p, r, h, w => by
    simp only [mmf, Option.bind_eq_some_iff] at h
    obtain ⟨u, hu, h⟩ := h
    have h1 := mm2_run (P := P) hu w
    have h2 := mmf_run l u r h w
    rw [List.foldlM_cons]
    cases mx <;> simp_all
theorem mmf_int {mx : Bool} : ∀ (l : List Value) (p r : Value), mmf mx p l = some r → l ≠ [] → (∃ k n, p = .int k n) ∧ (∀ q ∈ l, ∃ k n, q = .int k n) ∧ ∃ k n, r = .int k n
  | [], p, r, _, h0 => absurd rfl h0
  | q :: l, p, r, h, _ => by
    simp only [mmf, Option.bind_eq_some_iff] at h
    obtain ⟨u, hu, h⟩ := h
    obtain ⟨k, n, rfl, m, rfl, j, rfl⟩ := mm2_int hu
    refine ⟨⟨_, _, rfl⟩, fun q hq => ?_, ?_⟩
    · rcases List.mem_cons.1 hq with rfl | hq
      · exact ⟨_, _, rfl⟩
      · cases l with
        | nil => cases hq
        | cons y l => exact (mmf_int (y :: l) _ r h (by simp)).2.1 q hq
    · cases l with
      | nil => simp only [mmf, Option.some.injEq] at h; exact ⟨k, j, h.symm⟩
      | cons y l => exact (mmf_int (y :: l) _ r h (by simp)).2.2
theorem evs_ints : ∀ {xs : List Operand} {vs : List Value}, (∀ x ∈ xs, ∀ v, ev fr x = some v → relV X v (a.eval x)) → evs fr xs = some vs → (∀ q ∈ vs, ∃ k n, q = Value.int k n) → xs.map a.eval = vs := by
  intro xs vs hx h hi
  have hr := evs_rel hx h
  clear h hx
  induction xs generalizing vs with
  | nil => have := hr.1; simp at this; simp [this]
  | cons x xs ih =>
    cases vs with
    | nil => have := hr.1; simp at this
    | cons q vs =>
      simp only [List.map_cons] at hr ⊢
      obtain ⟨u, m, e, h1, h2⟩ := hr.head
      cases e
      obtain ⟨k, n, rfl⟩ := hi q (by simp)
      rw [relV_int h1, ih (fun q hq => hi q (by simp [hq])) h2]
theorem mm_gives {c : Call} {mx : Bool} (ho : o.op = .call c) (hb : c.callee = .builtin (if mx then .max else .min))
    (hx : ∀ x ∈ c.args.toList, ∀ v, ev fr x = some v → relV X v (a.eval x)) (h : pval (.mm mx c.args.toList) fr = some v) (w : World) : Gives P o a w X v := by
  simp only [pval, Option.bind_eq_some_iff] at h
  obtain ⟨vs, hv, h⟩ := h
  unfold Gives
  obtain ⟨ks, hks⟩ := run_builtin (P := P) (a := a) ho hb w
  rw [hks]
  cases vs with
  | nil => cases h
  | cons p l =>
    have hall : l ≠ [] → (∃ k n, v = Value.int k n) ∧ c.args.toList.map a.eval = p :: l := fun h0 => by
      obtain ⟨g1, g2, g3⟩ := mmf_int l p v h h0
      exact ⟨g3, evs_ints hx hv fun q hq => by
        rcases List.mem_cons.1 hq with rfl | hq
        · exact g1
        · exact g2 q hq⟩
    cases l with
    | nil =>
      simp only [mmf, Option.some.injEq] at h
      subst h
      have hr := evs_rel hx hv
      obtain ⟨u, m, e1, h1, h2⟩ := hr.head
      have := h2.nil'
      subst this
      refine ⟨u, ?_, h1⟩
      cases mx <;> simp [builtin, Builtin.max_, Builtin.min_, e1]
    | cons y l =>
      obtain ⟨⟨k, n, rfl⟩, e⟩ := hall (by simp)
      refine ⟨.int k n, ?_, relV_int_mk _ _⟩
      have hrun := mmf_run (P := P) (y :: l) p _ h w
      cases mx <;> (simp only [if_true, Bool.false_eq_true, if_false] at hrun; simp only [builtin, Builtin.max_, Builtin.min_, Array.toList_map, e, Sem.run_bind, Bool.false_eq_true, if_false, if_true, hrun, Result.andThen_ok, Sem.run_pure])
end
end AM
end Go.Proofs.Ytpjjkmfidghkjaa
end
