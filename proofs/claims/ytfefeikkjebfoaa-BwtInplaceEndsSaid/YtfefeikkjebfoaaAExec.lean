/-
  THE ABSTRACT MACHINE's RUNS: what a translated function does in the abstract, the program's function does. Conditions: the functions are the translated ones.
-/
import Derived.Test.YtfefeikkjebfoaaAMoves
import Derived.LoopN
namespace Go.Proofs.Ytfefeikkjebfoaa
namespace AM
open Go Go.RowKit

section
variable {P : Program} {w0 : World}

def Ex.real : Ex → Exit
  | .normal => .normal
  | .exit id => .exit id
  | .ret => .ret

theorem FrR.keep {X : Emb} {fr : Fr} {a : Act} (h : FrR X fr a) : ∀ l : List Nat, FrR X (fr.keep l) a
  | [] => fun t v ht => by simp [Fr.keep, Fr.get] at ht
  | k :: l => fun t v ht => by
    simp only [Fr.keep] at ht
    split at ht
    · rename_i q hq
      simp only [Fr.get] at ht
      split at ht
      · rename_i e; subst e; cases ht; exact h k v hq
      · exact FrR.keep h l t v ht
    · exact FrR.keep h l t v ht
theorem frget_zip : ∀ {ks : List Nat} {vs : List Value} {t : Nat} {v : Value}, Fr.get (ks.zip vs) t = some v → ∃ i : Nat, ks[i]? = some t ∧ vs[i]? = some v ∧ ∀ j : Nat, j < i → ks[j]? ≠ some t
  | [], _, _, _, h => by simp [Fr.get] at h
  | k :: ks, [], _, _, h => by simp [Fr.get] at h
  | k :: ks, u :: vs, t, v, h => by
    simp only [List.zip_cons_cons, Fr.get] at h
    split at h
    · rename_i e
      subst e
      cases h
      exact ⟨0, rfl, rfl, fun j hj => by omega⟩
    · rename_i hne
      obtain ⟨i, h1, h2, h3⟩ := frget_zip h
      refine ⟨i + 1, h1, h2, fun j hj => ?_⟩
      cases j with
      | zero => simpa using hne
      | succ j => exact h3 j (by omega)
theorem frget_idx : ∀ {fr : Fr} {i t : Nat}, (fr.map (·.1))[i]? = some t → (∀ j : Nat, j < i → (fr.map (·.1))[j]? ≠ some t) → ∃ v, (fr.map (·.2))[i]? = some v ∧ fr.get t = some v
  | [], i, t, h, _ => by simp at h
  | (k, u) :: fr, 0, t, h, _ => by
    simp at h
    subst h
    exact ⟨u, rfl, by simp [Fr.get]⟩
  | (k, u) :: fr, i + 1, t, h, hj => by
    obtain ⟨v, h1, h2⟩ := frget_idx (fr := fr) (i := i) (t := t) (by simpa using h) (fun j hj' => by have := hj (j + 1) (by omega); simpa using this)
    refine ⟨v, by simpa using h1, ?_⟩
    have hk : ¬ k = t := by have := hj 0 (by omega); simpa using this
    simp [Fr.get, hk, h2]
theorem relC_refs {X : Emb} {q u : Value} (h : relC X q u) : ∀ r ∈ refsC q, ∃ bx, X r = some bx := by
  unfold relC at h
  split at h
  · intro r hr
    simp only [refsC, List.mem_singleton] at hr
    subst hr
    obtain ⟨ra, _, bx, h1, _⟩ := h
    exact ⟨bx, h1⟩
  · intro r hr
    simp only [refsC, List.mem_singleton] at hr
    subst hr
    obtain ⟨ra, c, _, _, _, bx, h1, _⟩ := h
    exact ⟨bx, h1⟩
  · intro r hr
    rw [refs_sc' h.1] at hr
    cases hr
/-- What is collected. -/
theorem gc_step {X0 X : Emb} {τ0 σ σ' : St} {vs vs' : List Value} {w0 v w : World} (S : Sim w0 X σ w) (h0 : Ast τ0 σ) (hd : τ0.dirty = []) (hst : Stp X0 τ0 v X w) (hw : Sim w0 X0 τ0 v) (hh : ∀ t ∈ τ0.hid, t < τ0.heap.length) (hl : τ0.lock ≤ τ0.heap.length)
    (hg : gc τ0.heap.length vs σ = some (vs', σ')) : ∃ X', Gcd w0 τ0.heap.length X σ w vs vs' σ' X' ∧ Stp X0 τ0 v X' w ∧ Ast τ0 σ' := by
  have hdom := hw.dom
  have hD : ∀ id bx, id < τ0.heap.length → X id = some bx → id ∉ σ.hid → id ∉ σ.dirty → ∀ r ∈ refsAt σ.heap id, r < τ0.heap.length := by
    intro id bx hi hx hn hnd r hr
    have hr0 := h0.refs id hi hnd r hr
    obtain ⟨bx0, hx0⟩ : ∃ bx0, X0 id = some bx0 := by
      rcases hst.back id bx hx with ⟨bx0, h1, _⟩ | ⟨_, _, _, h4⟩
      · exact ⟨bx0, h1⟩
      · omega
    unfold refsAt at hr0
    cases hb : τ0.heap[id]? with
    | none => rw [hb] at hr0; cases hr0
    | some b =>
      rw [hb] at hr0
      cases b with
      | map es => simp [refsB] at hr0
      | cells g pl cs =>
        obtain ⟨_, _, _, _, c5, _⟩ := hw.cell id bx0 g pl cs hx0 (by rw [← h0.hid]; exact hn) hb
        cases pl with
        | true => simp [refsB] at hr0
        | false =>
          simp only [refsB, List.mem_flatMap] at hr0
          obtain ⟨q, hq, hr0⟩ := hr0
          obtain ⟨j, hj⟩ := List.mem_iff_getElem?.1 hq
          obtain ⟨u, _, hrel⟩ := c5 j q hj
          obtain ⟨bx1, h1⟩ := relC_refs hrel r hr0
          exact hdom _ _ h1
  obtain ⟨X', gd⟩ := gc_sound S (fun t ht => hh t (by rw [← h0.hid]; exact ht)) (by rw [h0.lock]; exact hl) hD hg
  refine ⟨X', gd, ⟨hst.size, hst.os, hst.tape, hst.output, hst.frame, ?_, ?_, ?_⟩, h0.gc hd hg⟩
  · intro id bx hx
    obtain ⟨bx', h1, h2⟩ := hst.evo id bx hx
    exact ⟨bx', by rw [gd.low id (hdom id bx hx)]; exact h1, h2⟩
  · intro id bx bx' hx hx'
    rw [gd.low id (hdom id bx hx)] at hx'
    exact hst.same id bx bx' hx hx'
  · intro id bx' hx'
    by_cases hi : id < τ0.heap.length
    · rw [gd.low id hi] at hx'
      exact hst.back id bx' hx'
    · obtain ⟨id0, k1, k2⟩ := gd.high id bx' (by omega) hx'
      have hnone : X0 id = none := by
        cases hx0 : X0 id with
        | none => rfl
        | some bx => exact absurd (hdom id bx hx0) hi
      rcases hst.back id0 bx' k2 with ⟨bx, h1, _⟩ | ⟨_, h2, h3, _⟩
      · exact absurd (hdom id0 bx h1) (by omega)
      · exact .inr ⟨hnone, h2, h3, by omega⟩
/-- What is collected between two rounds. -/
theorem gcFr_sound {n : Nat} {X0 X : Emb} {τ0 σ σ' : St} {fr fr' : Fr} {a : Act} {w0 v w : World} (G : Good w0 n X σ fr a w) (h0 : Ast τ0 σ) (hd : τ0.dirty = []) (hst : Stp X0 τ0 v X w) (hw : Sim w0 X0 τ0 v) (hh : ∀ t ∈ τ0.hid, t < τ0.heap.length) (hl : τ0.lock ≤ τ0.heap.length)
    (h : gcFr τ0.heap.length fr σ = some (fr', σ')) : Ast τ0 σ' ∧ ∃ X', Good w0 n X' σ' fr' a w ∧ Stp X0 τ0 v X' w := by
  obtain ⟨vs, hg, rfl⟩ := gcFr_abs h
  obtain ⟨X', gd, hst', hast⟩ := gc_step G.sim h0 hd hst hw hh hl hg
  refine ⟨hast, X', ⟨gd.sim, ?_, G.size, G.defers, fun t ht => Nat.lt_of_lt_of_le (hh t (by rw [← h0.hid, ← gd.hid]; exact ht)) hast.len, by rw [hast.lock]; exact Nat.le_trans hl hast.len⟩, hst'⟩
  intro t q ht
  obtain ⟨i, h1, h2, h3⟩ := frget_zip ht
  obtain ⟨p, p1, p2⟩ := frget_idx h1 h3
  exact gd.vals.2 i p q _ p1 h2 (G.fr t p p2)

theorem Sim.dirty {X : Emb} {σ : St} {w : World} (S : Sim w0 X σ w) (d : List Nat) : Sim w0 X { σ with dirty := d } w := ⟨S.bel, S.dom, S.place, S.cell, S.inj, S.lock, S.zero⟩
theorem Good.dirty {n : Nat} {X : Emb} {σ : St} {fr : Fr} {a : Act} {w : World} (G : Good w0 n X σ fr a w) (d : List Nat) : Good w0 n X { σ with dirty := d } fr a w := ⟨G.sim.dirty d, G.fr, G.size, G.defers, G.hid, G.lock⟩
theorem Stp.dirty {X X' : Emb} {σ : St} {w w' : World} {d : List Nat} (h : Stp X { σ with dirty := d } w X' w') : Stp X σ w X' w' := ⟨h.size, h.os, h.tape, h.output, h.frame, h.evo, h.same, h.back⟩
theorem Stp.dirty' {X X' : Emb} {σ : St} {w w' : World} {d : List Nat} (h : Stp X σ w X' w') : Stp X { σ with dirty := d } w X' w' := ⟨h.size, h.os, h.tape, h.output, h.frame, h.evo, h.same, h.back⟩

/-- A loop's rounds. -/
theorem iter_sound {callf : CallF} (hcf : CallOk P w0 callf) {n m : Nat} {b : Code} {ac : ACode} {live : List Nat} {X0 : Emb} {τ0 : St} {v : World} (hd : τ0.dirty = []) (hw : Sim w0 X0 τ0 v) (hh : ∀ t ∈ τ0.hid, t < τ0.heap.length) (hl : τ0.lock ≤ τ0.heap.length)
    (hb : ∀ fr σ ex fr' σ', exec callf m ac fr σ = some (ex, fr', σ') → ∀ X a w, Good w0 n X σ fr a w → ∀ Q : Exit → Act → World → Prop, (∀ a' w', Post w0 n X σ w fr' σ' a' w' → Q ex.real a' w') → b.wp P Q a w) :
    ∀ (k : Nat) (fr : Fr) (σ : St) (ex : Ex) (fr' : Fr) (σ' : St), iter (exec callf m ac) live τ0.heap.length k fr σ = some (ex, fr', σ') → ∀ X a w, Good w0 n X σ fr a w → Ast τ0 σ → Stp X0 τ0 v X w →
      ∀ Q : Exit → Act → World → Prop, (∀ a' w', Post w0 n X0 τ0 v fr' σ' a' w' → Q ex.real a' w') → Code.rounds P b Q k a w
  | 0, fr, σ, ex, fr', σ', h, _, _, _, _, _, _, _, _ => by simp [iter] at h
  | k + 1, fr, σ, ex, fr', σ', h, X, a, w, G, h0, hst, Q, hQ => by
    simp only [iter, Option.bind_eq_some_iff] at h
    obtain ⟨⟨e1, fr1, σ1⟩, h1, h⟩ := h
    rw [rounds_succ]
    have a1 := exec_ast hcf.1 m ac _ _ _ _ _ G.lock h1
    refine hb _ _ _ _ _ h1 X a w G _ fun a' w' ⟨X1, G1, s1⟩ => ?_
    have hst1 := hst.trans h0 s1
    cases e1 with
    | normal =>
      simp only [Option.bind_eq_some_iff] at h
      obtain ⟨⟨fr2, σ2⟩, h2, h⟩ := h
      have G1' : Good w0 n X1 σ1 (fr1.keep live) a' w' := ⟨G1.sim, G1.fr.keep live, G1.size, G1.defers, G1.hid, G1.lock⟩
      obtain ⟨ha2, X2, G2, s2⟩ := gcFr_sound G1' (h0.trans a1) hd hst1 hw hh hl h2
      exact iter_sound hcf hd hw hh hl hb k _ _ _ _ _ h X2 a' w' G2 ha2 s2 Q hQ
    | exit id => cases h; exact hQ a' w' ⟨X1, G1, hst1⟩
    | ret => cases h; exact hQ a' w' ⟨X1, G1, hst1⟩

theorem exec_sound {callf : CallF} (hcf : CallOk P w0 callf) (hm : P.follows .mixedOrders = true) {n m : Nat} {fin : List Nat} : ∀ (c : Code) (exits : List (Nat × List Nat)) (out live : List Nat) (ac : ACode), comp P n exits fin c out = some (ac, live) → ∀ fr σ ex fr' σ', exec callf m ac fr σ = some (ex, fr', σ') →
    ∀ X a w, Good w0 n X σ fr a w → ∀ Q : Exit → Act → World → Prop, (∀ a' w', Post w0 n X σ w fr' σ' a' w' → Q ex.real a' w') → c.wp P Q a w
  | .skip, exits, out, live, ac, hc, fr, σ, ex, fr', σ', h, X, a, w, G, Q, hQ => by
    simp only [comp] at hc; cases hc
    simp only [exec] at h; cases h
    exact wp_skip (hQ a w ⟨X, G, Stp.refl _ _ _⟩)
  | .ret, exits, out, live, ac, hc, fr, σ, ex, fr', σ', h, X, a, w, G, Q, hQ => by
    simp only [comp] at hc; cases hc
    simp only [exec] at h; cases h
    exact wp_ret (hQ a w ⟨X, G, Stp.refl _ _ _⟩)
  | .exit id, exits, out, live, ac, hc, fr, σ, ex, fr', σ', h, X, a, w, G, Q, hQ => by
    simp only [comp] at hc
    split at hc
    · cases hc
      simp only [exec] at h; cases h
      exact wp_exit (hQ a w ⟨X, G, Stp.refl _ _ _⟩)
    · cases hc
  | .region id ops draw, exits, out, live, ac, hc, fr, σ, ex, fr', σ', h, X, a, w, G, Q, hQ => by
    simp only [comp, Option.bind_eq_some_iff] at hc
    obtain ⟨as, has, hc⟩ := hc
    cases draw with
    | true =>
      simp only [if_true] at hc
      split at hc
      · rename_i hst
        split at hc
        · cases hc
          simp only [exec, Option.map_eq_some_iff] at h
          obtain ⟨⟨fr1, σ1⟩, h1, h⟩ := h
          cases h
          exact mops_sound hm hst has h1 G hQ
        · cases hc
          simp only [exec, Option.map_eq_some_iff] at h
          obtain ⟨⟨fr1, σ1⟩, h1, h⟩ := h
          cases h
          exact dops_sound hcf hm hst has h1 G hQ
      · cases hc
    | false =>
      simp only [Bool.false_eq_true, if_false] at hc
      cases hc
      simp only [exec, Option.map_eq_some_iff] at h
      obtain ⟨⟨fr1, σ1⟩, h1, h⟩ := h
      cases h
      exact wp_region_list (aops_sound hcf ops.toList as has _ _ _ _ h1 X a w G hQ)
  | .seq x y, exits, out, live, ac, hc, fr, σ, ex, fr', σ', h, X, a, w, G, Q, hQ => by
    simp only [comp, Option.bind_eq_some_iff, Option.map_eq_some_iff] at hc
    obtain ⟨q, hq, p, hp, hc⟩ := hc
    cases hc
    simp only [exec, Option.bind_eq_some_iff] at h
    obtain ⟨⟨e1, fr1, σ1⟩, h1, h⟩ := h
    have a1 := exec_ast hcf.1 m _ _ _ _ _ _ G.lock h1
    refine wp_seq (exec_sound hcf hm x exits q.2 p.2 p.1 hp _ _ _ _ _ h1 X a w G _ fun a' w' ⟨X1, G1, s1⟩ => ?_)
    cases e1 with
    | normal => exact exec_sound hcf hm y exits out q.2 q.1 hq _ _ _ _ _ h X1 a' w' G1 Q fun a2 w2 ⟨X2, G2, s2⟩ => hQ a2 w2 ⟨X2, G2, s1.trans a1 s2⟩
    | exit id => cases h; exact hQ a' w' ⟨X1, G1, s1⟩
    | ret => cases h; exact hQ a' w' ⟨X1, G1, s1⟩
  | .cond c x y, exits, out, live, ac, hc, fr, σ, ex, fr', σ', h, X, a, w, G, Q, hQ => by
    simp only [comp] at hc
    split at hc
    · rename_i hk
      simp only [Option.bind_eq_some_iff, Option.map_eq_some_iff] at hc
      obtain ⟨p, hp, q, hq, hc⟩ := hc
      cases hc
      simp only [exec] at h
      split at h
      · rename_i e
        exact wp_cond_true (relV_bool (G.fr.ev hk e)) (exec_sound hcf hm x exits out p.2 p.1 hp _ _ _ _ _ h X a w G Q hQ)
      · rename_i e
        exact wp_cond_false (relV_bool (G.fr.ev hk e)) (exec_sound hcf hm y exits out q.2 q.1 hq _ _ _ _ _ h X a w G Q hQ)
      · cases h
    · cases hc
  | .block id b, exits, out, live, ac, hc, fr, σ, ex, fr', σ', h, X, a, w, G, Q, hQ => by
    simp only [comp, Option.map_eq_some_iff] at hc
    obtain ⟨p, hp, hc⟩ := hc
    cases hc
    simp only [exec, Option.map_eq_some_iff] at h
    obtain ⟨⟨e1, fr1, σ1⟩, h1, h⟩ := h
    refine wp_block (exec_sound hcf hm b _ out p.2 p.1 hp _ _ _ _ _ h1 X a w G _ fun a' w' hp' => ?_)
    cases e1 with
    | normal => cases h; exact hQ a' w' hp'
    | ret => cases h; exact hQ a' w' hp'
    | exit i =>
      simp only at h
      simp only [Ex.real, Exit.inBlock]
      split at h
      · rename_i e; cases h; rw [if_pos e]; exact hQ a' w' hp'
      · rename_i e; cases h; rw [if_neg e]; exact hQ a' w' hp'
  | .loop b, exits, out, live, ac, hc, fr, σ, ex, fr', σ', h, X, a, w, G, Q, hQ => by
    simp only [comp, Option.bind_eq_some_iff, Option.map_eq_some_iff] at hc
    obtain ⟨p, hp, q, hq, r, hr, hc⟩ := hc
    cases hc
    simp only [exec, Option.map_eq_some_iff] at h
    obtain ⟨⟨e1, fr1, σ1⟩, h1, h⟩ := h
    cases h
    have G0 : Good w0 n X { σ with dirty := [] } (fr.keep q.2) a w := ⟨G.sim.dirty [], G.fr.keep _, G.size, G.defers, G.hid, G.lock⟩
    refine wp_loop_rounds m (iter_sound (τ0 := { σ with dirty := [] }) hcf rfl (G.sim.dirty []) G.hid G.lock (fun fr σ ex fr' σ' h => exec_sound hcf hm b exits q.2 r.2 r.1 hr fr σ ex fr' σ' h) m _ _ _ _ _ h1 X a w G0 (Ast.refl _) (Stp.refl _ _ _) Q fun a' w' ⟨X1, G1, s1⟩ => hQ a' w' ⟨X1, G1.dirty _, s1.dirty⟩)
  | .rangeFunc _ _ _ _, _, _, _, _, hc, _, _, _, _, _, _, _, _, _, _, _, _ => by simp [comp] at hc
  | .scope _, _, _, _, _, hc, _, _, _, _, _, _, _, _, _, _, _, _ => by simp [comp] at hc
  | .label _, _, _, _, _, hc, _, _, _, _, _, _, _, _, _, _, _, _ => by simp [comp] at hc
  | .goto _, _, _, _, _, hc, _, _, _, _, _, _, _, _, _, _, _, _ => by simp [comp] at hc
  | .refuse _, _, _, _, _, hc, _, _, _, _, _, _, _, _, _, _, _, _ => by simp [comp] at hc
end
end AM
end Go.Proofs.Ytfefeikkjebfoaa
