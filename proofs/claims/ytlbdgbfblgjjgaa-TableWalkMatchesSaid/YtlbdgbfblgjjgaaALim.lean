/-
  THE ABSTRACT MACHINE's RUNS: what a translated function does in the abstract, the program's function does. Conditions: the functions are the translated ones.
  FROM A RUN OF THE ABSTRACT MACHINE TO THE PROGRAM's CALL: each function of a translated set, and a call from a state without memory of its own. Conditions: the functions are the translated ones.
  THE ABSTRACT MACHINE WITHOUT FUEL: what some fuel finds, as a function that obeys equations. Conditions: none.
-/
import Derived.Test.YtlbdgbfblgjjgaaAMoves
import Derived.LoopN
set_option linter.all false
section
namespace Go.Proofs.Ytlbdgbfblgjjgaa
namespace AM
open Go Go.RowKit

section
variable {P : Program} {w0 : World}

def Ex.real : Ex → Exit
  | .normal => .normal
  | .exit id => .exit id
  | .ret => .ret

theorem FrR.keep {X : Emb} {fr : Fr} {a : Act} (h : FrR X fr a) : ∀ l : List Nat, FrR X (fr.keep l) a
  | [] => fun t v ht => by simp [Fr.keep, Fr.get] at ht
  | k :: l => fun t v ht => by
    simp only [Fr.keep] at ht
    split at ht
    · rename_i q hq
      simp only [Fr.get] at ht
      split at ht
      · rename_i e; subst e; cases ht; exact h k v hq
      · exact FrR.keep h l t v ht
    · exact FrR.keep h l t v ht
theorem frget_zip : ∀ {ks : List Nat} {vs : List Value} {t : Nat} {v : Value}, Fr.get (ks.zip vs) t = some v → ∃ i : Nat, ks[i]? = some t ∧ vs[i]? = some v ∧ ∀ j : Nat, j < i → ks[j]? ≠ some t
  | [], _, _, _, h => by simp [Fr.get] at h
  | k :: ks, [], _, _, h => by simp [Fr.get] at h
  | k :: ks, u :: vs, t, v, h => by
    simp only [List.zip_cons_cons, Fr.get] at h
    split at h
    · rename_i e
      subst e
      cases h
      exact ⟨0, rfl, rfl, fun j hj => by omega⟩
    · rename_i hne
      obtain ⟨i, h1, h2, h3⟩ := frget_zip h
      refine ⟨i + 1, h1, h2, fun j hj => ?_⟩
      cases j with
      | zero => simpa using hne
      | succ j => exact h3 j (by omega)
theorem frget_idx : ∀ {fr : Fr} {i t : Nat}, (fr.map (·.1))[i]? = some t → (∀ j : Nat, j < i → (fr.map (·.1))[j]? ≠ some t) → ∃ v, (fr.map (·.2))[i]? = some v ∧ fr.get t = some v
  | [], i, t, h, _ => by simp at h
  | (k, u) :: fr, 0, t, h, _ => by
    simp at h
    subst h
    exact ⟨u, rfl, by simp [Fr.get]⟩
  | (k, u) :: fr, i + 1, t, h, hj => by
    obtain ⟨v, h1, h2⟩ := frget_idx (fr := fr) (i := i) (t := t) (by simpa using h) (fun j hj' => by have := hj (j + 1) (by omega); simpa using this)
    refine ⟨v, by simpa using h1, ?_⟩
    have hk : ¬ k = t := by have := hj 0 (by omega); simpa using this
    simp [Fr.get, hk, h2]
theorem relC_refs {X : Emb} {q u : Value} (h : relC X q u) : ∀ r ∈ refsC q, ∃ bx, X r = some bx := by
  unfold relC at h
  split at h
  · intro r hr
    simp only [refsC, List.mem_singleton] at hr
    subst hr
    obtain ⟨ra, _, bx, h1, _⟩ := h
    exact ⟨bx, h1⟩
  · intro r hr
    simp only [refsC, List.mem_singleton] at hr
    subst hr
    obtain ⟨ra, c, _, _, _, bx, h1, _⟩ := h
    exact ⟨bx, h1⟩
  · intro r hr
    rw [refs_sc' h.1] at hr
    cases hr
/-- What is collected. -/
theorem gc_step {X0 X : Emb} {τ0 σ σ' : St} {vs vs' : List Value} {w0 v w : World} (S : Sim w0 X σ w) (h0 : Ast τ0 σ) (hd : τ0.dirty = []) (hst : Stp X0 τ0 v X w) (hw : Sim w0 X0 τ0 v) (hh : ∀ t ∈ τ0.hid, t < τ0.heap.length) (hl : τ0.lock ≤ τ0.heap.length)
    (hg : gc τ0.heap.length vs σ = some (vs', σ')) : ∃ X', Gcd w0 τ0.heap.length X σ w vs vs' σ' X' ∧ Stp X0 τ0 v X' w ∧ Ast τ0 σ' := by
  have hdom := hw.dom
  have hD : ∀ id bx, id < τ0.heap.length → X id = some bx → id ∉ σ.hid → id ∉ σ.dirty → ∀ r ∈ refsAt σ.heap id, r < τ0.heap.length := by
    intro id bx hi hx hn hnd r hr
    have hr0 := h0.refs id hi hnd r hr
    obtain ⟨bx0, hx0⟩ : ∃ bx0, X0 id = some bx0 := by
      rcases hst.back id bx hx with ⟨bx0, h1, _⟩ | ⟨_, _, _, h4⟩
      · exact ⟨bx0, h1⟩
      · omega
    unfold refsAt at hr0
    cases hb : τ0.heap[id]? with
    | none => rw [hb] at hr0; cases hr0
    | some b =>
      rw [hb] at hr0
      cases b with
      | map es => simp [refsB] at hr0
      | cells g pl cs =>
        obtain ⟨_, _, _, _, c5, _⟩ := hw.cell id bx0 g pl cs hx0 (by rw [← h0.hid]; exact hn) hb
        cases pl with
        | true => simp [refsB] at hr0
        | false =>
          simp only [refsB, List.mem_flatMap] at hr0
          obtain ⟨q, hq, hr0⟩ := hr0
          obtain ⟨j, hj⟩ := List.mem_iff_getElem?.1 hq
          obtain ⟨u, _, hrel⟩ := c5 j q hj
          obtain ⟨bx1, h1⟩ := relC_refs hrel r hr0
          exact hdom _ _ h1
  obtain ⟨X', gd⟩ := gc_sound S (fun t ht => hh t (by rw [← h0.hid]; exact ht)) (by rw [h0.lock]; exact hl) hD hg
  refine ⟨X', gd, ⟨hst.size, hst.os, hst.tape, hst.output, hst.frame, ?_, ?_, ?_⟩, h0.gc hd hg⟩
  · intro id bx hx
    obtain ⟨bx', h1, h2⟩ := hst.evo id bx hx
    exact ⟨bx', by rw [gd.low id (hdom id bx hx)]; exact h1, h2⟩
  · intro id bx bx' hx hx'
    rw [gd.low id (hdom id bx hx)] at hx'
    exact hst.same id bx bx' hx hx'
  · intro id bx' hx'
    by_cases hi : id < τ0.heap.length
    · rw [gd.low id hi] at hx'
      exact hst.back id bx' hx'
    · obtain ⟨id0, k1, k2⟩ := gd.high id bx' (by omega) hx'
      have hnone : X0 id = none := by
        cases hx0 : X0 id with
        | none => rfl
        | some bx => exact absurd (hdom id bx hx0) hi
      rcases hst.back id0 bx' k2 with ⟨bx, h1, _⟩ | ⟨_, h2, h3, _⟩
      · exact absurd (hdom id0 bx h1) (by omega)
      · exact .inr ⟨hnone, h2, h3, by omega⟩
/-- What is collected between two rounds. -/
theorem gcFr_sound {n : Nat} {X0 X : Emb} {τ0 σ σ' : St} {fr fr' : Fr} {a : Act} {w0 v w : World} (G : Good w0 n X σ fr a w) (h0 : Ast τ0 σ) (hd : τ0.dirty = []) (hst : Stp X0 τ0 v X w) (hw : Sim w0 X0 τ0 v) (hh : ∀ t ∈ τ0.hid, t < τ0.heap.length) (hl : τ0.lock ≤ τ0.heap.length)
    (h : gcFr τ0.heap.length fr σ = some (fr', σ')) : Ast τ0 σ' ∧ ∃ X', Good w0 n X' σ' fr' a w ∧ Stp X0 τ0 v X' w := by
  obtain ⟨vs, hg, rfl⟩ := gcFr_abs h
  obtain ⟨X', gd, hst', hast⟩ := gc_step G.sim h0 hd hst hw hh hl hg
  refine ⟨hast, X', ⟨gd.sim, ?_, G.size, G.defers, fun t ht => Nat.lt_of_lt_of_le (hh t (by rw [← h0.hid, ← gd.hid]; exact ht)) hast.len, by rw [hast.lock]; exact Nat.le_trans hl hast.len⟩, hst'⟩
  intro t q ht
  obtain ⟨i, h1, h2, h3⟩ := frget_zip ht
  obtain ⟨p, p1, p2⟩ := frget_idx h1 h3
  exact gd.vals.2 i p q _ p1 h2 (G.fr t p p2)

theorem Sim.dirty {X : Emb} {σ : St} {w : World} (S : Sim w0 X σ w) (d : List Nat) : Sim w0 X { σ with dirty := d } w := ⟨S.bel, S.dom, S.place, S.cell, S.inj, S.lock, S.zero⟩
theorem Good.dirty {n : Nat} {X : Emb} {σ : St} {fr : Fr} {a : Act} {w : World} (G : Good w0 n X σ fr a w) (d : List Nat) : Good w0 n X { σ with dirty := d } fr a w := ⟨G.sim.dirty d, G.fr, G.size, G.defers, G.hid, G.lock⟩
theorem Stp.dirty {X X' : Emb} {σ : St} {w w' : World} {d : List Nat} (h : Stp X { σ with dirty := d } w X' w') : Stp X σ w X' w' := ⟨h.size, h.os, h.tape, h.output, h.frame, h.evo, h.same, h.back⟩
theorem Stp.dirty' {X X' : Emb} {σ : St} {w w' : World} {d : List Nat} (h : Stp X σ w X' w') : Stp X { σ with dirty := d } w X' w' := ⟨h.size, h.os, h.tape, h.output, h.frame, h.evo, h.same, h.back⟩

/-- A loop's rounds. -/
theorem iter_sound {callf : CallF} (hcf : CallOk P w0 callf) {n m : Nat} {b : Code} {ac : ACode} {live : List Nat} {X0 : Emb} {τ0 : St} {v : World} (hd : τ0.dirty = []) (hw : Sim w0 X0 τ0 v) (hh : ∀ t ∈ τ0.hid, t < τ0.heap.length) (hl : τ0.lock ≤ τ0.heap.length)
    (hb : ∀ fr σ ex fr' σ', exec callf m ac fr σ = some (ex, fr', σ') → ∀ X a w, Good w0 n X σ fr a w → ∀ Q : Exit → Act → World → Prop, (∀ a' w', Post w0 n X σ w fr' σ' a' w' → Q ex.real a' w') → b.wp P Q a w) :
    ∀ (k : Nat) (fr : Fr) (σ : St) (ex : Ex) (fr' : Fr) (σ' : St), iter (exec callf m ac) live τ0.heap.length k fr σ = some (ex, fr', σ') → ∀ X a w, Good w0 n X σ fr a w → Ast τ0 σ → Stp X0 τ0 v X w →
      ∀ Q : Exit → Act → World → Prop, (∀ a' w', Post w0 n X0 τ0 v fr' σ' a' w' → Q ex.real a' w') → Code.rounds P b Q k a w
  | 0, fr, σ, ex, fr', σ', h, _, _, _, _, _, _, _, _ => by simp [iter] at h
  | k + 1, fr, σ, ex, fr', σ', h, X, a, w, G, h0, hst, Q, hQ => by
    simp only [iter, Option.bind_eq_some_iff] at h
    obtain ⟨⟨e1, fr1, σ1⟩, h1, h⟩ := h
    rw [rounds_succ]
    have a1 := exec_ast hcf.1 m ac _ _ _ _ _ G.lock h1
    refine hb _ _ _ _ _ h1 X a w G _ fun a' w' ⟨X1, G1, s1⟩ => ?_
    have hst1 := hst.trans h0 s1
    cases e1 with
    | normal =>
      simp only [Option.bind_eq_some_iff] at h
      obtain ⟨⟨fr2, σ2⟩, h2, h⟩ := h
      have G1' : Good w0 n X1 σ1 (fr1.keep live) a' w' := ⟨G1.sim, G1.fr.keep live, G1.size, G1.defers, G1.hid, G1.lock⟩
      obtain ⟨ha2, X2, G2, s2⟩ := gcFr_sound G1' (h0.trans a1) hd hst1 hw hh hl h2
      exact iter_sound hcf hd hw hh hl hb k _ _ _ _ _ h X2 a' w' G2 ha2 s2 Q hQ
    | exit id => cases h; exact hQ a' w' ⟨X1, G1, hst1⟩
    | ret => cases h; exact hQ a' w' ⟨X1, G1, hst1⟩

theorem exec_sound {callf : CallF} (hcf : CallOk P w0 callf) (hm : P.follows .mixedOrders = true) {n m : Nat} {fin : List Nat} : ∀ (c : Code) (exits : List (Nat × List Nat)) (out live : List Nat) (ac : ACode), comp P n exits fin c out = some (ac, live) → ∀ fr σ ex fr' σ', exec callf m ac fr σ = some (ex, fr', σ') →
    ∀ X a w, Good w0 n X σ fr a w → ∀ Q : Exit → Act → World → Prop, (∀ a' w', Post w0 n X σ w fr' σ' a' w' → Q ex.real a' w') → c.wp P Q a w
  | .skip, exits, out, live, ac, hc, fr, σ, ex, fr', σ', h, X, a, w, G, Q, hQ => by
    simp only [comp] at hc; cases hc
    simp only [exec] at h; cases h
    exact wp_skip (hQ a w ⟨X, G, Stp.refl _ _ _⟩)
  | .ret, exits, out, live, ac, hc, fr, σ, ex, fr', σ', h, X, a, w, G, Q, hQ => by
    simp only [comp] at hc; cases hc
    simp only [exec] at h; cases h
    exact wp_ret (hQ a w ⟨X, G, Stp.refl _ _ _⟩)
  | .exit id, exits, out, live, ac, hc, fr, σ, ex, fr', σ', h, X, a, w, G, Q, hQ => by
    simp only [comp] at hc
    split at hc
    · cases hc
      simp only [exec] at h; cases h
      exact wp_exit (hQ a w ⟨X, G, Stp.refl _ _ _⟩)
    · cases hc
  | .region id ops draw, exits, out, live, ac, hc, fr, σ, ex, fr', σ', h, X, a, w, G, Q, hQ => by
    simp only [comp, Option.bind_eq_some_iff] at hc
    obtain ⟨as, has, hc⟩ := hc
    cases draw with
    | true =>
      simp only [if_true] at hc
      split at hc
      · rename_i hst
        split at hc
        · cases hc
          simp only [exec, Option.map_eq_some_iff] at h
          obtain ⟨⟨fr1, σ1⟩, h1, h⟩ := h
          cases h
          exact mops_sound hm hst has h1 G hQ
        · cases hc
          simp only [exec, Option.map_eq_some_iff] at h
          obtain ⟨⟨fr1, σ1⟩, h1, h⟩ := h
          cases h
          exact dops_sound hcf hm hst has h1 G hQ
      · cases hc
    | false =>
      simp only [Bool.false_eq_true, if_false] at hc
      cases hc
      simp only [exec, Option.map_eq_some_iff] at h
      obtain ⟨⟨fr1, σ1⟩, h1, h⟩ := h
      cases h
      exact wp_region_list (aops_sound hcf ops.toList as has _ _ _ _ h1 X a w G hQ)
  | .seq x y, exits, out, live, ac, hc, fr, σ, ex, fr', σ', h, X, a, w, G, Q, hQ => by
    simp only [comp, Option.bind_eq_some_iff, Option.map_eq_some_iff] at hc
    obtain ⟨q, hq, p, hp, hc⟩ := hc
    cases hc
    simp only [exec, Option.bind_eq_some_iff] at h
    obtain ⟨⟨e1, fr1, σ1⟩, h1, h⟩ := h
    have a1 := exec_ast hcf.1 m _ _ _ _ _ _ G.lock h1
    refine wp_seq (exec_sound hcf hm x exits q.2 p.2 p.1 hp _ _ _ _ _ h1 X a w G _ fun a' w' ⟨X1, G1, s1⟩ => ?_)
    cases e1 with
    | normal => exact exec_sound hcf hm y exits out q.2 q.1 hq _ _ _ _ _ h X1 a' w' G1 Q fun a2 w2 ⟨X2, G2, s2⟩ => hQ a2 w2 ⟨X2, G2, s1.trans a1 s2⟩
    | exit id => cases h; exact hQ a' w' ⟨X1, G1, s1⟩
    | ret => cases h; exact hQ a' w' ⟨X1, G1, s1⟩
  | .cond c x y, exits, out, live, ac, hc, fr, σ, ex, fr', σ', h, X, a, w, G, Q, hQ => by
    simp only [comp] at hc
    split at hc
    · rename_i hk
      simp only [Option.bind_eq_some_iff, Option.map_eq_some_iff] at hc
      obtain ⟨p, hp, q, hq, hc⟩ := hc
      cases hc
      simp only [exec] at h
      split at h
      · rename_i e
        exact wp_cond_true (relV_bool (G.fr.ev hk e)) (exec_sound hcf hm x exits out p.2 p.1 hp _ _ _ _ _ h X a w G Q hQ)
      · rename_i e
        exact wp_cond_false (relV_bool (G.fr.ev hk e)) (exec_sound hcf hm y exits out q.2 q.1 hq _ _ _ _ _ h X a w G Q hQ)
      · cases h
    · cases hc
  | .block id b, exits, out, live, ac, hc, fr, σ, ex, fr', σ', h, X, a, w, G, Q, hQ => by
    simp only [comp, Option.map_eq_some_iff] at hc
    obtain ⟨p, hp, hc⟩ := hc
    cases hc
    simp only [exec, Option.map_eq_some_iff] at h
    obtain ⟨⟨e1, fr1, σ1⟩, h1, h⟩ := h
    refine wp_block (exec_sound hcf hm b _ out p.2 p.1 hp _ _ _ _ _ h1 X a w G _ fun a' w' hp' => ?_)
    cases e1 with
    | normal => cases h; exact hQ a' w' hp'
    | ret => cases h; exact hQ a' w' hp'
    | exit i =>
      simp only at h
      simp only [Ex.real, Exit.inBlock]
      split at h
      · rename_i e; cases h; rw [if_pos e]; exact hQ a' w' hp'
      · rename_i e; cases h; rw [if_neg e]; exact hQ a' w' hp'
  | .loop b, exits, out, live, ac, hc, fr, σ, ex, fr', σ', h, X, a, w, G, Q, hQ => by
    simp only [comp, Option.bind_eq_some_iff, Option.map_eq_some_iff] at hc
    obtain ⟨p, hp, q, hq, r, hr, hc⟩ := hc
    cases hc
    simp only [exec, Option.map_eq_some_iff] at h
    obtain ⟨⟨e1, fr1, σ1⟩, h1, h⟩ := h
    cases h
    have G0 : Good w0 n X { σ with dirty := [] } (fr.keep q.2) a w := ⟨G.sim.dirty [], G.fr.keep _, G.size, G.defers, G.hid, G.lock⟩
    refine wp_loop_rounds m (iter_sound (τ0 := { σ with dirty := [] }) hcf rfl (G.sim.dirty []) G.hid G.lock (fun fr σ ex fr' σ' h => exec_sound hcf hm b exits q.2 r.2 r.1 hr fr σ ex fr' σ' h) m _ _ _ _ _ h1 X a w G0 (Ast.refl _) (Stp.refl _ _ _) Q fun a' w' ⟨X1, G1, s1⟩ => hQ a' w' ⟨X1, G1.dirty _, s1.dirty⟩)
  | .rangeFunc _ _ _ _, _, _, _, _, hc, _, _, _, _, _, _, _, _, _, _, _, _ => by simp [comp] at hc
  | .scope _, _, _, _, _, hc, _, _, _, _, _, _, _, _, _, _, _, _ => by simp [comp] at hc
  | .label _, _, _, _, _, hc, _, _, _, _, _, _, _, _, _, _, _, _ => by simp [comp] at hc
  | .goto _, _, _, _, _, hc, _, _, _, _, _, _, _, _, _, _, _, _ => by simp [comp] at hc
  | .refuse _, _, _, _, _, hc, _, _, _, _, _, _, _, _, _, _, _, _ => by simp [comp] at hc
end
end AM
end Go.Proofs.Ytlbdgbfblgjjgaa
end
section
namespace Go.Proofs.Ytlbdgbfblgjjgaa
namespace AM
open Go Go.RowKit

section
variable {P : Program} {w0 : World}

theorem resv_sound {X : Emb} {σ : St} {fr : Fr} {a : Act} {w : World} (S : Sim w0 X σ w) (hf : FrR X fr a) : ∀ (l : List ResultVar) (rs : List ARes) (vs : List Value), compRes P l = some rs → resvs fr σ rs = some vs →
    ∃ us : List Value, (l.mapM (fun | .tmp t => pure (a.tmps.getD t undef) | .cell c t => do loadVar t (← asAddr (a.tmps.getD c undef)) : ResultVar → Sem Value)).run P w = .ok us w ∧ rel2 (relV X) vs us
  | [], rs, vs, hc, h => by
    simp only [compRes, Option.some.injEq] at hc
    subst hc
    simp only [resvs, Option.some.injEq] at h
    subst h
    exact ⟨[], by simp, rel2.nil⟩
  | .tmp t :: l, rs, vs, hc, h => by
    simp only [compRes, Option.map_eq_some_iff] at hc
    obtain ⟨rs', h1, rfl⟩ := hc
    simp only [resvs, Option.bind_eq_some_iff, Option.map_eq_some_iff] at h
    obtain ⟨v, hv, vs', hvs, rfl⟩ := h
    obtain ⟨us, e1, e2⟩ := resv_sound S hf l rs' vs' h1 hvs
    simp only [resv] at hv
    refine ⟨a.tmps.getD t undef :: us, ?_, e2.cons (hf t v hv)⟩
    rw [List.mapM_cons]
    simp only [Sem.run_bind, Sem.run_pure, Result.andThen_ok, e1]
  | .cell c t :: l, rs, vs, hc, h => by
    simp only [compRes, Option.bind_eq_some_iff, Option.map_eq_some_iff] at hc
    obtain ⟨n, hn, rs', h1, rfl⟩ := hc
    simp only [resvs, Option.bind_eq_some_iff, Option.map_eq_some_iff] at h
    obtain ⟨v, hv, vs', hvs, rfl⟩ := h
    obtain ⟨us, e1, e2⟩ := resv_sound S hf l rs' vs' h1 hvs
    simp only [resv] at hv
    split at hv
    · rename_i ad e
      simp only [Option.bind_eq_some_iff] at hv
      obtain ⟨⟨pl, cs⟩, hb, hv⟩ := hv
      obtain ⟨ra, q1, q2⟩ := relV_ptr (hf c _ e)
      obtain ⟨u, hu, hr⟩ := run_loadVar_rel (P := P) hn S hb q2 hv
      refine ⟨u :: us, ?_, e2.cons (relV_of_relF hr)⟩
      have q3 : (do loadVar t (← asAddr (a.tmps.getD c undef)) : Sem Value).run P w = .ok u w := by rw [q1]; simp [asAddr, hu]
      rw [List.mapM_cons, Sem.run_bind]
      erw [q3]
      simp only [Result.andThen_ok]
      rw [Sem.run_bind, e1]
      rfl
    · cases hv
theorem relF_of_relV {X : Emb} {v u : Value} (h : relV X v u) (hf : flatv v = true) : relF X v u := by
  cases v <;> first
    | exact h
    | simp [flatv] at hf
theorem res_sound {X : Emb} {vs : List Value} {us : List Value} {v : Value} (h : rel2 (relV X) vs us) (hr : resOf vs = some v) : relV X v (if h : us.toArray.size = 1 then us.toArray[0] else .tuple us.toArray) := by
  unfold resOf at hr
  split at hr
  · rename_i q
    cases hr
    obtain ⟨u, m, rfl, h1, h2⟩ := h.head
    have := h2.nil'
    subst this
    simpa using h1
  · rename_i hne
    split at hr
    · rename_i hall
      cases hr
      have hl := h.1
      have hn : ¬ us.toArray.size = 1 := by
        intro e
        simp at e
        have : vs.length = 1 := by omega
        match vs, this with
        | [q], _ => exact hne q rfl
      rw [dif_neg hn]
      exact ⟨us.toArray, rfl, by simpa using h.mono fun v hv u hr => relF_of_relV hr (List.all_eq_true.1 hall v hv)⟩
    · cases hr
theorem argFr_get : ∀ (l : List Value) (i t : Nat) (v : Value), Fr.get (argFr i l) t = some v → i ≤ t ∧ l[t - i]? = some v
  | [], i, t, v, h => by simp [argFr, Fr.get] at h
  | x :: l, i, t, v, h => by
    simp only [argFr, Fr.get] at h
    split at h
    · rename_i e; subst e; cases h; simp
    · rename_i e
      obtain ⟨h1, h2⟩ := argFr_get l (i + 1) t v h
      refine ⟨by omega, ?_⟩
      rw [show t - i = (t - (i + 1)) + 1 by omega]
      simpa using h2
theorem body_sound {callf : CallF} (hcf : CallOk P w0 callf) (hm : P.follows .mixedOrders = true) {m : Nat} {fid : FuncId} {f : Func} {fn : AFn} (hf : P.funcs[fid]? = some f) (hc : compFn P f = some fn) {args : List Value} {σ σ' : St} {v : Value} (h : body callf m fn args σ = some (v, σ'))
    {X : Emb} {w : World} {rargs : Array Value} (S : Sim w0 X σ w) (hh : ∀ t ∈ σ.hid, t < σ.heap.length) (hl : σ.lock ≤ σ.heap.length) (hr : rel2 (relV X) args rargs.toList) :
    Calls P fid rargs w fun e w' => ∃ u X', e = .returned u ∧ relV X' v u ∧ Sim w0 X' σ' w' ∧ Stp X σ w X' w' := by
  simp only [compFn, Option.bind_eq_some_iff, Option.map_eq_some_iff] at hc
  obtain ⟨rs, hrs, c, hbody, ⟨ac, live⟩, hcomp, rfl⟩ := hc
  simp only [body, Option.bind_eq_some_iff] at h
  obtain ⟨⟨e1, fr1, σ1⟩, h1, h⟩ := h
  have G : Good w0 f.ntmps X { σ with dirty := [] } (argFr 0 args) { tmps := rargs ++ Array.replicate (f.ntmps - rargs.size) undef, defers := [] } w := by
    refine ⟨S.dirty [], fun t q ht => ?_, by simp; omega, rfl, hh, hl⟩
    obtain ⟨_, g2⟩ := argFr_get args 0 t q ht
    rw [Nat.sub_zero] at g2
    obtain ⟨u, hu, hrel⟩ := hr.get g2
    have hlt : t < rargs.size := by have := (List.getElem?_eq_some_iff.1 hu).1; simpa using this
    have : (rargs ++ Array.replicate (f.ntmps - rargs.size) undef).getD t undef = u := by
      rw [Array.getD_eq_getD_getElem?, Array.getElem?_append_left hlt, ← Array.getElem?_toList, hu]
      rfl
    rw [this]
    exact hrel
  have a1 := exec_ast hcf.1 m ac _ { σ with dirty := [] } _ _ _ hl h1
  refine calls_of_wp hf hbody (exec_sound hcf hm c _ _ live ac hcomp _ _ _ _ _ h1 X _ w G _ fun a' w' ⟨X1, G1, s1⟩ => ?_)
  have fin : (resvs fr1 σ1 rs).bind (fun vs => (resOf vs).bind fun u => (gc σ.heap.length [u] σ1).bind fun q => match q.1 with
      | [v] => some (v, { q.2 with dirty := joinDirty σ.dirty q.2.dirty })
      | _ => none) = some (v, σ') → a'.defers = [] ∧ ∃ v1, (results f a'.tmps).run P w' = .ok v1 w' ∧ ∃ u X', (Ending.returned v1) = .returned u ∧ relV X' v u ∧ Sim w0 X' σ' w' ∧ Stp X σ w X' w' := by
    intro h
    simp only [Option.bind_eq_some_iff] at h
    obtain ⟨vs, hvs, u, hu, ⟨q, σ2⟩, hg, h⟩ := h
    split at h
    · rename_i v' hq
      simp only at hq
      subst hq
      cases h
      obtain ⟨us, r1, r2⟩ := resv_sound (P := P) G1.sim G1.fr f.results.toList rs vs hrs hvs
      obtain ⟨X2, gd, s2, _⟩ := gc_step (τ0 := { σ with dirty := [] }) G1.sim a1 rfl s1 (S.dirty []) hh hl hg
      refine ⟨G1.defers, if h : us.toArray.size = 1 then us.toArray[0] else .tuple us.toArray, ?_, _, X2, rfl, gd.vals.2 0 u v _ rfl rfl (res_sound r2 hu), gd.sim.dirty _, s2.dirty⟩
      simp only [results, Sem.run_bind]
      rw [Array.mapM_eq_mapM_toList, map_eq_pure_bind, Sem.run_bind]
      erw [r1]
      simp only [Result.andThen_ok, Sem.run_pure]
    · cases h
  cases e1 with
  | exit id => cases h
  | normal => exact fin h
  | ret => exact fin h

/-- The translated functions are the program's. -/
def EnvOk (P : Program) (env : Env) : Prop := ∀ i fn, env.fn i = some fn → ∃ f, P.funcs[i]? = some f ∧ compFn P f = some fn ∧ f.name ≠ "runtime.NumGoroutine"
theorem run_sound {env : Env} (he : EnvOk P env) (hm : P.follows .mixedOrders = true) : ∀ n, CallOk P w0 (run env n)
  | 0 => ⟨run_ast env 0, fun g args σ v σ' h => by simp [run] at h⟩
  | n + 1 => ⟨run_ast env (n + 1), fun g args σ v σ' h => by
    cases g with
    | func f =>
      simp only [run, Option.bind_eq_some_iff] at h
      obtain ⟨fn, hfn, h⟩ := h
      obtain ⟨f', h1, h2, h3⟩ := he f fn hfn
      have hb : f'.body.isSome = true := by
        simp only [compFn, Option.bind_eq_some_iff] at h2
        obtain ⟨rs, _, c, hc, _⟩ := h2
        rw [hc]; rfl
      exact ⟨f, rfl, ⟨f', h1, h3, hb⟩, fun X w rargs S hh hl hr => body_sound (run_sound he hm n) hm h1 h2 h S hh hl hr⟩
    | _ => simp [run] at h⟩
/-- A call without arguments that is run to its end. -/
theorem run_closed {env : Env} (he : EnvOk P env) (hm : P.follows .mixedOrders = true) {n f : Nat} {b : Bool} {σ' : St} (h : run env n (.func f) [] ⟨[], 0, [], []⟩ = some (.bool b, σ')) (w : World) :
    Calls P f #[] w fun e w' => e = .returned (.bool b) ∧ Below w.heap.size w w' := by
  obtain ⟨f', e, _, hc⟩ := (run_sound (w0 := w) he hm n).2 _ _ _ _ _ h
  cases e
  have S : Sim w (fun _ => none) ⟨[], 0, [], []⟩ w := ⟨Below.refl _ _, fun id bx h => by (cases h), fun id bx h => by (cases h), fun id bx g pl cs h => by (cases h), fun i j bi bj h => by (cases h), fun id bx h => by (cases h), fun id bx h => by (cases h)⟩
  refine (hc _ w #[] S (by simp) (by simp) rel2.nil).mono fun e w' ⟨u, X', h1, h2, h3, h4⟩ => ?_
  rw [relV_bool h2] at h1
  exact ⟨h1, h3.bel⟩
def isTrue : Option (Value × St) → Bool
  | some (.bool true, _) => true
  | _ => false
theorem isTrue_eq {r : Option (Value × St)} (h : isTrue r = true) : ∃ σ', r = some (.bool true, σ') := by
  unfold isTrue at h
  split at h
  · exact ⟨_, rfl⟩
  · cases h
/-- A call without arguments that answers true, as the kernel finds by running it. -/
theorem closed_true {env : Env} (he : EnvOk P env) (hm : P.follows .mixedOrders = true) {n f : Nat} (h : isTrue (run env n (.func f) [] ⟨[], 0, [], []⟩) = true) (w : World) :
    Calls P f #[] w fun e w' => e = .returned (.bool true) ∧ Below w.heap.size w w' := by
  obtain ⟨σ', h'⟩ := isTrue_eq h
  exact run_closed he hm h' w
end
end AM
end Go.Proofs.Ytlbdgbfblgjjgaa
end
section
namespace Go.Proofs.Ytlbdgbfblgjjgaa
namespace AM
open Go Go.RowKit

/-! ### Limits of growing answers -/
def Grow {α : Type} (f : Nat → Option α) : Prop := ∀ n r, f n = some r → f (n + 1) = some r
theorem Grow.le {α : Type} {f : Nat → Option α} (h : Grow f) {n m : Nat} {r : α} (hn : f n = some r) (hm : n ≤ m) : f m = some r := by
  induction hm with
  | refl => exact hn
  | step _ ih => exact h _ _ ih
open Classical in
noncomputable def lim {α : Type} (f : Nat → Option α) : Option α := if h : ∃ n r, f n = some r then some (Classical.choose (Classical.choose_spec h)) else none
theorem lim_some {α : Type} {f : Nat → Option α} (h : Grow f) {r : α} : lim f = some r ↔ ∃ n, f n = some r := by
  unfold lim
  constructor
  · intro e
    split at e
    · rename_i hx
      cases e
      exact ⟨_, Classical.choose_spec (Classical.choose_spec hx)⟩
    · cases e
  · rintro ⟨n, e⟩
    have hx : ∃ n r, f n = some r := ⟨n, r, e⟩
    rw [dif_pos hx]
    have h1 := Classical.choose_spec (Classical.choose_spec hx)
    have a1 := h.le e (Nat.le_max_left n (Classical.choose hx))
    have a2 := h.le h1 (Nat.le_max_right n (Classical.choose hx))
    rw [a1] at a2
    exact a2.symm
theorem lim_ext {α : Type} {f g : Nat → Option α} (hf : Grow f) (hg : Grow g) (h : ∀ r, (∃ n, f n = some r) ↔ ∃ n, g n = some r) : lim f = lim g := by
  cases e : lim f with
  | some r => exact ((lim_some hg).2 ((h r).1 ((lim_some hf).1 e))).symm
  | none =>
    cases e' : lim g with
    | none => rfl
    | some r => rw [(lim_some hf).2 ((h r).2 ((lim_some hg).1 e'))] at e; cases e
theorem Grow.const {α : Type} (x : Option α) : Grow fun _ => x := fun _ _ h => h
theorem lim_const {α : Type} (x : Option α) : lim (fun _ : Nat => x) = x := by
  cases x with
  | some r => exact (lim_some (Grow.const _)).2 ⟨0, rfl⟩
  | none =>
    cases e : lim (fun _ : Nat => (none : Option α)) with
    | none => rfl
    | some r => obtain ⟨_, h⟩ := (lim_some (Grow.const _)).1 e; cases h
theorem Grow.bind {α β : Type} {f : Nat → Option α} {g : Nat → α → Option β} (hf : Grow f) (hg : ∀ a, Grow fun n => g n a) : Grow fun n => (f n).bind (g n) := fun n r h => by
  simp only [Option.bind_eq_some_iff] at h ⊢
  obtain ⟨a, h1, h2⟩ := h
  exact ⟨a, hf n a h1, hg a n r h2⟩
theorem lim_bind {α β : Type} {f : Nat → Option α} {g : Nat → α → Option β} (hf : Grow f) (hg : ∀ a, Grow fun n => g n a) : lim (fun n => (f n).bind (g n)) = (lim f).bind fun a => lim fun n => g n a := by
  cases e : lim f with
  | none =>
    simp only [Option.bind_none]
    cases e' : lim (fun n => (f n).bind (g n)) with
    | none => rfl
    | some r =>
      obtain ⟨n, h⟩ := (lim_some (hf.bind hg)).1 e'
      simp only [Option.bind_eq_some_iff] at h
      obtain ⟨a, h1, _⟩ := h
      rw [(lim_some hf).2 ⟨n, h1⟩] at e; cases e
  | some a =>
    simp only [Option.bind_some]
    obtain ⟨n, hn⟩ := (lim_some hf).1 e
    refine lim_ext (hf.bind hg) (hg a) fun r => ⟨fun ⟨m, h⟩ => ?_, fun ⟨m, h⟩ => ⟨max n m, ?_⟩⟩
    · simp only [Option.bind_eq_some_iff] at h
      obtain ⟨b, h1, h2⟩ := h
      have h3 := (lim_some hf).2 ⟨m, h1⟩
      rw [e] at h3
      cases h3
      exact ⟨m, h2⟩
    · simp only [Option.bind_eq_some_iff]
      exact ⟨a, hf.le hn (Nat.le_max_left _ _), (hg a).le h (Nat.le_max_right _ _)⟩
theorem lim_bindc {α β : Type} {f : Nat → Option α} (g : α → Option β) (hf : Grow f) : lim (fun n => (f n).bind g) = (lim f).bind g := by
  rw [lim_bind (g := fun _ => g) hf fun a => Grow.const _]
  exact congrArg _ (funext fun a => lim_const _)
theorem lim_map {α β : Type} {f : Nat → Option α} {g : α → β} (hf : Grow f) : lim (fun n => (f n).map g) = (lim f).map g := by
  have := lim_bind (g := fun _ a => some (g a)) hf fun a => Grow.const _
  simp only [lim_const] at this
  have e : ∀ x : Option α, x.map g = x.bind fun a => some (g a) := fun x => by cases x <;> rfl
  rw [e, ← this]
  congr 1
  funext n
  exact e _
theorem Grow.map {α β : Type} {f : Nat → Option α} {g : α → β} (hf : Grow f) : Grow fun n => (f n).map g := fun n r h => by
  simp only [Option.map_eq_some_iff] at h ⊢
  obtain ⟨a, h1, h2⟩ := h
  exact ⟨a, hf n a h1, h2⟩
theorem Grow.shift {α : Type} {f : Nat → Option α} (hf : Grow f) : Grow fun n => f (n + 1) := fun n r h => hf (n + 1) r h
theorem lim_shift {α : Type} {f : Nat → Option α} (hf : Grow f) : lim (fun n => f (n + 1)) = lim f :=
  lim_ext hf.shift hf fun r => ⟨fun ⟨n, h⟩ => ⟨n + 1, h⟩, fun ⟨n, h⟩ => ⟨n, hf n r h⟩⟩

/-! ### The machine grows -/
def GrowC (c : Nat → CallF) : Prop := ∀ g args σ, Grow fun n => c n g args σ
theorem aop_grow {c : Nat → CallF} (hc : GrowC c) (o : AOp) (fr : Fr) (σ : St) : Grow fun n => aop (c n) o fr σ := fun n r h => by
  cases o <;> first
    | exact h
    | skip
  case call f args =>
    simp only [aop] at h ⊢
    exact (Grow.bind (Grow.const _) fun vs => hc _ _ _) n r h
  case callv x args =>
    simp only [aop, Option.bind_eq_some_iff] at h ⊢
    obtain ⟨q, h1, vs, h2, h3⟩ := h
    refine ⟨q, h1, vs, h2, ?_⟩
    split at h3
    · exact hc _ _ _ n r h3
    · cases h3
theorem aops_grow {c : Nat → CallF} (hc : GrowC c) : ∀ (l : List AOper) (fr : Fr) (σ : St), Grow fun n => aops (c n) l fr σ
  | [], fr, σ => Grow.const _
  | o :: l, fr, σ => by
    simp only [aops]
    refine Grow.bind (Grow.const _) fun b => ?_
    cases b with
    | true => exact (aop_grow hc o.op fr σ).bind fun r => aops_grow hc l _ _
    | false => exact aops_grow hc l _ _
theorem dops_grow {c : Nat → CallF} (hc : GrowC c) : ∀ (l : List AOper) (born : List (Nat × Nat × Nat)) (j : Nat) (fr : Fr) (σ : St), Grow fun n => dops (c n) born j l fr σ
  | [], born, j, fr, σ => Grow.const _
  | o :: l, born, j, fr, σ => by
    simp only [dops]
    refine Grow.bind (Grow.const _) fun b => ?_
    cases b with
    | true => exact (aop_grow hc o.op fr _).bind fun r => dops_grow hc l _ _ _ _
    | false => exact dops_grow hc l _ _ _ _
theorem iter_grow {B : Nat → Fr → St → Option (Ex × Fr × St)} {live : List Nat} {base : Nat} (hB : ∀ fr σ, Grow fun n => B n fr σ) : ∀ (n : Nat) (m : Nat) (fr : Fr) (σ : St) r, iter (B m) live base n fr σ = some r → iter (B (m + 1)) live base (n + 1) fr σ = some r
  | 0, m, fr, σ, r, h => by simp [iter] at h
  | n + 1, m, fr, σ, r, h => by
    rw [iter] at h ⊢
    simp only [Option.bind_eq_some_iff] at h ⊢
    obtain ⟨⟨e, fr1, σ1⟩, h1, h2⟩ := h
    refine ⟨_, hB fr σ m _ h1, ?_⟩
    cases e with
    | normal =>
      simp only [Option.bind_eq_some_iff] at h2 ⊢
      obtain ⟨p, h3, h4⟩ := h2
      exact ⟨p, h3, iter_grow hB n m _ _ r h4⟩
    | _ => exact h2
theorem iter_more {B : Fr → St → Option (Ex × Fr × St)} {live : List Nat} {base : Nat} : ∀ {n : Nat} (fr : Fr) (σ : St) {r}, iter B live base n fr σ = some r → iter B live base (n + 1) fr σ = some r := fun {n} fr σ {r} h =>
  iter_grow (B := fun _ => B) (fun _ _ => Grow.const _) n 0 fr σ r h
theorem iter_body {B B' : Fr → St → Option (Ex × Fr × St)} {live : List Nat} {base : Nat} (hB : ∀ fr σ r, B fr σ = some r → B' fr σ = some r) : ∀ (n : Nat) (fr : Fr) (σ : St) r, iter B live base n fr σ = some r → iter B' live base n fr σ = some r
  | 0, fr, σ, r, h => by simp [iter] at h
  | n + 1, fr, σ, r, h => by
    rw [iter] at h ⊢
    simp only [Option.bind_eq_some_iff] at h ⊢
    obtain ⟨⟨e, fr1, σ1⟩, h1, h2⟩ := h
    refine ⟨_, hB fr σ _ h1, ?_⟩
    cases e with
    | normal =>
      simp only [Option.bind_eq_some_iff] at h2 ⊢
      obtain ⟨p, h3, h4⟩ := h2
      exact ⟨p, h3, iter_body hB n _ _ r h4⟩
    | _ => exact h2
theorem exec_grow {c : Nat → CallF} (hc : GrowC c) : ∀ (k : ACode) (fr : Fr) (σ : St), Grow fun n => exec (c n) n k fr σ
  | .skip, fr, σ => Grow.const _
  | .ret, fr, σ => Grow.const _
  | .exit id, fr, σ => Grow.const _
  | .region ops, fr, σ => by simp only [exec]; exact (aops_grow hc ops fr σ).map
  | .drawn ops, fr, σ => by simp only [exec]; exact (dops_grow hc ops [] 0 fr σ).map
  | .moves ops, fr, σ => Grow.const _
  | .seq a b, fr, σ => by
    simp only [exec]
    refine (exec_grow hc a fr σ).bind fun r => ?_
    obtain ⟨e, fr', σ'⟩ := r
    cases e with
    | normal => exact exec_grow hc b _ _
    | _ => exact Grow.const _
  | .cond x a b, fr, σ => by
    simp only [exec]
    split
    · exact exec_grow hc a _ _
    · exact exec_grow hc b _ _
    · exact Grow.const _
  | .block id b, fr, σ => by simp only [exec]; exact (exec_grow hc b fr σ).map
  | .loop live b, fr, σ => by
    simp only [exec]
    refine Grow.map fun n r h => ?_
    exact iter_grow (B := fun n => exec (c n) n b) (fun fr σ => exec_grow hc b fr σ) n n _ _ r h
theorem body_grow {c : Nat → CallF} (hc : GrowC c) (fn : AFn) (args : List Value) (σ : St) : Grow fun n => body (c n) n fn args σ := by
  simp only [body]
  refine (exec_grow hc _ _ _).bind fun r => Grow.const _
theorem run_grow (env : Env) : GrowC (run env) := fun g args σ n => by
  induction n generalizing g args σ with
  | zero => intro r h; simp [run] at h
  | succ n ih =>
    intro r h
    cases g with
    | func f =>
      simp only [run, Option.bind_eq_some_iff] at h ⊢
      obtain ⟨fn, h1, h2⟩ := h
      refine ⟨fn, h1, ?_⟩
      -- one step of growth is enough
      let c : Nat → CallF := fun m => if m ≤ n then run env n else run env (n + 1)
      have hc : GrowC c := fun g args σ m r h => by
        simp only [c] at h ⊢
        by_cases h1 : m ≤ n
        · rw [if_pos h1] at h
          by_cases h2 : m + 1 ≤ n
          · rw [if_pos h2]; exact h
          · rw [if_neg h2]; exact ih g args σ r h
        · rw [if_neg h1] at h
          rw [if_neg (by omega)]; exact h
      have := body_grow hc fn args σ n r
      simp only [c, if_pos (Nat.le_refl n), if_neg (Nat.not_succ_le_self n)] at this
      exact this h2
    | _ => simp [run] at h

/-! ### Without fuel -/
noncomputable def Lrun (env : Env) : CallF := fun g args σ => lim fun n => run env n g args σ
noncomputable def Lexec (env : Env) (k : ACode) (fr : Fr) (σ : St) : Option (Ex × Fr × St) := lim fun n => exec (run env n) n k fr σ
noncomputable def Liter (env : Env) (b : ACode) (live : List Nat) (base : Nat) (fr : Fr) (σ : St) : Option (Ex × Fr × St) := lim fun n => iter (exec (run env n) n b) live base n fr σ

section
variable {env : Env}
theorem Lrun_some {g : Fn} {args : List Value} {σ : St} {r : Value × St} : Lrun env g args σ = some r ↔ ∃ n, run env n g args σ = some r := lim_some (run_grow env g args σ)
theorem aop_lim (o : AOp) (fr : Fr) (σ : St) : lim (fun n => aop (run env n) o fr σ) = aop (Lrun env) o fr σ := by
  cases o <;> first
    | exact lim_const _
    | skip
  case call f args =>
    simp only [aop]
    rw [lim_bind (Grow.const _) fun vs => run_grow env _ _ _, lim_const]
    rfl
  case callv x args =>
    simp only [aop]
    refine (lim_bind (Grow.const _) fun v => Grow.bind (Grow.const _) fun vs => ?_).trans ?_
    · cases v <;> first
        | exact Grow.const _
        | exact run_grow env _ _ _
    · rw [lim_const]
      congr 1
      funext v
      refine (lim_bind (Grow.const _) fun vs => ?_).trans ?_
      · cases v <;> first
          | exact Grow.const _
          | exact run_grow env _ _ _
      · rw [lim_const]
        congr 1
        funext vs
        cases v <;> first
          | exact lim_const _
          | rfl
theorem aops_lim : ∀ (l : List AOper) (fr : Fr) (σ : St), lim (fun n => aops (run env n) l fr σ) = aops (Lrun env) l fr σ
  | [], fr, σ => lim_const _
  | o :: l, fr, σ => by
    simp only [aops]
    refine (lim_bind (Grow.const _) fun b => ?_).trans ?_
    · cases b with
      | true => exact (aop_grow (run_grow env) o.op fr σ).bind fun r => aops_grow (run_grow env) l _ _
      | false => exact aops_grow (run_grow env) l _ _
    · rw [lim_const]
      congr 1
      funext b
      cases b with
      | true =>
        refine (lim_bind (aop_grow (run_grow env) o.op fr σ) fun r => aops_grow (run_grow env) l _ _).trans ?_
        rw [aop_lim]
        exact congrArg _ (funext fun r => aops_lim l _ _)
      | false => exact aops_lim l _ _
theorem dops_lim : ∀ (l : List AOper) (born : List (Nat × Nat × Nat)) (j : Nat) (fr : Fr) (σ : St), lim (fun n => dops (run env n) born j l fr σ) = dops (Lrun env) born j l fr σ
  | [], born, j, fr, σ => lim_const _
  | o :: l, born, j, fr, σ => by
    simp only [dops]
    refine (lim_bind (Grow.const _) fun b => ?_).trans ?_
    · cases b with
      | true => exact (aop_grow (run_grow env) o.op fr _).bind fun r => dops_grow (run_grow env) l _ _ _ _
      | false => exact dops_grow (run_grow env) l _ _ _ _
    · rw [lim_const]
      congr 1
      funext b
      cases b with
      | true =>
        refine (lim_bind (aop_grow (run_grow env) o.op fr _) fun r => dops_grow (run_grow env) l _ _ _ _).trans ?_
        rw [aop_lim]
        exact congrArg _ (funext fun r => dops_lim l _ _ _ _)
      | false => exact dops_lim l _ _ _ _

/-! ### The equations -/
theorem Lexec_skip (fr : Fr) (σ : St) : Lexec env .skip fr σ = some (.normal, fr, σ) := lim_const _
theorem Lexec_ret (fr : Fr) (σ : St) : Lexec env .ret fr σ = some (.ret, fr, σ) := lim_const _
theorem Lexec_exit (id : Nat) (fr : Fr) (σ : St) : Lexec env (.exit id) fr σ = some (.exit id, fr, σ) := lim_const _
theorem Lexec_region (ops : List AOper) (fr : Fr) (σ : St) : Lexec env (.region ops) fr σ = (aops (Lrun env) ops fr σ).map fun r => (.normal, r.1, r.2) := by
  unfold Lexec; simp only [exec]; rw [lim_map (aops_grow (run_grow env) ops fr σ), aops_lim]
theorem Lexec_drawn (ops : List AOper) (fr : Fr) (σ : St) : Lexec env (.drawn ops) fr σ = (dops (Lrun env) [] 0 ops fr σ).map fun r => (.normal, r.1, r.2) := by
  unfold Lexec; simp only [exec]; rw [lim_map (dops_grow (run_grow env) ops [] 0 fr σ), dops_lim]
theorem Lexec_moves (ops : List AOper) (fr : Fr) (σ : St) : Lexec env (.moves ops) fr σ = (mops [] ops fr σ).map fun r => (.normal, r.1, r.2) := lim_const _
theorem Lexec_seq (a b : ACode) (fr : Fr) (σ : St) : Lexec env (.seq a b) fr σ = (Lexec env a fr σ).bind fun r => match r.1 with
    | .normal => Lexec env b r.2.1 r.2.2
    | e => some (e, r.2.1, r.2.2) := by
  unfold Lexec; simp only [exec]
  refine (lim_bind (exec_grow (run_grow env) a fr σ) fun r => ?_).trans ?_
  · obtain ⟨e, fr', σ'⟩ := r
    cases e with
    | normal => exact exec_grow (run_grow env) b _ _
    | _ => exact Grow.const _
  · refine congrArg _ (funext fun r => ?_)
    obtain ⟨e, fr', σ'⟩ := r
    cases e <;> first
      | rfl
      | exact lim_const _
theorem Lexec_cond (c : Operand) (a b : ACode) (fr : Fr) (σ : St) : Lexec env (.cond c a b) fr σ = match ev fr c with
    | some (.bool true) => Lexec env a fr σ
    | some (.bool false) => Lexec env b fr σ
    | _ => none := by
  unfold Lexec; simp only [exec]
  generalize ev fr c = q
  cases q with
  | none => exact lim_const _
  | some v => cases v <;> first
    | exact lim_const _
    | (rename_i b'; cases b' <;> rfl)
theorem Lexec_block (id : Nat) (b : ACode) (fr : Fr) (σ : St) : Lexec env (.block id b) fr σ = (Lexec env b fr σ).map fun r => match r.1 with
    | .exit i => if i = id then (.normal, r.2.1, r.2.2) else (.exit i, r.2.1, r.2.2)
    | e => (e, r.2.1, r.2.2) := by
  unfold Lexec; simp only [exec]
  refine (lim_map (exec_grow (run_grow env) b fr σ)).trans ?_
  refine congrArg (fun f => Option.map f _) (funext fun r => ?_)
  obtain ⟨e, fr', σ'⟩ := r
  cases e <;> rfl
theorem iter_diag (b : ACode) (live : List Nat) (base : Nat) (fr : Fr) (σ : St) : Grow fun n => iter (exec (run env n) n b) live base n fr σ := fun n r h =>
  iter_grow (B := fun n => exec (run env n) n b) (fun fr σ => exec_grow (run_grow env) b fr σ) n n fr σ r h
theorem Lexec_loop (live : List Nat) (b : ACode) (fr : Fr) (σ : St) : Lexec env (.loop live b) fr σ = (Liter env b live σ.heap.length (fr.keep live) { σ with dirty := [] }).map fun r => (r.1, r.2.1, { r.2.2 with dirty := joinDirty σ.dirty r.2.2.dirty }) := by
  unfold Lexec; simp only [exec]
  rw [lim_map (iter_diag b live _ _ _)]
  rfl
theorem Liter_eq (b : ACode) (live : List Nat) (base : Nat) (fr : Fr) (σ : St) : Liter env b live base fr σ = (Lexec env b fr σ).bind fun r => match r.1 with
    | .normal => (gcFr base (r.2.1.keep live) r.2.2).bind fun q => Liter env b live base q.1 q.2
    | e => some (e, r.2.1, r.2.2) := by
  have g1 : ∀ fr σ, Grow fun n => iter (exec (run env (n + 1)) (n + 1) b) live base n fr σ := fun fr σ n r h =>
    iter_grow (B := fun n => exec (run env (n + 1)) (n + 1) b) (fun fr σ => (exec_grow (run_grow env) b fr σ).shift) n n fr σ r h
  have e1 : ∀ fr σ, lim (fun n => iter (exec (run env (n + 1)) (n + 1) b) live base n fr σ) = Liter env b live base fr σ := fun fr σ => by
    refine lim_ext (g1 fr σ) (iter_diag b live base fr σ) fun r => ⟨fun ⟨n, h⟩ => ⟨n + 1, ?_⟩, fun ⟨n, h⟩ => ⟨n, ?_⟩⟩
    · -- more rounds do no harm
      exact iter_more _ _ h
    · exact iter_body (fun fr σ r h => exec_grow (run_grow env) b fr σ n r h) n fr σ r h
  unfold Liter
  rw [← lim_shift (iter_diag b live base fr σ)]
  simp only [iter]
  refine (lim_bind (f := fun n => exec (run env (n + 1)) (n + 1) b fr σ) (exec_grow (run_grow env) b fr σ).shift fun r => ?_).trans ?_
  · obtain ⟨e, fr', σ'⟩ := r
    cases e with
    | normal => exact Grow.bind (Grow.const _) fun q => g1 _ _
    | _ => exact Grow.const _
  · rw [lim_shift (exec_grow (run_grow env) b fr σ)]
    refine congrArg _ (funext fun r => ?_)
    obtain ⟨e, fr', σ'⟩ := r
    cases e with
    | normal =>
      refine (lim_bind (Grow.const _) fun q => g1 _ _).trans ?_
      rw [lim_const]
      exact congrArg _ (funext fun q => e1 _ _)
    | _ => exact lim_const _
/-- What a function's end makes of a run of its code. -/
def fin (rs : List ARes) (σ : St) (r : Ex × Fr × St) : Option (Value × St) := match r.1 with
    | .exit _ => none
    | _ => (resvs r.2.1 r.2.2 rs).bind fun vs => (resOf vs).bind fun u => (gc σ.heap.length [u] r.2.2).bind fun q => match q.1 with
      | [v] => some (v, { q.2 with dirty := joinDirty σ.dirty q.2.dirty })
      | _ => none
theorem EnvOk.nil {P : Program} : EnvOk P [] := fun i fn h => by cases h
theorem EnvOk.cons {P : Program} {env : Env} {i : Nat} {fn : AFn} {f : Func} (h1 : P.funcs[i]? = some f) (h2 : compFn P f = some fn) (h3 : f.name ≠ "runtime.NumGoroutine") (h : EnvOk P env) : EnvOk P ((i, fn) :: env) := fun k g hk => by
  simp only [Env.fn] at hk
  split at hk
  · rename_i e; subst e; cases hk; exact ⟨f, h1, h2, h3⟩
  · exact h k g hk
theorem Lrun_func (f : Nat) (args : List Value) (σ : St) : Lrun env (.func f) args σ = (env.fn f).bind fun fn => (Lexec env fn.code (argFr 0 args) { σ with dirty := [] }).bind (fin fn.results σ) := by
  unfold Lrun
  rw [← lim_shift (run_grow env (.func f) args σ)]
  simp only [run]
  refine (lim_bind (Grow.const _) fun fn => body_grow (run_grow env) fn args σ).trans ?_
  rw [lim_const]
  refine congrArg _ (funext fun fn => ?_)
  exact lim_bindc (fin fn.results σ) (exec_grow (run_grow env) _ _ _)
end
end AM
end Go.Proofs.Ytlbdgbfblgjjgaa
end
