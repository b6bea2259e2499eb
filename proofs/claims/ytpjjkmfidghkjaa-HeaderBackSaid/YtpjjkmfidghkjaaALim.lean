/-
  THE ABSTRACT MACHINE's RUNS: what a translated function does in the abstract, the program's function does. Conditions: the functions are the translated ones.
  FROM A RUN OF THE ABSTRACT MACHINE TO THE PROGRAM's CALL: each function of a translated set, and a call from a state without memory of its own. Conditions: the functions are the translated ones.
  THE ABSTRACT MACHINE WITHOUT FUEL: what some fuel finds, as a function that obeys equations. Conditions: none.
-/
import Derived.Test.YtpjjkmfidghkjaaAMoves
import Derived.LoopN
import Derived.LoopNIn
set_option linter.all false
section
namespace Go.Proofs.Ytpjjkmfidghkjaa
namespace AM
open Go Go.RowKit

section
variable {P : Program} {w0 : World} {lo : Nat}

def Ex.real : Ex → Exit
  | .normal => .normal
  | .exit id => .exit id
  | .ret => .ret

theorem FrR.keep {X : Emb} {fr : Fr} {a : Act} (h : FrR X fr a) : ∀ l : List Nat, FrR X (fr.keep l) a
  | [] => fun t v ht => by simp [Fr.keep, Fr.get] at ht
  | k :: l => fun t v ht => by
    simp only [Fr.keep] at ht
    split at ht
    · rename_i q hq
      simp only [Fr.get] at ht
      split at ht
      · rename_i e; subst e; cases ht; exact h k v hq
      · exact FrR.keep h l t v ht
    · exact FrR.keep h l t v ht
theorem frget_zip : ∀ {ks : List Nat} {vs : List Value} {t : Nat} {v : Value}, Fr.get (ks.zip vs) t = some v → ∃ i : Nat, ks[i]? = some t ∧ vs[i]? = some v ∧ ∀ j : Nat, j < i → ks[j]? ≠ some t
  | [], _, _, _, h => by simp [Fr.get] at h
  | k :: ks, [], _, _, h => by simp [Fr.get] at h
  | k :: ks, u :: vs, t, v, h => by
    simp only [List.zip_cons_cons, Fr.get] at h
    split at h
    · rename_i e
      subst e
      cases h
      exact ⟨0, rfl, rfl, fun j hj => by omega⟩
    · rename_i hne
      obtain ⟨i, h1, h2, h3⟩ := frget_zip h
      refine ⟨i + 1, h1, h2, fun j hj => ?_⟩
      cases j with
      | zero => simpa using hne
      | succ j => exact h3 j (by omega)
theorem frget_idx : ∀ {fr : Fr} {i t : Nat}, (fr.map (·.1))[i]? = some t → (∀ j : Nat, j < i → (fr.map (·.1))[j]? ≠ some t) → ∃ v, (fr.map (·.2))[i]? = some v ∧ fr.get t = some v
  | [], i, t, h, _ => by simp at h
  | (k, u) :: fr, 0, t, h, _ => by
    simp at h
    subst h
    exact ⟨u, rfl, by simp [Fr.get]⟩
  | (k, u) :: fr, i + 1, t, h, hj => by
    obtain ⟨v, h1, h2⟩ := frget_idx (fr := fr) (i := i) (t := t) (by simpa using h) (fun j hj' => by have := hj (j + 1) (by omega); simpa using this)
    refine ⟨v, by simpa using h1, ?_⟩
    have hk : ¬ k = t := by have := hj 0 (by omega); simpa using this
    simp [Fr.get, hk, h2]
theorem relC_refs {X : Emb} {q u : Value} (h : relC X q u) : ∀ r ∈ refsC q, ∃ bx, X r = some bx := by
  unfold relC at h
  split at h
  · intro r hr
    simp only [refsC, List.mem_singleton] at hr
    subst hr
    obtain ⟨ra, _, bx, h1, _⟩ := h
    exact ⟨bx, h1⟩
  · intro r hr
    simp only [refsC, List.mem_singleton] at hr
    subst hr
    obtain ⟨ra, c, _, _, _, bx, h1, _⟩ := h
    exact ⟨bx, h1⟩
  · intro r hr
    rw [refs_sc' h.1] at hr
    cases hr
/-- What is collected. -/
theorem gc_step {X0 X : Emb} {τ0 σ σ' : St} {vs vs' : List Value} {w0 v w : World} (S : Sim w0 X σ w) (h0 : Ast τ0 σ) (hd : τ0.dirty = []) (hst : Stp X0 τ0 v X w) (hw : Sim w0 X0 τ0 v) (hh : ∀ t ∈ τ0.hid, t < τ0.heap.length) (hl : τ0.lock ≤ τ0.heap.length)
    (hg : gc τ0.heap.length vs σ = some (vs', σ')) : ∃ X', Gcd w0 τ0.heap.length X σ w vs vs' σ' X' ∧ Stp X0 τ0 v X' w ∧ Ast τ0 σ' := by
  have hdom := hw.dom
  have hD : ∀ id bx, id < τ0.heap.length → X id = some bx → id ∉ σ.hid → id ∉ σ.dirty → ∀ r ∈ refsAt σ.heap id, r < τ0.heap.length := by
    intro id bx hi hx hn hnd r hr
    have hr0 := h0.refs id hi hnd r hr
    obtain ⟨bx0, hx0⟩ : ∃ bx0, X0 id = some bx0 := by
      rcases hst.back id bx hx with ⟨bx0, h1, _⟩ | ⟨_, _, _, h4⟩
      · exact ⟨bx0, h1⟩
      · omega
    unfold refsAt at hr0
    cases hb : τ0.heap[id]? with
    | none => rw [hb] at hr0; cases hr0
    | some b =>
      rw [hb] at hr0
      cases b with
      | map es => simp [refsB] at hr0
      | cells g pl cs =>
        obtain ⟨_, _, _, _, c5, _⟩ := hw.cell id bx0 g pl cs hx0 (by rw [← h0.hid]; exact hn) hb
        cases pl with
        | true => simp [refsB] at hr0
        | false =>
          simp only [refsB, List.mem_flatMap] at hr0
          obtain ⟨q, hq, hr0⟩ := hr0
          obtain ⟨j, hj⟩ := List.mem_iff_getElem?.1 hq
          obtain ⟨u, _, hrel⟩ := c5 j q hj
          obtain ⟨bx1, h1⟩ := relC_refs hrel r hr0
          exact hdom _ _ h1
  obtain ⟨X', gd⟩ := gc_sound S (fun t ht => hh t (by rw [← h0.hid]; exact ht)) (by rw [h0.lock]; exact hl) hD hg
  refine ⟨X', gd, ⟨hst.size, hst.os, hst.tape, hst.output, hst.frame, ⟨?_, gd.y.trans hst.evo.y⟩, ?_, ?_⟩, h0.gc hd hg⟩
  · intro id bx hx
    obtain ⟨bx', h1, h2⟩ := hst.evo.up id bx hx
    exact ⟨bx', by rw [gd.low id (hdom id bx hx)]; exact h1, h2⟩
  · intro id bx bx' hx hx'
    rw [gd.low id (hdom id bx hx)] at hx'
    exact hst.same id bx bx' hx hx'
  · intro id bx' hx'
    by_cases hi : id < τ0.heap.length
    · rw [gd.low id hi] at hx'
      exact hst.back id bx' hx'
    · obtain ⟨id0, k1, k2⟩ := gd.high id bx' (by omega) hx'
      have hnone : X0 id = none := by
        cases hx0 : X0 id with
        | none => rfl
        | some bx => exact absurd (hdom id bx hx0) hi
      rcases hst.back id0 bx' k2 with ⟨bx, h1, _⟩ | ⟨_, h2, h3, _⟩
      · exact absurd (hdom id0 bx h1) (by omega)
      · exact .inr ⟨hnone, h2, h3, by omega⟩
/-- What is collected between two rounds. -/
theorem gcFr_sound {n : Nat} {X0 X : Emb} {τ0 σ σ' : St} {fr fr' : Fr} {a : Act} {w0 v w : World} (G : Good w0 lo n X σ fr a w) (h0 : Ast τ0 σ) (hd : τ0.dirty = []) (hst : Stp X0 τ0 v X w) (hw : Sim w0 X0 τ0 v) (hh : ∀ t ∈ τ0.hid, t < τ0.heap.length) (hl : τ0.lock ≤ τ0.heap.length)
    (h : gcFr τ0.heap.length fr σ = some (fr', σ')) : Ast τ0 σ' ∧ ∃ X', Good w0 lo n X' σ' fr' a w ∧ Stp X0 τ0 v X' w := by
  obtain ⟨vs, hg, rfl⟩ := gcFr_abs h
  obtain ⟨X', gd, hst', hast⟩ := gc_step G.sim h0 hd hst hw hh hl hg
  refine ⟨hast, X', ⟨gd.sim, ?_, G.size, G.defers.sub fun id bx h => (by
    by_cases hi : id < τ0.heap.length
    · exact ⟨id, by rw [← gd.low id hi]; exact h⟩
    · obtain ⟨id0, _, k2⟩ := gd.high id bx (by omega) h
      exact ⟨id0, k2⟩), fun t ht => Nat.lt_of_lt_of_le (hh t (by rw [← h0.hid, ← gd.hid]; exact ht)) hast.len, by rw [hast.lock]; exact Nat.le_trans hl hast.len⟩, hst'⟩
  intro t q ht
  obtain ⟨i, h1, h2, h3⟩ := frget_zip ht
  obtain ⟨p, p1, p2⟩ := frget_idx h1 h3
  exact gd.vals.2 i p q _ p1 h2 (G.fr t p p2)

theorem Sim.dirty {X : Emb} {σ : St} {w : World} (S : Sim w0 X σ w) (d : List Nat) : Sim w0 X { σ with dirty := d } w := ⟨S.bel, S.dom, S.place, S.cell, S.inj, S.lock, S.zero⟩
theorem Good.dirty {n : Nat} {X : Emb} {σ : St} {fr : Fr} {a : Act} {w : World} (G : Good w0 lo n X σ fr a w) (d : List Nat) : Good w0 lo n X { σ with dirty := d } fr a w := ⟨G.sim.dirty d, G.fr, G.size, G.defers, G.hid, G.lock⟩
theorem Stp.dirty {X X' : Emb} {σ : St} {w w' : World} {d : List Nat} (h : Stp X { σ with dirty := d } w X' w') : Stp X σ w X' w' := ⟨h.size, h.os, h.tape, h.output, h.frame, h.evo, h.same, h.back⟩
theorem Stp.dirty' {X X' : Emb} {σ : St} {w w' : World} {d : List Nat} (h : Stp X σ w X' w') : Stp X { σ with dirty := d } w X' w' := ⟨h.size, h.os, h.tape, h.output, h.frame, h.evo, h.same, h.back⟩

/-- A loop's rounds. -/
theorem iter_sound {callf : CallF} {Yp : Emb → World → Prop} {r : Option Nat} (hcf : CallOk P w0 Yp callf) {n m : Nat} {b : Code} {ac : ACode} {live : List Nat} {X0 : Emb} {τ0 : St} {v : World} (hd : τ0.dirty = []) (hw : Sim w0 X0 τ0 v) (hY0 : Yp X0 v) (hh : ∀ t ∈ τ0.hid, t < τ0.heap.length) (hl : τ0.lock ≤ τ0.heap.length)
    (hb : ∀ fr σ ex fr' σ', exec callf m ac fr σ = some (ex, fr', σ') → ∀ X a w, Good w0 lo n X σ fr a w → Yp X w → ∀ Q : Exit → Act → World → Prop, (∀ a' w', Post w0 lo n X σ w fr' σ' a' w' → Q ex.real a' w') → b.wpIn (Mono.fw r) 0 P Q a w) :
    ∀ (k : Nat) (fr : Fr) (σ : St) (ex : Ex) (fr' : Fr) (σ' : St), iter (exec callf m ac) live τ0.heap.length k fr σ = some (ex, fr', σ') → ∀ X a w, Good w0 lo n X σ fr a w → Ast τ0 σ → Stp X0 τ0 v X w →
      ∀ Q : Exit → Act → World → Prop, (∀ a' w', Post w0 lo n X0 τ0 v fr' σ' a' w' → Q ex.real a' w') → Code.roundsIn (Mono.fw r) 0 P b Q k a w
  | 0, fr, σ, ex, fr', σ', h, _, _, _, _, _, _, _, _ => by simp [iter] at h
  | k + 1, fr, σ, ex, fr', σ', h, X, a, w, G, h0, hst, Q, hQ => by
    simp only [iter, Option.bind_eq_some_iff] at h
    obtain ⟨⟨e1, fr1, σ1⟩, h1, h⟩ := h
    rw [roundsIn_succ]
    have a1 := exec_ast hcf.ast m ac _ _ _ _ _ G.lock h1
    refine hb _ _ _ _ _ h1 X a w G (hcf.stab _ _ _ _ _ hY0 hst) _ fun a' w' ⟨X1, G1, s1⟩ => ?_
    have hst1 := hst.trans h0 s1
    cases e1 with
    | normal =>
      simp only [Option.bind_eq_some_iff] at h
      obtain ⟨⟨fr2, σ2⟩, h2, h⟩ := h
      have G1' : Good w0 lo n X1 σ1 (fr1.keep live) a' w' := ⟨G1.sim, G1.fr.keep live, G1.size, G1.defers, G1.hid, G1.lock⟩
      obtain ⟨ha2, X2, G2, s2⟩ := gcFr_sound G1' (h0.trans a1) hd hst1 hw hh hl h2
      exact iter_sound hcf hd hw hY0 hh hl hb k _ _ _ _ _ h X2 a' w' G2 ha2 s2 Q hQ
    | exit id => cases h; exact hQ a' w' ⟨X1, G1, hst1⟩
    | ret => cases h; exact hQ a' w' ⟨X1, G1, hst1⟩

/-- The ranges over functions are sound. -/
def RfOk (P : Program) (w0 : World) (lo : Nat) (Yp : Emb → World → Prop) (callf : CallF) (n m : Nat) (r : Option Nat) (it : Option (Nat × ACode)) : Prop :=
  ∀ (x : Operand) (ps : Array Tmp) (assign b : Code) (exits : List (Nat × List Nat)) (fin out live : List Nat) (ac : ACode), comp P n it exits fin (.rangeFunc x ps assign b) out = some (ac, live) →
    ∀ (fr : Fr) (σ : St) (ex : Ex) (fr' : Fr) (σ' : St), exec callf m ac fr σ = some (ex, fr', σ') →
      ∀ X a w, Good w0 lo n X σ fr a w → Yp X w → ∀ Q : Exit → Act → World → Prop, (∀ a' w', Post w0 lo n X σ w fr' σ' a' w' → Q ex.real a' w') → (Code.rangeFunc x ps assign b).wpIn (Mono.fw r) 0 P Q a w
theorem rfOk_none {Yp : Emb → World → Prop} {callf : CallF} {n m : Nat} {r : Option Nat} : RfOk P w0 lo Yp callf n m r none := fun x ps assign b exits fin out live ac hc => by simp [comp] at hc
theorem exec_soundG {callf : CallF} {Yp : Emb → World → Prop} {r : Option Nat} {it : Option (Nat × ACode)} {n m : Nat} (hcf : CallOk P w0 Yp callf) (hm : P.follows .mixedOrders = true) (hrf : RfOk P w0 lo Yp callf n m r it) : ∀ (c : Code) (exits : List (Nat × List Nat)) (fin out live : List Nat) (ac : ACode), comp P n it exits fin c out = some (ac, live) → ∀ (fr : Fr) (σ : St) (ex : Ex) (fr' : Fr) (σ' : St), exec callf m ac fr σ = some (ex, fr', σ') →
    ∀ X a w, Good w0 lo n X σ fr a w → Yp X w → ∀ Q : Exit → Act → World → Prop, (∀ a' w', Post w0 lo n X σ w fr' σ' a' w' → Q ex.real a' w') → c.wpIn (Mono.fw r) 0 P Q a w
  | .skip, exits, fin, out, live, ac, hc, fr, σ, ex, fr', σ', h, X, a, w, G, hY, Q, hQ => by
    simp only [comp] at hc; cases hc
    simp only [exec] at h; cases h
    exact wpIn_skip (hQ a w ⟨X, G, Stp.refl _ _ _⟩)
  | .ret, exits, fin, out, live, ac, hc, fr, σ, ex, fr', σ', h, X, a, w, G, hY, Q, hQ => by
    simp only [comp] at hc; cases hc
    simp only [exec] at h; cases h
    exact wpIn_ret (hQ a w ⟨X, G, Stp.refl _ _ _⟩)
  | .exit id, exits, fin, out, live, ac, hc, fr, σ, ex, fr', σ', h, X, a, w, G, hY, Q, hQ => by
    simp only [comp] at hc
    split at hc
    · cases hc
      simp only [exec] at h; cases h
      exact wpIn_exit (hQ a w ⟨X, G, Stp.refl _ _ _⟩)
    · cases hc
  | .region id ops draw, exits, fin, out, live, ac, hc, fr, σ, ex, fr', σ', h, X, a, w, G, hY, Q, hQ => by
    simp only [comp, Option.bind_eq_some_iff] at hc
    obtain ⟨as, has, hc⟩ := hc
    cases draw with
    | true =>
      simp only [if_true] at hc
      split at hc
      · rename_i hst
        split at hc
        · cases hc
          rename_i hmx
          simp only [exec, Option.bind_eq_some_iff, Option.map_eq_some_iff] at h
          obtain ⟨B, hB, ⟨fr1, σ1⟩, h1, h⟩ := h
          cases h
          exact mops_sound hcf.noYield hm hst (boundM_of hmx) has (boxes_lt G hB) h1 G hQ
        · cases hc
          simp only [exec, Option.map_eq_some_iff] at h
          obtain ⟨⟨fr1, σ1⟩, h1, h⟩ := h
          cases h
          exact dops_sound hcf.noYield hm hst has h1 G hQ
      · cases hc
    | false =>
      simp only [Bool.false_eq_true, if_false] at hc
      cases hc
      simp only [exec, Option.map_eq_some_iff] at h
      obtain ⟨⟨fr1, σ1⟩, h1, h⟩ := h
      cases h
      exact wpIn_region_list (aops_sound hcf ops.toList as has _ _ _ _ h1 X a w G hY hQ)
  | .seq x y, exits, fin, out, live, ac, hc, fr, σ, ex, fr', σ', h, X, a, w, G, hY, Q, hQ => by
    simp only [comp, Option.bind_eq_some_iff, Option.map_eq_some_iff] at hc
    obtain ⟨q, hq, p, hp, hc⟩ := hc
    cases hc
    simp only [exec, Option.bind_eq_some_iff] at h
    obtain ⟨⟨e1, fr1, σ1⟩, h1, h⟩ := h
    have a1 := exec_ast hcf.ast m _ _ _ _ _ _ G.lock h1
    refine wpIn_seq (exec_soundG hcf hm hrf x exits fin q.2 p.2 p.1 hp _ _ _ _ _ h1 X a w G hY _ fun a' w' ⟨X1, G1, s1⟩ => ?_)
    cases e1 with
    | normal => exact exec_soundG hcf hm hrf y exits fin out q.2 q.1 hq _ _ _ _ _ h X1 a' w' G1 (hcf.stab _ _ _ _ _ hY s1) Q fun a2 w2 ⟨X2, G2, s2⟩ => hQ a2 w2 ⟨X2, G2, s1.trans a1 s2⟩
    | exit id => cases h; exact hQ a' w' ⟨X1, G1, s1⟩
    | ret => cases h; exact hQ a' w' ⟨X1, G1, s1⟩
  | .cond c x y, exits, fin, out, live, ac, hc, fr, σ, ex, fr', σ', h, X, a, w, G, hY, Q, hQ => by
    simp only [comp] at hc
    split at hc
    · rename_i hk
      simp only [Option.bind_eq_some_iff, Option.map_eq_some_iff] at hc
      obtain ⟨p, hp, q, hq, hc⟩ := hc
      cases hc
      simp only [exec] at h
      split at h
      · rename_i e
        exact wpIn_cond_true (relV_bool (G.fr.ev hk e)) (exec_soundG hcf hm hrf x exits fin out p.2 p.1 hp _ _ _ _ _ h X a w G hY Q hQ)
      · rename_i e
        exact wpIn_cond_false (relV_bool (G.fr.ev hk e)) (exec_soundG hcf hm hrf y exits fin out q.2 q.1 hq _ _ _ _ _ h X a w G hY Q hQ)
      · cases h
    · cases hc
  | .block id b, exits, fin, out, live, ac, hc, fr, σ, ex, fr', σ', h, X, a, w, G, hY, Q, hQ => by
    simp only [comp, Option.map_eq_some_iff] at hc
    obtain ⟨p, hp, hc⟩ := hc
    cases hc
    simp only [exec, Option.map_eq_some_iff] at h
    obtain ⟨⟨e1, fr1, σ1⟩, h1, h⟩ := h
    refine wpIn_block (exec_soundG hcf hm hrf b _ fin out p.2 p.1 hp _ _ _ _ _ h1 X a w G hY _ fun a' w' hp' => ?_)
    cases e1 with
    | normal => cases h; exact hQ a' w' hp'
    | ret => cases h; exact hQ a' w' hp'
    | exit i =>
      simp only at h
      simp only [Ex.real, Exit.inBlock]
      split at h
      · rename_i e; cases h; rw [if_pos e]; exact hQ a' w' hp'
      · rename_i e; cases h; rw [if_neg e]; exact hQ a' w' hp'
  | .loop b, exits, fin, out, live, ac, hc, fr, σ, ex, fr', σ', h, X, a, w, G, hY, Q, hQ => by
    simp only [comp, Option.bind_eq_some_iff, Option.map_eq_some_iff] at hc
    obtain ⟨p, hp, q, hq, r', hr, hc⟩ := hc
    cases hc
    simp only [exec, Option.map_eq_some_iff] at h
    obtain ⟨⟨e1, fr1, σ1⟩, h1, h⟩ := h
    cases h
    have G0 : Good w0 lo n X { σ with dirty := [] } (fr.keep q.2) a w := ⟨G.sim.dirty [], G.fr.keep _, G.size, G.defers, G.hid, G.lock⟩
    refine wpIn_loop_rounds m (iter_sound (τ0 := { σ with dirty := [] }) hcf rfl (G.sim.dirty []) hY G.hid G.lock (fun fr σ ex fr' σ' h => exec_soundG hcf hm hrf b exits fin q.2 r'.2 r'.1 hr fr σ ex fr' σ' h) m _ _ _ _ _ h1 X a w G0 (Ast.refl _) (Stp.refl _ _ _) Q fun a' w' ⟨X1, G1, s1⟩ => hQ a' w' ⟨X1, G1.dirty _, s1.dirty⟩)
  | .rangeFunc x ps assign b, exits, fin, out, live, ac, hc, fr, σ, ex, fr', σ', h, X, a, w, G, hY, Q, hQ => hrf x ps assign b exits fin out live ac hc fr σ ex fr' σ' h X a w G hY Q hQ
  | .scope _, _, _, _, _, _, hc, _, _, _, _, _, _, _, _, _, _, _, _, _ => by simp [comp] at hc
  | .label _, _, _, _, _, _, hc, _, _, _, _, _, _, _, _, _, _, _, _, _ => by simp [comp] at hc
  | .goto _, _, _, _, _, _, hc, _, _, _, _, _, _, _, _, _, _, _, _, _ => by simp [comp] at hc
  | .refuse _, _, _, _, _, _, hc, _, _, _, _, _, _, _, _, _, _, _, _, _ => by simp [comp] at hc
theorem exec_sound0 {callf : CallF} {Yp : Emb → World → Prop} {r : Option Nat} {n m : Nat} (hcf : CallOk P w0 Yp callf) (hm : P.follows .mixedOrders = true) (c : Code) (exits : List (Nat × List Nat)) (fin out live : List Nat) (ac : ACode) (hc : comp P n none exits fin c out = some (ac, live)) (fr : Fr) (σ : St) (ex : Ex) (fr' : Fr) (σ' : St) (h : exec callf m ac fr σ = some (ex, fr', σ'))
    (X : Emb) (a : Act) (w : World) (G : Good w0 lo n X σ fr a w) (hY : Yp X w) (Q : Exit → Act → World → Prop) (hQ : ∀ a' w', Post w0 lo n X σ w fr' σ' a' w' → Q ex.real a' w') : c.wpIn (Mono.fw r) 0 P Q a w :=
  exec_soundG hcf hm rfOk_none c exits fin out live ac hc fr σ ex fr' σ' h X a w G hY Q hQ
/-! ### Ranges over functions -/
theorem argFr_get : ∀ (l : List Value) (i t : Nat) (v : Value), Fr.get (argFr i l) t = some v → i ≤ t ∧ l[t - i]? = some v
  | [], i, t, v, h => by simp [argFr, Fr.get] at h
  | x :: l, i, t, v, h => by
    simp only [argFr, Fr.get] at h
    split at h
    · rename_i e; subst e; cases h; simp
    · rename_i e
      obtain ⟨h1, h2⟩ := argFr_get l (i + 1) t v h
      refine ⟨by omega, ?_⟩
      rw [show t - i = (t - (i + 1)) + 1 by omega]
      simpa using h2
/-- The same blocks, the record of another loop. -/
def Emb.at_ (X : Emb) (y : Nat) : Emb := ⟨X.fn, y⟩
theorem relC_at {X : Emb} {y : Nat} {v u : Value} : relC (X.at_ y) v u ↔ relC X v u := Iff.rfl
theorem relV_at {X : Emb} {y : Nat} {v u : Value} (h : relV X v u) (hp : plainArg v = true) : relV (X.at_ y) v u := by
  cases v <;> first
    | exact h
    | simp [plainArg] at hp
theorem Sim.at_ {X : Emb} {σ : St} {w : World} (S : Sim w0 X σ w) (y : Nat) : Sim w0 (X.at_ y) σ w :=
  ⟨S.bel, S.dom, S.place, fun id bx g pl cs h1 h2 h3 => by
    obtain ⟨a1, a2, a3, a4, a5, a6⟩ := S.cell id bx g pl cs h1 h2 h3
    exact ⟨a1, a2, a3, a4, fun j v hj => by obtain ⟨u, hu, hr⟩ := a5 j v hj; exact ⟨u, hu, relC_at.2 hr⟩, a6⟩, S.inj, S.lock, S.zero⟩
theorem Stp.at_ {X X' : Emb} {σ : St} {w w' : World} (s : Stp X σ w X' w') (y : Nat) : Stp (X.at_ y) σ w (X'.at_ y) w' := ⟨s.size, s.os, s.tape, s.output, s.frame, ⟨s.evo.up, rfl⟩, s.same, s.back⟩
/-- A block of nobody's that holds no cells is put. -/
theorem Sim.put {X : Emb} {σ : St} {w : World} {l : Nat} (o : Obj) (S : Sim w0 X σ w) (h1 : w0.heap.size ≤ l) (h2 : ∀ id bx, X id = some bx → bx.b ≠ l) : Sim w0 X σ (w.putObj l o) := by
  have hk : ∀ k, k ≠ l → (w.putObj l o).heap[k]? = w.heap[k]? := fun k hk => World.putObj_heap_other hk
  have hs : (w.putObj l o).heap.size = w.heap.size := by simp [World.putObj]
  refine ⟨S.bel.trans ⟨rfl, rfl, rfl, by rw [hs]; exact Nat.le_refl _, fun k hk' => hk k (by omega)⟩, S.dom, fun id bx h => ⟨by rw [hs]; exact (S.place id bx h).1, (S.place id bx h).2⟩, fun id bx g pl cs e1 e2 e3 => ?_, S.inj, S.lock, S.zero⟩
  obtain ⟨a1, a2, a3, a4, a5, a6⟩ := S.cell id bx g pl cs e1 e2 e3
  have hb := hk bx.b (h2 id bx e1)
  refine ⟨a1, a2, a3, a4, fun j v hj => ?_, fun ho => ?_⟩
  · obtain ⟨u, hu, hr⟩ := a5 j v hj
    exact ⟨u, by rw [World.cell?_of_block (w := w) hb]; exact hu, hr⟩
  · obtain ⟨b1, rs, ty, lo', hi, b2, b3⟩ := a6 ho
    exact ⟨b1, rs, ty, lo', hi, by rw [hb]; exact b2, b3⟩
/-- What is changed and changed back. -/
theorem Stp.back_put {X X' : Emb} {σ : St} {w w' : World} {l : Nat} {o o1 : Obj} (h0 : w.heap[l]? = some o) (s : Stp X σ (w.putObj l o1) X' w') : Stp X σ w X' (w'.putObj l o) := by
  have hs : ∀ (w : World) o, (w.putObj l o).heap.size = w.heap.size := fun w o => by simp [World.putObj]
  refine ⟨by have := s.size; rw [hs] at this ⊢; exact this, s.os, s.tape, s.output, fun k hk hx => ?_, s.evo, s.same, fun id bx' h => ?_⟩
  · by_cases e : k = l
    · subst e
      rw [h0]
      exact World.putObj_heap_same (by have := s.size; rw [hs] at this; omega)
    · rw [World.putObj_heap_other e, s.frame k (by rw [hs]; exact hk) hx, World.putObj_heap_other e]
  · have := s.back id bx' h
    rw [hs] at this
    exact this
theorem Stp.after {X X' : Emb} {σ : St} {w w' w2 : World} (s : Stp X σ w X' w') (h1 : w2.heap.size = w'.heap.size) (h2 : ∀ k, k < w.heap.size → w2.heap[k]? = w'.heap[k]?) (h3 : w2.os = w'.os) (h4 : w2.tape = w'.tape) (h5 : w2.output = w'.output) : Stp X σ w X' w2 :=
  ⟨by rw [h1]; exact s.size, h3.trans s.os, h4.trans s.tape, h5.trans s.output, fun k hk hx => by rw [h2 k hk]; exact s.frame k hk hx, s.evo, s.same, s.back⟩

theorem frget_append : ∀ {a b : Fr} {t : Nat} {v : Value}, (a ++ b).get t = some v → a.get t = some v ∨ ((∀ p ∈ a, p.1 ≠ t) ∧ b.get t = some v)
  | [], b, t, v, h => .inr ⟨fun p hp => by (cases hp), h⟩
  | (k, u) :: a, b, t, v, h => by
    simp only [List.cons_append, Fr.get] at h ⊢
    split at h
    · rename_i e; rw [if_pos e]; exact .inl h
    · rename_i e
      rw [if_neg e]
      rcases frget_append h with h1 | ⟨h1, h2⟩
      · exact .inl h1
      · exact .inr ⟨fun p hp => by
          rcases List.mem_cons.1 hp with rfl | hp
          · exact e
          · exact h1 p hp, h2⟩
def setAll (tm : Array Value) (l : List (Nat × Value)) : Array Value := l.foldl (fun tm p => tm.setIfInBounds p.1 p.2) tm
theorem setAll_size : ∀ (l : List (Nat × Value)) (tm : Array Value), (setAll tm l).size = tm.size
  | [], tm => rfl
  | p :: l, tm => by rw [setAll, List.foldl_cons]; exact (setAll_size l _).trans (by simp)
theorem setAll_not {t : Nat} : ∀ (l : List (Nat × Value)) (tm : Array Value), (∀ p ∈ l, p.1 ≠ t) → (setAll tm l).getD t undef = tm.getD t undef
  | [], tm, _ => rfl
  | p :: l, tm, h => by
    rw [setAll, List.foldl_cons]
    refine (setAll_not l _ fun q hq => h q (List.mem_cons_of_mem _ hq)).trans ?_
    have := h p List.mem_cons_self
    simp [Array.getElem?_setIfInBounds_ne this]
theorem setAll_at {t : Nat} {u : Value} : ∀ (l : List (Nat × Value)) (tm : Array Value) (i : Nat), l[i]? = some (t, u) → (l.map (·.1)).Nodup → t < tm.size → (setAll tm l).getD t undef = u
  | [], tm, i, h, _, _ => by simp at h
  | p :: l, tm, 0, h, hn, ht => by
    simp at h
    subst h
    rw [setAll, List.foldl_cons]
    simp only [List.map_cons, List.nodup_cons] at hn
    refine (setAll_not l _ fun q hq e => hn.1 (by rw [← e]; exact List.mem_map_of_mem hq)).trans ?_
    simp [ht]
  | p :: l, tm, i + 1, h, hn, ht => by
    rw [setAll, List.foldl_cons]
    simp only [List.map_cons, List.nodup_cons] at hn
    exact setAll_at l _ i (by simpa using h) hn.2 (by simpa using ht)

/-- The loop's record lies ready. -/
structure LoopAt (w0 : World) (rec : Loop) (X : Emb) (w : World) : Prop where
  at_ : w.heap[X.y]? = some (.loop rec)
  low : w0.heap.size ≤ X.y
  clear : ∀ id bx, X id = some bx → bx.b ≠ X.y
theorem LoopAt.step {rec : Loop} {X X' : Emb} {σ : St} {w w' : World} (h : LoopAt w0 rec X w) (s : Stp X σ w X' w') : LoopAt w0 rec X' w' := by
  obtain ⟨k1, k2⟩ := s.clear (heap_lt h.at_) h.clear
  exact ⟨by rw [s.evo.y, k1]; exact h.at_, by rw [s.evo.y]; exact h.low, fun id bx hx => by rw [s.evo.y]; exact k2 id bx hx⟩
def loopRec (fn : FuncId) (a : Act) (ps : Array Tmp) (assign body : Code) (D : Nat) : Loop := { state := .ready, pending := none, fn := fn, tmps := a.tmps, params := ps, assign := assign, body := body, defers := D }

/-- One round. -/
theorem round_sound {callf : CallF} {n m : Nat} (hcf : CallOk P w0 AnyY callf) (hm : P.follows .mixedOrders = true) {assign body : Code} {pa pb : ACode} {oa la ob lb : List Nat} (hpa : comp P n none [] [] assign oa = some (pa, la)) (hpb : comp P n none [] [] body ob = some (pb, lb))
    {ps : Array Tmp} (hnd : ps.toList.Nodup) (hlt : ∀ t ∈ ps.toList, t < n) {X : Emb} {σ : St} {fr : Fr} {a : Act} {w : World} (G : Good w0 lo n X σ fr a w) {fnid : FuncId} {D : Nat}
    {X2 : Emb} {τ τ' : St} {w2 : World} {args : List Value} {rargs : Array Value} {v : Value} (hL : LoopAt w0 (loopRec fnid a ps assign body D) X2 w2) (hE : Evo X (X2.at_ X.y)) (S : Sim w0 X2 τ w2) (hh : ∀ t ∈ τ.hid, t < τ.heap.length) (hl : τ.lock ≤ τ.heap.length) (hr : rel2 (relV X2) args rargs.toList)
    (h : roundF (exec callf m pa) (exec callf m pb) ps.toList fr args τ = some (v, τ')) :
    ∃ fn tmps assign body, (Instr.yield X2.y rargs).run P w2 = .ok (.round X2.y fn tmps assign body) w2 ∧ RoundIn Fence.wide 0 P X2.y fn tmps assign body w2 (Ends w0 X2 τ w2 v τ') := by
  unfold roundF at h
  split at h
  case isFalse => cases h
  rename_i hc
  simp only [Bool.and_eq_true, decide_eq_true_eq] at hc
  obtain ⟨hc1, hc2⟩ := hc
  simp only [Option.bind_eq_some_iff] at h
  obtain ⟨⟨e1, fr1, σ1⟩, h1, h⟩ := h
  cases e1 with
  | exit id => cases h
  | ret => cases h
  | normal =>
  simp only [Option.bind_eq_some_iff] at h
  obtain ⟨⟨e2, fr2, σ2⟩, h2, h⟩ := h
  cases e2 with
  | exit id => cases h
  | ret => cases h
  | normal =>
  simp only [Option.map_eq_some_iff] at h
  obtain ⟨z, h3, h4⟩ := h
  cases h4
  have hsz : rargs.size = (loopRec fnid a ps assign body D).params.size := by
    have := hr.1
    simp only [Array.length_toList] at this
    show rargs.size = ps.size
    rw [← this, hc1]; simp
  refine ⟨_, _, _, _, run_yield hL.at_ hsz, roundIn_of_wpIn trivial ?_⟩
  have htm : (((loopRec fnid a ps assign body D).params.zip rargs).foldl (fun tmps (t, a) => tmps.setIfInBounds t a) (loopRec fnid a ps assign body D).tmps) = setAll a.tmps (ps.toList.zip rargs.toList) := by
    unfold setAll
    rw [← Array.toList_zip, Array.foldl_toList]
    rfl
  rw [htm]
  have hX2 : ∀ {v u : Value}, plainArg v = true → relV X2 v u → relV (X2.at_ X.y) v u := fun hp h => relV_at h hp
  have hmapl : (ps.toList.zip rargs.toList).map (·.1) = ps.toList := by
    rw [List.map_fst_zip]
    have := hr.1
    omega
  have G1 : Good w0 w2.heap.size n (X2.at_ X.y) { τ with dirty := [] } (ps.toList.zip args ++ fr) { tmps := setAll a.tmps (ps.toList.zip rargs.toList), defers := [] } w2 := by
    refine ⟨(S.at_ _).dirty [], fun t q ht => ?_, by show n ≤ (setAll _ _).size; rw [setAll_size]; exact G.size, Marks.nil (Nat.le_refl _), hh, hl⟩
    show relV (X2.at_ X.y) q ((setAll a.tmps (ps.toList.zip rargs.toList)).getD t undef)
    rcases frget_append ht with h5 | ⟨h5, h6⟩
    · obtain ⟨i, i1, i2, _⟩ := frget_zip h5
      obtain ⟨u, hu, hrel⟩ := hr.get i2
      rw [setAll_at (u := u) (ps.toList.zip rargs.toList) a.tmps i (by rw [List.getElem?_zip_eq_some]; exact ⟨i1, hu⟩) (by rw [hmapl]; exact hnd) (Nat.lt_of_lt_of_le (hlt t (List.mem_of_getElem? i1)) G.size)]
      exact hX2 (List.all_eq_true.1 hc2 q (List.mem_of_getElem? i2)) hrel
    · rw [setAll_not]
      · exact (G.fr t q h6).evo hE
      · intro p hp e
        have hpm : p.1 ∈ ps.toList := by rw [← hmapl]; exact List.mem_map_of_mem hp
        obtain ⟨i, hi⟩ := List.mem_iff_getElem?.1 hpm
        have hia : i < args.length := by rw [hc1]; exact (List.getElem?_eq_some_iff.1 hi).1
        exact h5 (p.1, args[i]) (List.mem_iff_getElem?.2 ⟨i, by rw [List.getElem?_zip_eq_some]; exact ⟨hi, List.getElem?_eq_getElem hia⟩⟩) e
  have A1 := exec_ast hcf.ast m pa _ { τ with dirty := [] } _ _ _ hl h1
  refine exec_sound0 (r := some X2.y) hcf hm assign [] [] oa la pa hpa _ _ _ _ _ h1 _ _ w2 G1 trivial _ fun a1 w3 ⟨X3, G3, s3⟩ => ?_
  obtain ⟨c1, c2⟩ := s3.clear (heap_lt hL.at_) hL.clear
  rw [hL.at_] at c1
  refine ⟨_, run_beginRound c1 rfl, ?_⟩
  have G3' : Good w0 w2.heap.size n X3 σ1 fr1 a1 (w3.putObj X2.y (.loop { loopRec fnid a ps assign body D with state := .busy })) := by
    refine ⟨G3.sim.put _ hL.low c2, G3.fr, G3.size, ⟨fun d hd => ?_, G3.defers.one, by have := G3.defers.low; simpa [World.putObj] using this⟩, G3.hid, G3.lock⟩
    obtain ⟨E, k1, k2, k3, k4⟩ := G3.defers.each d hd
    have hne : E ≠ X2.y := fun e => by rw [e, c1] at k2; cases k2
    exact ⟨E, k1, by rw [World.putObj_heap_other hne]; exact k2, k3, k4⟩
  have A2 := exec_ast hcf.ast m pb _ σ1 _ _ _ (by rw [A1.lock]; exact Nat.le_trans hl A1.len) h2
  refine exec_sound0 (r := some X2.y) hcf hm body [] [] ob lb pb hpb _ _ _ _ _ h2 _ _ _ G3' trivial _ fun a2 w4 ⟨X4, G4, s4⟩ => ?_
  have hb3 : (w3.putObj X2.y (.loop { loopRec fnid a ps assign body D with state := .busy })).heap[X2.y]? = some (.loop { loopRec fnid a ps assign body D with state := .busy }) := World.putObj_heap_same (heap_lt c1)
  obtain ⟨c3, c4⟩ := s4.clear (heap_lt hb3) c2
  rw [hb3] at c3
  refine ⟨_, _, run_endRound none c3, ?_⟩
  have sall := s3.trans A1 (Stp.back_put c1 s4)
  have S5 := G4.sim.put (Obj.loop (loopRec fnid a ps assign body D)) hL.low c4
  obtain ⟨X5, gd, s5, _⟩ := gc_step (τ0 := { τ with dirty := [] }) S5 (A1.trans A2) rfl sall ((S.at_ X.y).dirty []) hh hl (vs' := z.1) (σ' := z.2) h3
  exact ⟨.bool true, X5.at_ X2.y, rfl, (relV_sc rfl).2 rfl, (gd.sim.at_ X2.y).dirty _, (s5.dirty).at_ X2.y⟩

/-- What shutting the marks leaves as it is. -/
structure Alike (lo : Nat) (w w' : World) : Prop where
  size : w'.heap.size = w.heap.size
  low : ∀ k, k < lo → w'.heap[k]? = w.heap[k]?
  os : w'.os = w.os
  tape : w'.tape = w.tape
  output : w'.output = w.output
theorem leaves_marks {F : Fence} {n : Nat} {fn : Func} {tmps : Array Value} {R : Ending → World → Prop} {X : Emb} {σ : St} (hlo : w0.heap.size ≤ lo) : ∀ (ds : List Deferred) (w : World), Marks lo X ds w → Sim w0 X σ w →
    (∀ w', Sim w0 X σ w' → Alike lo w w' → ∃ v, (results fn tmps).run P w' = .ok v w' ∧ R (.returned v) w') → LeavesInM F n P fn tmps R ds .returning w
  | [], w, M, S, h => by
    simp only [LeavesInM, LeavesIn]
    exact h w S ⟨rfl, fun _ _ => rfl, rfl, rfl, rfl⟩
  | d :: ds, w, M, S, h => by
    obtain ⟨D, h1, h2, h3, h4⟩ := M.each d List.mem_cons_self
    have hnd := List.nodup_cons.1 M.one
    simp only [LeavesInM]
    refine ⟨by simp, .inl ⟨D, w.putObj D (.deferred none), by rw [h1], run_takeDeferred h2, ?_⟩⟩
    refine leaves_marks hlo ds _ ⟨fun d' hd' => ?_, hnd.2, by have := M.low; simpa [World.putObj] using this⟩ (S.put _ (by omega) h4) fun w' S' A => h w' S' ?_
    · obtain ⟨D', k1, k2, k3, k4⟩ := M.each d' (List.mem_cons_of_mem _ hd')
      have hne : D' ≠ D := fun e => hnd.1 (by rw [h1, ← e, ← k1]; exact hd')
      exact ⟨D', k1, by rw [World.putObj_heap_other hne]; exact k2, k3, k4⟩
    · exact ⟨A.size.trans (by simp [World.putObj]), fun k hk => (A.low k hk).trans (World.putObj_heap_other (by omega)), A.os, A.tape, A.output⟩
/-- A call, out of the walk of the function's code. -/
theorem calls_marks {fid : FuncId} {f : Func} {c : Code} (hf : P.funcs[fid]? = some f) (hb : f.body = some c) {args : Array Value} {w : World} {R : Ending → World → Prop} (hlo : w0.heap.size ≤ w.heap.size)
    (h : c.wpIn (Mono.fw none) 0 P (fun e a' w' => (e = .normal ∨ e = .ret) ∧ ∃ X' σ', Sim w0 X' σ' w' ∧ Marks w.heap.size X' a'.defers w' ∧ ∀ w2, Sim w0 X' σ' w2 → Alike w.heap.size w' w2 → ∃ v, (results f a'.tmps).run P w2 = .ok v w2 ∧ R (.returned v) w2)
      { tmps := args ++ Array.replicate (f.ntmps - args.size) undef, defers := [] } w) : Calls P fid args w R := by
  refine (callsIn_wide (n := 0)).1 (callsIn_of_wp_marks (F := Fence.wide) hf hb trivial (wpIn_mono h fun e a' w' ⟨he, X', σ', S, M, hk⟩ => ?_))
  rcases he with rfl | rfl <;> exact leaves_marks hlo _ _ M S hk

/-- The function that is ranged over. -/
def ItOk (P : Program) (it : Option (Nat × ACode)) : Prop := ∀ g gc, it = some (g, gc) → ∃ fg cg live, P.funcs[g]? = some fg ∧ fg.name ≠ "runtime.NumGoroutine" ∧ fg.body = some cg ∧ fg.results = #[] ∧ comp P fg.ntmps none [] [] cg [] = some (gc, live)
theorem nodupB_nd : ∀ {l : List Nat}, nodupB l = true → l.Nodup
  | [], _ => List.nodup_nil
  | r :: l, h => by
    simp only [nodupB, Bool.and_eq_true, Bool.not_eq_true', List.contains_eq_mem, decide_eq_false_iff_not] at h
    exact List.nodup_cons.2 ⟨h.1, nodupB_nd h.2⟩
theorem rf_ok {callf : CallF} {it : Option (Nat × ACode)} {n m : Nat} (hcf : CallOk P w0 AnyY callf) (hm : P.follows .mixedOrders = true) (hit : ItOk P it) : RfOk P w0 lo AnyY callf n m none it := by
  intro x ps assign b exits fin out live ac hc fr σ ex fr' σ' h X a w G _ Q hQ
  simp only [comp, Option.bind_eq_some_iff] at hc
  obtain ⟨⟨g, gk⟩, rfl, hc⟩ := hc
  split at hc
  case isFalse => cases hc
  rename_i hk
  simp only [Bool.and_eq_true, List.all_eq_true, decide_eq_true_eq] at hk
  obtain ⟨⟨hk1, hk2⟩, hk3⟩ := hk
  simp only [Option.bind_eq_some_iff, Option.map_eq_some_iff] at hc
  obtain ⟨q, hq, p, hp, hc⟩ := hc
  cases hc
  simp only [exec] at h
  split at h
  case h_2 => cases h
  rename_i h' fi ca e
  split at h
  case isFalse => cases h
  rename_i hg
  simp only [Bool.and_eq_true, beq_iff_eq, Array.isEmpty_iff] at hg
  obtain ⟨rfl, rfl⟩ := hg
  simp only [Option.bind_eq_some_iff] at h
  obtain ⟨⟨e1, fr1, σ1⟩, h1, h⟩ := h
  obtain ⟨fg, cg, lv, i1, i2, i3, i4, i5⟩ := hit _ _ rfl
  obtain ⟨rf, rc, ev1, r1, r2⟩ := relV_funcf (G.fr.ev hk1 e)
  have hrf : rf = #[] := by
    have := r1.nil'
    simpa using this
  subst hrf
  have hen : Enters P h' := ⟨fg, i1, i2, by rw [i3]; rfl⟩
  refine wpIn_rangeFunc fun fnid _ => ?_
  obtain ⟨rec, hrec⟩ : ∃ rec, rec = loopRec fnid a ps assign b w.heap.size := ⟨_, rfl⟩
  obtain ⟨W1, hW1⟩ : ∃ W1, W1 = (w.alloc (.deferred (some []))).alloc (.loop rec) := ⟨_, rfl⟩
  have hl1 : W1.heap[w.heap.size + 1]? = some (.loop rec) := by
    rw [hW1]; have := World.alloc_heap_new (w.alloc (.deferred (some []))) (.loop rec); rwa [World.size_alloc] at this
  have hd1 : W1.heap[w.heap.size]? = some (.deferred (some [])) := by
    rw [hW1]; exact (Below.heap_alloc _ _ _ (by simp)).trans (World.alloc_heap_new w _)
  have hold : ∀ k, k < w.heap.size → W1.heap[k]? = w.heap[k]? := fun k hk => by
    rw [hW1]; exact (Below.heap_alloc _ _ _ (by simp; omega)).trans (Below.heap_alloc _ _ _ hk)
  have hW1s : W1.heap.size = w.heap.size + 2 := by rw [hW1]; simp
  have hbel : Below w.heap.size w W1 := by rw [hW1]; exact ((Below.refl _ w).alloc (Nat.le_refl _) _).alloc (by simp) _
  refine ⟨w.heap.size + 1, [{ target := .collected w.heap.size, args := #[] }], W1, { target := .fn (.func h') rc, args := #[.func (.yield (w.heap.size + 1)) #[] #[]] }, W1, h', #[.func (.yield (w.heap.size + 1)) #[] #[]] ++ rc, W1, ?_, ?_, fun _ _ => trivial, ?_, fun h => (by cases h), Mono.calls_fw (r := none) ?_⟩
  · rw [hW1, hrec]; exact run_enterLoop_outer _ _ _ _ _
  · simp only [resolve, ev1]
    simp [go_sem]
  · simp [invoke, go_sem, run_callFunc hen]
  -- the function that is ranged over
  have hy := withYield_ast hcf.ast (y := roundF (exec callf m p.1) (exec callf m q.1) ps.toList fr) fun args σ v σ' hl h => roundF_ast (fun fr σ e fr' σ' hl h => exec_ast hcf.ast m _ fr σ e fr' σ' hl h) (fun fr σ e fr' σ' hl h => exec_ast hcf.ast m _ fr σ e fr' σ' hl h) hl h
  have hcf' : CallOk P w0 (fun X2 w2 => LoopAt w0 rec X2 w2 ∧ Evo X (X2.at_ X.y)) (withYield callf (roundF (exec callf m p.1) (exec callf m q.1) ps.toList fr)) :=
    ⟨hy, fun X2 τ w2 X3 w3 ⟨k1, k2⟩ s => ⟨k1.step s, k2.trans ⟨s.evo.up, rfl⟩⟩, fun g args τ v τ' hgc => by
      cases g with
      | func f =>
        rcases hcf.call (.func f) args τ v τ' hgc with k1 | ⟨k, k1, _⟩
        · exact .inl k1
        · cases k1
      | yield k =>
        refine .inr ⟨k, rfl, fun X2 w2 rargs ⟨k1, k2⟩ S hh hl hr => ?_⟩
        rw [hrec] at k1
        exact round_sound hcf hm hp hq (nodupB_nd hk2) hk3 G k1 k2 S hh hl hr hgc
      | _ => simp [withYield] at hgc⟩
  have S1 : Sim w0 (X.at_ (w.heap.size + 1)) { σ with dirty := [] } W1 := by
    refine Sim.at_ (Sim.dirty ?_ []) _
    exact ⟨below_then G.sim.bel hbel, G.sim.dom, fun id bx h => ⟨by have := (G.sim.place id bx h).1; omega, (G.sim.place id bx h).2⟩, fun id bx g pl cs h1 h2 h3 => by
      obtain ⟨a1, a2, a3, a4, a5, a6⟩ := G.sim.cell id bx g pl cs h1 h2 h3
      have hlt := (G.sim.place id bx h1).1
      refine ⟨a1, a2, a3, a4, fun j v hj => ?_, fun ho => ?_⟩
      · obtain ⟨u, hu, hr⟩ := a5 j v hj
        exact ⟨u, by rw [hbel.cell hlt]; exact hu, hr⟩
      · obtain ⟨b1, rs, ty, lo, hi, b2, b3⟩ := a6 ho
        exact ⟨b1, rs, ty, lo, hi, by rw [hold _ hlt]; exact b2, b3⟩, G.sim.inj, G.sim.lock, G.sim.zero⟩
  have hlow : w0.heap.size ≤ w.heap.size := G.sim.bel.size
  have L1 : LoopAt w0 rec (X.at_ (w.heap.size + 1)) W1 := ⟨hl1, by show w0.heap.size ≤ w.heap.size + 1; omega, fun id bx hx e => by
    have := (G.sim.place id bx hx).1
    have e' : bx.b = w.heap.size + 1 := e
    omega⟩
  have hD1 : ∀ id bx, X id = some bx → bx.b ≠ w.heap.size := fun id bx hx e => by have := (G.sim.place id bx hx).1; omega
  have G1 : Good w0 W1.heap.size fg.ntmps (X.at_ (w.heap.size + 1)) { σ with dirty := [] } (argFr 0 (yieldv :: ca.toList)) { tmps := (#[Value.func (.yield (w.heap.size + 1)) #[] #[]] ++ rc) ++ Array.replicate (fg.ntmps - (#[Value.func (.yield (w.heap.size + 1)) #[] #[]] ++ rc).size) undef, defers := [] } W1 := by
    refine ⟨S1, fun t v ht => ?_, by simp; omega, Marks.nil (Nat.le_refl _), G.hid, G.lock⟩
    have hra : rel2 (relV (X.at_ (w.heap.size + 1))) (yieldv :: ca.toList) (#[Value.func (.yield (w.heap.size + 1)) #[] #[]] ++ rc).toList := by
      have : (#[Value.func (.yield (w.heap.size + 1)) #[] #[]] ++ rc).toList = Value.func (.yield (w.heap.size + 1)) #[] #[] :: rc.toList := by simp
      rw [this]
      exact rel2.cons ⟨#[], #[], rfl, rel2.nil, rel2.nil⟩ (r2.mono fun _ _ _ h => relV_of_relC (relC_at.2 h))
    obtain ⟨_, g2⟩ := argFr_get _ 0 t v ht
    rw [Nat.sub_zero] at g2
    obtain ⟨u, hu, hrel⟩ := hra.get g2
    have hlt : t < (#[Value.func (.yield (w.heap.size + 1)) #[] #[]] ++ rc).size := by have := (List.getElem?_eq_some_iff.1 hu).1; rwa [Array.length_toList] at this
    have : ((#[Value.func (.yield (w.heap.size + 1)) #[] #[]] ++ rc) ++ Array.replicate (fg.ntmps - (#[Value.func (.yield (w.heap.size + 1)) #[] #[]] ++ rc).size) undef).getD t undef = u := by
      rw [Array.getD_eq_getD_getElem?, Array.getElem?_append_left hlt, ← Array.getElem?_toList, hu]
      rfl
    show relV _ v (Array.getD _ t undef)
    rw [this]
    exact hrel
  have A1 := exec_ast hy m gk _ { σ with dirty := [] } _ _ _ G.lock h1
  refine calls_marks (w0 := w0) i1 i3 (by omega) (exec_sound0 (r := none) hcf' hm cg [] [] [] lv gk i5 _ _ _ _ _ h1 _ _ _ G1 ⟨L1, Evo.refl X⟩ _ fun a' w' ⟨X6, G6, s6⟩ => ?_)
  have hend : e1 ≠ .normal → e1 = .ret ∨ ∃ id, e1 = .exit id := fun hne => by cases e1 <;> simp_all
  have hfin : ∃ z, gc σ.heap.length [] σ1 = some z ∧ ex = .normal ∧ fr' = fr ∧ σ' = { z.2 with dirty := joinDirty σ.dirty z.2.dirty } ∧ (e1.real = .normal ∨ e1.real = .ret) := by
    unfold eachEnd at h
    cases e1 with
    | exit id => cases h
    | normal =>
      simp only [Option.map_eq_some_iff] at h
      obtain ⟨z, z1, z2⟩ := h
      cases z2
      exact ⟨z, z1, rfl, rfl, rfl, .inl rfl⟩
    | ret =>
      simp only [Option.map_eq_some_iff] at h
      obtain ⟨z, z1, z2⟩ := h
      cases z2
      exact ⟨z, z1, rfl, rfl, rfl, .inr rfl⟩
  obtain ⟨z, z1, rfl, rfl, rfl, z5⟩ := hfin
  refine ⟨z5, X6, σ1, G6.sim, G6.defers, fun w2 S2 al => ⟨.tuple #[], by simp [results, i4], ?_⟩⟩
  -- behind the loop
  have s6' := s6.after (w2 := w2) al.size al.low al.os al.tape al.output
  obtain ⟨c1, c2⟩ := s6'.clear (D := w.heap.size + 1) (by omega) (fun id bx hx => L1.clear id bx hx)
  obtain ⟨d1, d2⟩ := s6'.clear (D := w.heap.size) (by omega) (fun id bx hx => hD1 id bx hx)
  rw [hl1] at c1
  rw [hd1] at d1
  refine ⟨none, _, (run_endLoop c1 (by rw [hrec]; simp [loopRec])).trans (by rw [hrec]; rfl), ?_⟩
  have hps : ∀ (o : Obj), (w2.putObj (w.heap.size + 1) o).heap.size = w2.heap.size := fun o => by simp [World.putObj]
  obtain ⟨w7, hw7⟩ : ∃ w7, w7 = w2.putObj (w.heap.size + 1) (.loop { rec with state := .exhausted }) := ⟨_, rfl⟩
  have hs7 : w7.heap.size = w2.heap.size := by rw [hw7]; exact hps _
  have ho7 : ∀ k, k ≠ w.heap.size + 1 → w7.heap[k]? = w2.heap[k]? := fun k hk => by rw [hw7]; exact World.putObj_heap_other hk
  have S7 : Sim w0 (X6.at_ X.y) σ1 w7 := by rw [hw7]; exact (S2.put _ (by omega) c2).at_ _
  have s7 : Stp X { σ with dirty := [] } w (X6.at_ X.y) w7 := by
    refine ⟨by have := s6'.size; omega, by rw [hw7]; exact s6'.os.trans hbel.os, by rw [hw7]; exact s6'.tape.trans hbel.tape, by rw [hw7]; exact s6'.output.trans hbel.output, fun k hk hx => ?_, ⟨s6'.evo.up, rfl⟩, s6'.same, fun id bx' hb => ?_⟩
    · rw [ho7 k (by omega), s6'.frame k (by omega) hx, hold k hk]
    · rcases s6'.back id bx' hb with ⟨bx, b1, b2, b3⟩ | ⟨b1, b2, b3, b4⟩
      · exact .inl ⟨bx, b1, b2, b3.imp (fun h => h) fun h => by omega⟩
      · exact .inr ⟨b1, b2, by omega, b4⟩
  obtain ⟨X8, gd, s8, A8⟩ := gc_step (τ0 := { σ with dirty := [] }) S7 A1 rfl s7 (G.sim.dirty []) G.hid G.lock (vs' := z.1) (σ' := z.2) z1
  have hpost : Post w0 lo n X σ w fr' { z.2 with dirty := joinDirty σ.dirty z.2.dirty } { a with defers := [{ target := .collected w.heap.size, args := #[] }] ++ a.defers } w7 := by
    refine ⟨X8, ⟨gd.sim.dirty _, G.fr.evo s8.evo, G.size, ⟨fun d hd => ?_, ?_, by have := G.defers.low; have := s6'.size; omega⟩, fun t ht => ?_, ?_⟩, s8.dirty⟩
    · rcases List.mem_append.1 hd with hd | hd
      · simp only [List.mem_singleton] at hd
        refine ⟨w.heap.size, hd, by rw [ho7 _ (by omega), d1], G.defers.low, fun id bx hx => ?_⟩
        by_cases hi : id < σ.heap.length
        · rw [gd.low id hi] at hx; exact d2 id bx hx
        · obtain ⟨id0, _, k2⟩ := gd.high id bx (by show σ.heap.length ≤ id; omega) hx
          exact d2 id0 bx k2
      · exact (G.defers.step s8).each d hd
    · rw [List.singleton_append]
      refine List.nodup_cons.2 ⟨fun hm' => ?_, G.defers.one⟩
      obtain ⟨D, k1, k2, _, _⟩ := G.defers.each _ hm'
      cases k1
      have := heap_lt k2
      omega
    · have := A8.len
      exact Nat.lt_of_lt_of_le (G.hid t (by rw [← A8.hid]; exact ht)) this
    · have := A8.len
      have h2 := A8.lock
      show z.2.lock ≤ z.2.heap.length
      rw [h2]; exact Nat.le_trans G.lock this
  have := hQ _ _ hpost
  rw [hw7, hrec] at this
  exact this
theorem exec_sound {callf : CallF} {it : Option (Nat × ACode)} {n m : Nat} (hcf : CallOk P w0 AnyY callf) (hm : P.follows .mixedOrders = true) (hit : ItOk P it) (c : Code) (exits : List (Nat × List Nat)) (fin out live : List Nat) (ac : ACode) (hc : comp P n it exits fin c out = some (ac, live)) (fr : Fr) (σ : St) (ex : Ex) (fr' : Fr) (σ' : St) (h : exec callf m ac fr σ = some (ex, fr', σ'))
    (X : Emb) (a : Act) (w : World) (G : Good w0 lo n X σ fr a w) (Q : Exit → Act → World → Prop) (hQ : ∀ a' w', Post w0 lo n X σ w fr' σ' a' w' → Q ex.real a' w') : c.wpIn (Mono.fw none) 0 P Q a w :=
  exec_soundG hcf hm (rf_ok hcf hm hit) c exits fin out live ac hc fr σ ex fr' σ' h X a w G trivial Q hQ
theorem itOf_ok (P : Program) (c : Code) : ItOk P (itOf P c) := fun g gc h => by
  unfold itOf at h
  split at h
  · simp only [Option.bind_eq_some_iff] at h
    obtain ⟨g', _, fg, h2, d, h3, h⟩ := h
    split at h
    · rename_i hc
      simp only [Option.map_eq_some_iff] at h
      obtain ⟨p, h4, h5⟩ := h
      cases h5
      simp only [Bool.and_eq_true, bne_iff_ne, ne_eq, Array.isEmpty_iff] at hc
      exact ⟨fg, d, p.2, h2, hc.2, h3, hc.1, h4⟩
    · cases h
  · cases h
end
end AM
end Go.Proofs.Ytpjjkmfidghkjaa
end
section
namespace Go.Proofs.Ytpjjkmfidghkjaa
namespace AM
open Go Go.RowKit

section
variable {P : Program} {w0 : World} {lo : Nat}

theorem resv_sound {X : Emb} {σ : St} {fr : Fr} {a : Act} {w : World} (S : Sim w0 X σ w) (hf : FrR X fr a) : ∀ (l : List ResultVar) (rs : List ARes) (vs : List Value), compRes P l = some rs → resvs fr σ rs = some vs →
    ∃ us : List Value, (l.mapM (fun | .tmp t => pure (a.tmps.getD t undef) | .cell c t => do loadVar t (← asAddr (a.tmps.getD c undef)) : ResultVar → Sem Value)).run P w = .ok us w ∧ rel2 (relV X) vs us
  | [], rs, vs, hc, h => by
    simp only [compRes, Option.some.injEq] at hc
    subst hc
    simp only [resvs, Option.some.injEq] at h
    subst h
    exact ⟨[], by simp, rel2.nil⟩
  | .tmp t :: l, rs, vs, hc, h => by
    simp only [compRes, Option.map_eq_some_iff] at hc
    obtain ⟨rs', h1, rfl⟩ := hc
    simp only [resvs, Option.bind_eq_some_iff, Option.map_eq_some_iff] at h
    obtain ⟨v, hv, vs', hvs, rfl⟩ := h
    obtain ⟨us, e1, e2⟩ := resv_sound S hf l rs' vs' h1 hvs
    simp only [resv] at hv
    refine ⟨a.tmps.getD t undef :: us, ?_, e2.cons (hf t v hv)⟩
    rw [List.mapM_cons]
    simp only [Sem.run_bind, Sem.run_pure, Result.andThen_ok, e1]
  | .cell c t :: l, rs, vs, hc, h => by
    simp only [compRes, Option.bind_eq_some_iff, Option.map_eq_some_iff] at hc
    obtain ⟨n, hn, rs', h1, rfl⟩ := hc
    simp only [resvs, Option.bind_eq_some_iff, Option.map_eq_some_iff] at h
    obtain ⟨v, hv, vs', hvs, rfl⟩ := h
    obtain ⟨us, e1, e2⟩ := resv_sound S hf l rs' vs' h1 hvs
    simp only [resv] at hv
    split at hv
    · rename_i ad e
      simp only [Option.bind_eq_some_iff] at hv
      obtain ⟨⟨pl, cs⟩, hb, hv⟩ := hv
      obtain ⟨ra, q1, q2⟩ := relV_ptr (hf c _ e)
      obtain ⟨u, hu, hr⟩ := run_loadVar_rel (P := P) hn S hb q2 hv
      refine ⟨u :: us, ?_, e2.cons (relV_of_relF hr)⟩
      have q3 : (do loadVar t (← asAddr (a.tmps.getD c undef)) : Sem Value).run P w = .ok u w := by rw [q1]; simp [asAddr, hu]
      rw [List.mapM_cons, Sem.run_bind]
      erw [q3]
      simp only [Result.andThen_ok]
      rw [Sem.run_bind, e1]
      rfl
    · cases hv
theorem relF_of_relV {X : Emb} {v u : Value} (h : relV X v u) (hf : flatv v = true) : relF X v u := by
  cases v <;> first
    | exact h
    | simp [flatv] at hf
theorem res_sound {X : Emb} {vs : List Value} {us : List Value} {v : Value} (h : rel2 (relV X) vs us) (hr : resOf vs = some v) : relV X v (if h : us.toArray.size = 1 then us.toArray[0] else .tuple us.toArray) := by
  unfold resOf at hr
  split at hr
  · rename_i q
    cases hr
    obtain ⟨u, m, rfl, h1, h2⟩ := h.head
    have := h2.nil'
    subst this
    simpa using h1
  · rename_i hne
    split at hr
    · rename_i hall
      cases hr
      have hl := h.1
      have hn : ¬ us.toArray.size = 1 := by
        intro e
        simp at e
        have : vs.length = 1 := by omega
        match vs, this with
        | [q], _ => exact hne q rfl
      rw [dif_neg hn]
      exact ⟨us.toArray, rfl, by simpa using h.mono fun v hv u hr => relF_of_relV hr (List.all_eq_true.1 hall v hv)⟩
    · cases hr
theorem body_soundX {callf : CallF} (hcf : CallOk P w0 AnyY callf) (hm : P.follows .mixedOrders = true) {m : Nat} {fid : FuncId} {f : Func} {fn : AFn} (hf : P.funcs[fid]? = some f) (hc : compFn P f = some fn) {args : List Value} {σ σ' : St} {v : Value} (h : body callf m fn args σ = some (v, σ'))
    {X : Emb} {w : World} {rargs : Array Value} (S : Sim w0 X σ w) (hh : ∀ t ∈ σ.hid, t < σ.heap.length) (hl : σ.lock ≤ σ.heap.length) (hfr : FrR X (argFr 0 args) { tmps := rargs ++ Array.replicate (f.ntmps - rargs.size) undef, defers := [] }) :
    Calls P fid rargs w fun e w' => ∃ u X', e = .returned u ∧ relV X' v u ∧ Sim w0 X' σ' w' ∧ Stp X σ w X' w' := by
  simp only [compFn, Option.bind_eq_some_iff, Option.map_eq_some_iff] at hc
  obtain ⟨rs, hrs, c, hbody, ⟨ac, live⟩, hcomp, rfl⟩ := hc
  simp only [body, Option.bind_eq_some_iff] at h
  obtain ⟨⟨e1, fr1, σ1⟩, h1, h⟩ := h
  have G : Good w0 w.heap.size f.ntmps X { σ with dirty := [] } (argFr 0 args) { tmps := rargs ++ Array.replicate (f.ntmps - rargs.size) undef, defers := [] } w :=
    ⟨S.dirty [], hfr, by simp; omega, Marks.nil (Nat.le_refl _), hh, hl⟩
  have a1 := exec_ast hcf.ast m ac _ { σ with dirty := [] } _ _ _ hl h1
  refine calls_marks (w0 := w0) hf hbody S.bel.size (exec_sound hcf hm (itOf_ok P c) c [] _ _ live ac hcomp _ _ _ _ _ h1 X _ w G _ fun a' w' ⟨X1, G1, s1⟩ => ?_)
  have fin : (resvs fr1 σ1 rs).bind (fun vs => (resOf vs).bind fun u => (gc σ.heap.length [u] σ1).bind fun q => match q.1 with
      | [v] => some (v, { q.2 with dirty := joinDirty σ.dirty q.2.dirty })
      | _ => none) = some (v, σ') → ∀ w2, Sim w0 X1 σ1 w2 → Alike w.heap.size w' w2 → ∃ v1, (results f a'.tmps).run P w2 = .ok v1 w2 ∧ ∃ u X', (Ending.returned v1) = .returned u ∧ relV X' v u ∧ Sim w0 X' σ' w2 ∧ Stp X σ w X' w2 := by
    intro h w2 S2 al
    simp only [Option.bind_eq_some_iff] at h
    obtain ⟨vs, hvs, u, hu, ⟨q, σ2⟩, hg, h⟩ := h
    split at h
    · rename_i v' hq
      simp only at hq
      subst hq
      cases h
      obtain ⟨us, r1, r2⟩ := resv_sound (P := P) S2 G1.fr f.results.toList rs vs hrs hvs
      obtain ⟨X2, gd, s2, _⟩ := gc_step (τ0 := { σ with dirty := [] }) S2 a1 rfl (s1.after al.size al.low al.os al.tape al.output) (S.dirty []) hh hl hg
      refine ⟨if h : us.toArray.size = 1 then us.toArray[0] else .tuple us.toArray, ?_, _, X2, rfl, gd.vals.2 0 u v _ rfl rfl (res_sound r2 hu), gd.sim.dirty _, s2.dirty⟩
      simp only [results, Sem.run_bind]
      rw [Array.mapM_eq_mapM_toList, map_eq_pure_bind, Sem.run_bind]
      erw [r1]
      simp only [Result.andThen_ok, Sem.run_pure]
    · cases h
  cases e1 with
  | exit id => cases h
  | normal => exact ⟨.inl rfl, X1, σ1, G1.sim, G1.defers, fun w2 S2 al => fin h w2 S2 al⟩
  | ret => exact ⟨.inr rfl, X1, σ1, G1.sim, G1.defers, fun w2 S2 al => fin h w2 S2 al⟩
theorem body_sound {callf : CallF} (hcf : CallOk P w0 AnyY callf) (hm : P.follows .mixedOrders = true) {m : Nat} {fid : FuncId} {f : Func} {fn : AFn} (hf : P.funcs[fid]? = some f) (hc : compFn P f = some fn) {args : List Value} {σ σ' : St} {v : Value} (h : body callf m fn args σ = some (v, σ'))
    {X : Emb} {w : World} {rargs : Array Value} (S : Sim w0 X σ w) (hh : ∀ t ∈ σ.hid, t < σ.heap.length) (hl : σ.lock ≤ σ.heap.length) (hr : rel2 (relV X) args rargs.toList) :
    Calls P fid rargs w fun e w' => ∃ u X', e = .returned u ∧ relV X' v u ∧ Sim w0 X' σ' w' ∧ Stp X σ w X' w' := by
  refine body_soundX hcf hm hf hc h S hh hl fun t q ht => ?_
  obtain ⟨_, g2⟩ := argFr_get args 0 t q ht
  rw [Nat.sub_zero] at g2
  obtain ⟨u, hu, hrel⟩ := hr.get g2
  have hlt : t < rargs.size := by have := (List.getElem?_eq_some_iff.1 hu).1; simpa using this
  have : (rargs ++ Array.replicate (f.ntmps - rargs.size) undef).getD t undef = u := by
    rw [Array.getD_eq_getD_getElem?, Array.getElem?_append_left hlt, ← Array.getElem?_toList, hu]
    rfl
  show relV X q (Array.getD _ t undef)
  rw [this]
  exact hrel

/-- The translated functions are the program's. -/
def EnvOk (P : Program) (env : Env) : Prop := ∃ l, env = .base l ∧ ∀ i fn, lookFn l i = some fn → ∃ f, P.funcs[i]? = some f ∧ compFn P f = some fn ∧ f.name ≠ "runtime.NumGoroutine"
theorem compFn_body {f : Func} {fn : AFn} (h : compFn P f = some fn) : f.body.isSome = true := by
  simp only [compFn, Option.bind_eq_some_iff] at h
  obtain ⟨rs, _, c, hc, _⟩ := h
  rw [hc]; rfl
theorem runB_sound {l : List (Nat × AFn)} (he : ∀ i fn, lookFn l i = some fn → ∃ f, P.funcs[i]? = some f ∧ compFn P f = some fn ∧ f.name ≠ "runtime.NumGoroutine") (hm : P.follows .mixedOrders = true) : ∀ n, CallOk P w0 AnyY (runB l n)
  | 0 => ⟨runB_ast l 0, anyY_stable, fun g args σ v σ' h => by simp [runB] at h⟩
  | n + 1 => ⟨runB_ast l (n + 1), anyY_stable, fun g args σ v σ' h => by
    cases g with
    | func f =>
      simp only [runB, Option.bind_eq_some_iff] at h
      obtain ⟨fn, hfn, h⟩ := h
      obtain ⟨f', h1, h2, h3⟩ := he f fn hfn
      exact .inl ⟨f, rfl, ⟨f', h1, h3, compFn_body h2⟩, fun X w rargs S hh hl hr => body_sound (runB_sound he hm n) hm h1 h2 h S hh hl hr⟩
    | _ => simp [runB] at h⟩
theorem run_sound {env : Env} (he : EnvOk P env) (hm : P.follows .mixedOrders = true) (n : Nat) : CallOk P w0 AnyY (run env n) := by
  obtain ⟨l, rfl, h⟩ := he
  exact runB_sound h hm n
/-- A call without arguments that is run to its end. -/
theorem run_closed {env : Env} (he : EnvOk P env) (hm : P.follows .mixedOrders = true) {n f : Nat} {b : Bool} {σ' : St} (h : run env n (.func f) [] ⟨[], 0, [], []⟩ = some (.bool b, σ')) (w : World) :
    Calls P f #[] w fun e w' => e = .returned (.bool b) ∧ Below w.heap.size w w' := by
  obtain ⟨f', e, _, hc⟩ := ((run_sound (w0 := w) he hm n).call _ _ _ _ _ h).resolve_right (fun ⟨k, e, _⟩ => by cases e)
  cases e
  have S : Sim w ⟨fun _ => none, 0⟩ ⟨[], 0, [], []⟩ w := ⟨Below.refl _ _, fun id bx h => by (cases h), fun id bx h => by (cases h), fun id bx g pl cs h => by (cases h), fun i j bi bj h => by (cases h), fun id bx h => by (cases h), fun id bx h => by (cases h)⟩
  refine (hc _ w #[] S (by simp) (by simp) rel2.nil).mono fun e w' ⟨u, X', h1, h2, h3, h4⟩ => ?_
  rw [relV_bool h2] at h1
  exact ⟨h1, h3.bel⟩
def isTrue : Option (Value × St) → Bool
  | some (.bool true, _) => true
  | _ => false
theorem isTrue_eq {r : Option (Value × St)} (h : isTrue r = true) : ∃ σ', r = some (.bool true, σ') := by
  unfold isTrue at h
  split at h
  · exact ⟨_, rfl⟩
  · cases h
/-- A call without arguments that answers true, as the kernel finds by running it. -/
theorem closed_true {env : Env} (he : EnvOk P env) (hm : P.follows .mixedOrders = true) {n f : Nat} (h : isTrue (run env n (.func f) [] ⟨[], 0, [], []⟩) = true) (w : World) :
    Calls P f #[] w fun e w' => e = .returned (.bool true) ∧ Below w.heap.size w w' := by
  obtain ⟨σ', h'⟩ := isTrue_eq h
  exact run_closed he hm h' w
end
end AM
end Go.Proofs.Ytpjjkmfidghkjaa
end
section
namespace Go.Proofs.Ytpjjkmfidghkjaa
namespace AM
open Go Go.RowKit

/-! ### Limits of growing answers -/
def Grow {α : Type} (f : Nat → Option α) : Prop := ∀ n r, f n = some r → f (n + 1) = some r
theorem Grow.le {α : Type} {f : Nat → Option α} (h : Grow f) {n m : Nat} {r : α} (hn : f n = some r) (hm : n ≤ m) : f m = some r := by
  induction hm with
  | refl => exact hn
  | step _ ih => exact h _ _ ih
open Classical in
noncomputable def lim {α : Type} (f : Nat → Option α) : Option α := if h : ∃ n r, f n = some r then some (Classical.choose (Classical.choose_spec h)) else none
theorem lim_some {α : Type} {f : Nat → Option α} (h : Grow f) {r : α} : lim f = some r ↔ ∃ n, f n = some r := by
  unfold lim
  constructor
  · intro e
    split at e
    · rename_i hx
      cases e
      exact ⟨_, Classical.choose_spec (Classical.choose_spec hx)⟩
    · cases e
  · rintro ⟨n, e⟩
    have hx : ∃ n r, f n = some r := ⟨n, r, e⟩
    rw [dif_pos hx]
    have h1 := Classical.choose_spec (Classical.choose_spec hx)
    have a1 := h.le e (Nat.le_max_left n (Classical.choose hx))
    have a2 := h.le h1 (Nat.le_max_right n (Classical.choose hx))
    rw [a1] at a2
    exact a2.symm
theorem lim_ext {α : Type} {f g : Nat → Option α} (hf : Grow f) (hg : Grow g) (h : ∀ r, (∃ n, f n = some r) ↔ ∃ n, g n = some r) : lim f = lim g := by
  cases e : lim f with
  | some r => exact ((lim_some hg).2 ((h r).1 ((lim_some hf).1 e))).symm
  | none =>
    cases e' : lim g with
    | none => rfl
    | some r => rw [(lim_some hf).2 ((h r).2 ((lim_some hg).1 e'))] at e; cases e
theorem Grow.const {α : Type} (x : Option α) : Grow fun _ => x := fun _ _ h => h
theorem lim_const {α : Type} (x : Option α) : lim (fun _ : Nat => x) = x := by
  cases x with
  | some r => exact (lim_some (Grow.const _)).2 ⟨0, rfl⟩
  | none =>
    cases e : lim (fun _ : Nat => (none : Option α)) with
    | none => rfl
    | some r => obtain ⟨_, h⟩ := (lim_some (Grow.const _)).1 e; cases h
theorem Grow.bind {α β : Type} {f : Nat → Option α} {g : Nat → α → Option β} (hf : Grow f) (hg : ∀ a, Grow fun n => g n a) : Grow fun n => (f n).bind (g n) := fun n r h => by
  simp only [Option.bind_eq_some_iff] at h ⊢
  obtain ⟨a, h1, h2⟩ := h
  exact ⟨a, hf n a h1, hg a n r h2⟩
theorem lim_bind {α β : Type} {f : Nat → Option α} {g : Nat → α → Option β} (hf : Grow f) (hg : ∀ a, Grow fun n => g n a) : lim (fun n => (f n).bind (g n)) = (lim f).bind fun a => lim fun n => g n a := by
  cases e : lim f with
  | none =>
    simp only [Option.bind_none]
    cases e' : lim (fun n => (f n).bind (g n)) with
    | none => rfl
    | some r =>
      obtain ⟨n, h⟩ := (lim_some (hf.bind hg)).1 e'
      simp only [Option.bind_eq_some_iff] at h
      obtain ⟨a, h1, _⟩ := h
      rw [(lim_some hf).2 ⟨n, h1⟩] at e; cases e
  | some a =>
    simp only [Option.bind_some]
    obtain ⟨n, hn⟩ := (lim_some hf).1 e
    refine lim_ext (hf.bind hg) (hg a) fun r => ⟨fun ⟨m, h⟩ => ?_, fun ⟨m, h⟩ => ⟨max n m, ?_⟩⟩
    · simp only [Option.bind_eq_some_iff] at h
      obtain ⟨b, h1, h2⟩ := h
      have h3 := (lim_some hf).2 ⟨m, h1⟩
      rw [e] at h3
      cases h3
      exact ⟨m, h2⟩
    · simp only [Option.bind_eq_some_iff]
      exact ⟨a, hf.le hn (Nat.le_max_left _ _), (hg a).le h (Nat.le_max_right _ _)⟩
theorem lim_bindc {α β : Type} {f : Nat → Option α} (g : α → Option β) (hf : Grow f) : lim (fun n => (f n).bind g) = (lim f).bind g := by
  rw [lim_bind (g := fun _ => g) hf fun a => Grow.const _]
  exact congrArg _ (funext fun a => lim_const _)
theorem lim_map {α β : Type} {f : Nat → Option α} {g : α → β} (hf : Grow f) : lim (fun n => (f n).map g) = (lim f).map g := by
  have := lim_bind (g := fun _ a => some (g a)) hf fun a => Grow.const _
  simp only [lim_const] at this
  have e : ∀ x : Option α, x.map g = x.bind fun a => some (g a) := fun x => by cases x <;> rfl
  rw [e, ← this]
  congr 1
  funext n
  exact e _
theorem Grow.map {α β : Type} {f : Nat → Option α} {g : α → β} (hf : Grow f) : Grow fun n => (f n).map g := fun n r h => by
  simp only [Option.map_eq_some_iff] at h ⊢
  obtain ⟨a, h1, h2⟩ := h
  exact ⟨a, hf n a h1, h2⟩
theorem Grow.shift {α : Type} {f : Nat → Option α} (hf : Grow f) : Grow fun n => f (n + 1) := fun n r h => hf (n + 1) r h
theorem lim_shift {α : Type} {f : Nat → Option α} (hf : Grow f) : lim (fun n => f (n + 1)) = lim f :=
  lim_ext hf.shift hf fun r => ⟨fun ⟨n, h⟩ => ⟨n + 1, h⟩, fun ⟨n, h⟩ => ⟨n, hf n r h⟩⟩

/-! ### The machine grows -/
def GrowC (c : Nat → CallF) : Prop := ∀ g args σ, Grow fun n => c n g args σ
theorem aop_grow {c : Nat → CallF} (hc : GrowC c) (o : AOp) (fr : Fr) (σ : St) : Grow fun n => aop (c n) o fr σ := fun n r h => by
  cases o <;> first
    | exact h
    | skip
  case call f args =>
    simp only [aop] at h ⊢
    exact (Grow.bind (Grow.const _) fun vs => hc _ _ _) n r h
  case callv x args =>
    simp only [aop, Option.bind_eq_some_iff] at h ⊢
    obtain ⟨q, h1, vs, h2, h3⟩ := h
    refine ⟨q, h1, vs, h2, ?_⟩
    split at h3
    · split at h3
      · cases h3
      · rename_i hy
        rw [if_neg hy]
        exact hc _ _ _ n r h3
    · cases h3
theorem aops_grow {c : Nat → CallF} (hc : GrowC c) : ∀ (l : List AOper) (fr : Fr) (σ : St), Grow fun n => aops (c n) l fr σ
  | [], fr, σ => Grow.const _
  | o :: l, fr, σ => by
    simp only [aops]
    refine Grow.bind (Grow.const _) fun b => ?_
    cases b with
    | true => exact (aop_grow hc o.op fr σ).bind fun r => aops_grow hc l _ _
    | false => exact aops_grow hc l _ _
theorem dops_grow {c : Nat → CallF} (hc : GrowC c) : ∀ (l : List AOper) (born : List (Nat × Nat × Nat)) (j : Nat) (fr : Fr) (σ : St), Grow fun n => dops (c n) born j l fr σ
  | [], born, j, fr, σ => Grow.const _
  | o :: l, born, j, fr, σ => by
    simp only [dops]
    refine Grow.bind (Grow.const _) fun b => ?_
    cases b with
    | true => exact (aop_grow hc o.op fr _).bind fun r => dops_grow hc l _ _ _ _
    | false => exact dops_grow hc l _ _ _ _
theorem mops_grow {c : Nat → CallF} (hc : GrowC c) {m : Bool} {B : List Nat} : ∀ (l : List AOper) (seen : List (Bool × Nat)) (fr : Fr) (σ : St), Grow fun n => mops (c n) m B seen l fr σ
  | [], seen, fr, σ => Grow.const _
  | o :: l, seen, fr, σ => by
    simp only [mops]
    refine Grow.bind (Grow.const _) fun b => ?_
    cases b with
    | true =>
      simp only [if_true]
      split
      · split
        · exact (aop_grow hc o.op fr _).bind fun r => mops_grow hc l _ _ _
        · exact Grow.const _
      · refine Grow.bind (Grow.const _) fun tg => ?_
        split
        · exact Grow.bind (Grow.const _) fun r => mops_grow hc l _ _ _
        · exact Grow.const _
    | false => exact mops_grow hc l _ _ _
theorem iter_grow {B : Nat → Fr → St → Option (Ex × Fr × St)} {live : List Nat} {base : Nat} (hB : ∀ fr σ, Grow fun n => B n fr σ) : ∀ (n : Nat) (m : Nat) (fr : Fr) (σ : St) r, iter (B m) live base n fr σ = some r → iter (B (m + 1)) live base (n + 1) fr σ = some r
  | 0, m, fr, σ, r, h => by simp [iter] at h
  | n + 1, m, fr, σ, r, h => by
    rw [iter] at h ⊢
    simp only [Option.bind_eq_some_iff] at h ⊢
    obtain ⟨⟨e, fr1, σ1⟩, h1, h2⟩ := h
    refine ⟨_, hB fr σ m _ h1, ?_⟩
    cases e with
    | normal =>
      simp only [Option.bind_eq_some_iff] at h2 ⊢
      obtain ⟨p, h3, h4⟩ := h2
      exact ⟨p, h3, iter_grow hB n m _ _ r h4⟩
    | _ => exact h2
theorem iter_more {B : Fr → St → Option (Ex × Fr × St)} {live : List Nat} {base : Nat} : ∀ {n : Nat} (fr : Fr) (σ : St) {r}, iter B live base n fr σ = some r → iter B live base (n + 1) fr σ = some r := fun {n} fr σ {r} h =>
  iter_grow (B := fun _ => B) (fun _ _ => Grow.const _) n 0 fr σ r h
theorem iter_body {B B' : Fr → St → Option (Ex × Fr × St)} {live : List Nat} {base : Nat} (hB : ∀ fr σ r, B fr σ = some r → B' fr σ = some r) : ∀ (n : Nat) (fr : Fr) (σ : St) r, iter B live base n fr σ = some r → iter B' live base n fr σ = some r
  | 0, fr, σ, r, h => by simp [iter] at h
  | n + 1, fr, σ, r, h => by
    rw [iter] at h ⊢
    simp only [Option.bind_eq_some_iff] at h ⊢
    obtain ⟨⟨e, fr1, σ1⟩, h1, h2⟩ := h
    refine ⟨_, hB fr σ _ h1, ?_⟩
    cases e with
    | normal =>
      simp only [Option.bind_eq_some_iff] at h2 ⊢
      obtain ⟨p, h3, h4⟩ := h2
      exact ⟨p, h3, iter_body hB n _ _ r h4⟩
    | _ => exact h2
theorem withYield_grow {c : Nat → CallF} {y : Nat → List Value → St → Option (Value × St)} (hc : GrowC c) (hy : ∀ args σ, Grow fun n => y n args σ) : GrowC fun n => withYield (c n) (y n) := fun g args σ => by
  cases g with
  | func f => exact hc _ _ _
  | yield l => exact hy _ _
  | _ => exact Grow.const _
theorem noYield_grow {c : Nat → CallF} (hc : GrowC c) : GrowC fun n => noYield (c n) := withYield_grow hc fun _ _ => Grow.const _
theorem roundF_grow {ba b : Nat → Fr → St → Option (Ex × Fr × St)} {ps : List Nat} {fr : Fr} (ha : ∀ fr σ, Grow fun n => ba n fr σ) (hb : ∀ fr σ, Grow fun n => b n fr σ) (args : List Value) (σ : St) : Grow fun n => roundF (ba n) (b n) ps fr args σ := by
  unfold roundF
  split
  · refine (ha _ _).bind fun r => ?_
    obtain ⟨e, fr', σ'⟩ := r
    cases e with
    | normal =>
      refine (hb _ _).bind fun r => ?_
      exact Grow.const _
    | _ => exact Grow.const _
  · exact Grow.const _
theorem exec_grow1 : ∀ (k : ACode) {c : Nat → CallF} (hc : GrowC c) (fr : Fr) (σ : St), Grow fun n => exec (c n) n k fr σ
  | .skip, c, hc, fr, σ => Grow.const _
  | .ret, c, hc, fr, σ => Grow.const _
  | .exit id, c, hc, fr, σ => Grow.const _
  | .region ops, c, hc, fr, σ => by simp only [exec]; exact (aops_grow hc ops fr σ).map
  | .drawn ops, c, hc, fr, σ => by simp only [exec]; exact (dops_grow (noYield_grow hc) ops [] 0 fr σ).map
  | .moves xs m ops, c, hc, fr, σ => by
    simp only [exec]
    exact Grow.bind (Grow.const _) fun B => (mops_grow (noYield_grow hc) ops [] fr σ).map
  | .seq a b, c, hc, fr, σ => by
    simp only [exec]
    refine (exec_grow1 a hc fr σ).bind fun r => ?_
    obtain ⟨e, fr', σ'⟩ := r
    cases e with
    | normal => exact exec_grow1 b hc _ _
    | _ => exact Grow.const _
  | .cond x a b, c, hc, fr, σ => by
    simp only [exec]
    split
    · exact exec_grow1 a hc _ _
    · exact exec_grow1 b hc _ _
    · exact Grow.const _
  | .block id b, c, hc, fr, σ => by simp only [exec]; exact (exec_grow1 b hc fr σ).map
  | .loop live b, c, hc, fr, σ => by
    simp only [exec]
    refine Grow.map fun n r h => ?_
    exact iter_grow (B := fun n => exec (c n) n b) (fun fr σ => exec_grow1 b hc fr σ) n n _ _ r h
  | .each x g gc ps ba b, c, hc, fr, σ => by
    simp only [exec]
    split
    · split
      · exact (exec_grow1 gc (withYield_grow hc (roundF_grow (fun fr σ => exec_grow1 ba hc fr σ) (fun fr σ => exec_grow1 b hc fr σ))) _ _).bind fun r => Grow.const _
      · exact Grow.const _
    · exact Grow.const _
theorem exec_grow {c : Nat → CallF} (hc : GrowC c) (k : ACode) (fr : Fr) (σ : St) : Grow fun n => exec (c n) n k fr σ := exec_grow1 k hc fr σ
theorem body_grow {c : Nat → CallF} (hc : GrowC c) (fn : AFn) (args : List Value) (σ : St) : Grow fun n => body (c n) n fn args σ := by
  simp only [body]
  refine (exec_grow hc _ _ _).bind fun r => Grow.const _
theorem runB_grow (l : List (Nat × AFn)) : GrowC (runB l) := fun g args σ n => by
  induction n generalizing g args σ with
  | zero => intro r h; simp [runB] at h
  | succ n ih =>
    intro r h
    cases g with
    | func f =>
      simp only [runB, Option.bind_eq_some_iff] at h ⊢
      obtain ⟨fn, h1, h2⟩ := h
      refine ⟨fn, h1, ?_⟩
      -- one step of growth is enough
      let c : Nat → CallF := fun m => if m ≤ n then runB l n else runB l (n + 1)
      have hc : GrowC c := fun g args σ m r h => by
        simp only [c] at h ⊢
        by_cases h1 : m ≤ n
        · rw [if_pos h1] at h
          by_cases h2 : m + 1 ≤ n
          · rw [if_pos h2]; exact h
          · rw [if_neg h2]; exact ih g args σ r h
        · rw [if_neg h1] at h
          rw [if_neg (by omega)]; exact h
      have := body_grow hc fn args σ n r
      simp only [c, if_pos (Nat.le_refl n), if_neg (Nat.not_succ_le_self n)] at this
      exact this h2
    | _ => simp [runB] at h
theorem run_grow : ∀ (env : Env), GrowC (run env)
  | .base l => runB_grow l
  | .yl e ps ba b fr => withYield_grow (run_grow e) (roundF_grow (fun fr σ => exec_grow (run_grow e) ba fr σ) (fun fr σ => exec_grow (run_grow e) b fr σ))

/-! ### Without fuel -/
noncomputable def Lrun (env : Env) : CallF := fun g args σ => lim fun n => run env n g args σ
noncomputable def Lexec (env : Env) (k : ACode) (fr : Fr) (σ : St) : Option (Ex × Fr × St) := lim fun n => exec (run env n) n k fr σ
noncomputable def Liter (env : Env) (b : ACode) (live : List Nat) (base : Nat) (fr : Fr) (σ : St) : Option (Ex × Fr × St) := lim fun n => iter (exec (run env n) n b) live base n fr σ

section
variable {env : Env}
theorem Lrun_some {g : Fn} {args : List Value} {σ : St} {r : Value × St} : Lrun env g args σ = some r ↔ ∃ n, run env n g args σ = some r := lim_some (run_grow env g args σ)
/-- The limit of growing calls. -/
noncomputable def limC (c : Nat → CallF) : CallF := fun g args σ => lim fun n => c n g args σ
variable {c : Nat → CallF}
theorem aop_lim (hc : GrowC c) (o : AOp) (fr : Fr) (σ : St) : lim (fun n => aop (c n) o fr σ) = aop (limC c) o fr σ := by
  cases o <;> first
    | exact lim_const _
    | skip
  case call f args =>
    simp only [aop]
    rw [lim_bind (Grow.const _) fun vs => hc _ _ _, lim_const]
    rfl
  case callv x args =>
    simp only [aop]
    refine (lim_bind (Grow.const _) fun v => Grow.bind (Grow.const _) fun vs => ?_).trans ?_
    · cases v <;> first
        | exact Grow.const _
        | (dsimp only; split <;> first | exact Grow.const _ | exact hc _ _ _)
    · rw [lim_const]
      congr 1
      funext v
      refine (lim_bind (Grow.const _) fun vs => ?_).trans ?_
      · cases v <;> first
          | exact Grow.const _
          | (dsimp only; split <;> first | exact Grow.const _ | exact hc _ _ _)
      · rw [lim_const]
        congr 1
        funext vs
        cases v <;> first
          | exact lim_const _
          | (dsimp only; split <;> first | exact lim_const _ | rfl)
theorem aops_lim (hc : GrowC c) : ∀ (l : List AOper) (fr : Fr) (σ : St), lim (fun n => aops (c n) l fr σ) = aops (limC c) l fr σ
  | [], fr, σ => lim_const _
  | o :: l, fr, σ => by
    simp only [aops]
    refine (lim_bind (Grow.const _) fun b => ?_).trans ?_
    · cases b with
      | true => exact (aop_grow hc o.op fr σ).bind fun r => aops_grow hc l _ _
      | false => exact aops_grow hc l _ _
    · rw [lim_const]
      congr 1
      funext b
      cases b with
      | true =>
        refine (lim_bind (aop_grow hc o.op fr σ) fun r => aops_grow hc l _ _).trans ?_
        rw [aop_lim hc]
        exact congrArg _ (funext fun r => aops_lim hc l _ _)
      | false => exact aops_lim hc l _ _
theorem dops_lim (hc : GrowC c) : ∀ (l : List AOper) (born : List (Nat × Nat × Nat)) (j : Nat) (fr : Fr) (σ : St), lim (fun n => dops (c n) born j l fr σ) = dops (limC c) born j l fr σ
  | [], born, j, fr, σ => lim_const _
  | o :: l, born, j, fr, σ => by
    simp only [dops]
    refine (lim_bind (Grow.const _) fun b => ?_).trans ?_
    · cases b with
      | true => exact (aop_grow hc o.op fr _).bind fun r => dops_grow hc l _ _ _ _
      | false => exact dops_grow hc l _ _ _ _
    · rw [lim_const]
      congr 1
      funext b
      cases b with
      | true =>
        refine (lim_bind (aop_grow hc o.op fr _) fun r => dops_grow hc l _ _ _ _).trans ?_
        rw [aop_lim hc]
        exact congrArg _ (funext fun r => dops_lim hc l _ _ _ _)
      | false => exact dops_lim hc l _ _ _ _
theorem limC_run : limC (run env) = Lrun env := rfl
theorem mops_lim (hc : GrowC c) {m : Bool} {B : List Nat} : ∀ (l : List AOper) (seen : List (Bool × Nat)) (fr : Fr) (σ : St), lim (fun n => mops (c n) m B seen l fr σ) = mops (limC c) m B seen l fr σ
  | [], seen, fr, σ => lim_const _
  | o :: l, seen, fr, σ => by
    simp only [mops]
    cases hw : want o fr with
    | none => exact lim_const _
    | some b =>
      simp only [Option.bind_some]
      cases b with
      | false =>
        simp only [Bool.false_eq_true, if_false]
        exact mops_lim hc l _ _ _
      | true =>
        simp only [if_true]
        cases hwr : o.wr with
        | true =>
          simp only [if_true]
          cases m with
          | false => exact lim_const _
          | true =>
            simp only [if_true]
            refine (lim_bind (aop_grow hc o.op fr _) fun r => mops_grow hc l _ _ _).trans ?_
            rw [aop_lim hc]
            refine congrArg _ (funext fun r => ?_)
            exact mops_lim hc l _ _ _
        | false =>
          simp only [Bool.false_eq_true, if_false]
          cases ht : tgt fr o.op with
          | none => exact lim_const _
          | some tg =>
            simp only [Option.bind_some]
            split
            · cases ha : aop noCall o.op fr σ with
              | none => exact lim_const _
              | some r =>
                simp only [Option.bind_some]
                exact mops_lim hc l _ _ _
            · exact lim_const _
theorem limC_noYield : limC (fun n => noYield (run env n)) = noYield (Lrun env) := by
  funext g args σ
  cases g with
  | func f => rfl
  | _ => exact lim_const _

/-! ### The equations -/
theorem Lexec_skip (fr : Fr) (σ : St) : Lexec env .skip fr σ = some (.normal, fr, σ) := lim_const _
theorem Lexec_ret (fr : Fr) (σ : St) : Lexec env .ret fr σ = some (.ret, fr, σ) := lim_const _
theorem Lexec_exit (id : Nat) (fr : Fr) (σ : St) : Lexec env (.exit id) fr σ = some (.exit id, fr, σ) := lim_const _
theorem Lexec_region (ops : List AOper) (fr : Fr) (σ : St) : Lexec env (.region ops) fr σ = (aops (Lrun env) ops fr σ).map fun r => (.normal, r.1, r.2) := by
  unfold Lexec; simp only [exec]; rw [lim_map (aops_grow (run_grow env) ops fr σ), aops_lim (run_grow env)]; rfl
theorem Lexec_drawn (ops : List AOper) (fr : Fr) (σ : St) : Lexec env (.drawn ops) fr σ = (dops (noYield (Lrun env)) [] 0 ops fr σ).map fun r => (.normal, r.1, r.2) := by
  unfold Lexec; simp only [exec]; rw [lim_map (dops_grow (noYield_grow (run_grow env)) ops [] 0 fr σ), dops_lim (noYield_grow (run_grow env)), limC_noYield]
theorem Lexec_moves (xs : List Nat) (m : Bool) (ops : List AOper) (fr : Fr) (σ : St) : Lexec env (.moves xs m ops) fr σ = (boxes fr xs).bind fun B => (mops (noYield (Lrun env)) m B [] ops fr σ).map fun r => (.normal, r.1, r.2) := by
  unfold Lexec; simp only [exec]
  cases boxes fr xs with
  | none => exact lim_const _
  | some B =>
    simp only [Option.bind_some]
    rw [lim_map (mops_grow (noYield_grow (run_grow env)) ops [] fr σ), mops_lim (noYield_grow (run_grow env)), limC_noYield]
theorem Lexec_seq (a b : ACode) (fr : Fr) (σ : St) : Lexec env (.seq a b) fr σ = (Lexec env a fr σ).bind fun r => match r.1 with
    | .normal => Lexec env b r.2.1 r.2.2
    | e => some (e, r.2.1, r.2.2) := by
  unfold Lexec; simp only [exec]
  refine (lim_bind (exec_grow (run_grow env) a fr σ) fun r => ?_).trans ?_
  · obtain ⟨e, fr', σ'⟩ := r
    cases e with
    | normal => exact exec_grow (run_grow env) b _ _
    | _ => exact Grow.const _
  · refine congrArg _ (funext fun r => ?_)
    obtain ⟨e, fr', σ'⟩ := r
    cases e <;> first
      | rfl
      | exact lim_const _
theorem Lexec_cond (c : Operand) (a b : ACode) (fr : Fr) (σ : St) : Lexec env (.cond c a b) fr σ = match ev fr c with
    | some (.bool true) => Lexec env a fr σ
    | some (.bool false) => Lexec env b fr σ
    | _ => none := by
  unfold Lexec; simp only [exec]
  generalize ev fr c = q
  cases q with
  | none => exact lim_const _
  | some v => cases v <;> first
    | exact lim_const _
    | (rename_i b'; cases b' <;> rfl)
theorem Lexec_block (id : Nat) (b : ACode) (fr : Fr) (σ : St) : Lexec env (.block id b) fr σ = (Lexec env b fr σ).map fun r => match r.1 with
    | .exit i => if i = id then (.normal, r.2.1, r.2.2) else (.exit i, r.2.1, r.2.2)
    | e => (e, r.2.1, r.2.2) := by
  unfold Lexec; simp only [exec]
  refine (lim_map (exec_grow (run_grow env) b fr σ)).trans ?_
  refine congrArg (fun f => Option.map f _) (funext fun r => ?_)
  obtain ⟨e, fr', σ'⟩ := r
  cases e <;> rfl
theorem iter_diag (b : ACode) (live : List Nat) (base : Nat) (fr : Fr) (σ : St) : Grow fun n => iter (exec (run env n) n b) live base n fr σ := fun n r h =>
  iter_grow (B := fun n => exec (run env n) n b) (fun fr σ => exec_grow (run_grow env) b fr σ) n n fr σ r h
theorem Lexec_loop (live : List Nat) (b : ACode) (fr : Fr) (σ : St) : Lexec env (.loop live b) fr σ = (Liter env b live σ.heap.length (fr.keep live) { σ with dirty := [] }).map fun r => (r.1, r.2.1, { r.2.2 with dirty := joinDirty σ.dirty r.2.2.dirty }) := by
  unfold Lexec; simp only [exec]
  rw [lim_map (iter_diag b live _ _ _)]
  rfl
theorem Liter_eq (b : ACode) (live : List Nat) (base : Nat) (fr : Fr) (σ : St) : Liter env b live base fr σ = (Lexec env b fr σ).bind fun r => match r.1 with
    | .normal => (gcFr base (r.2.1.keep live) r.2.2).bind fun q => Liter env b live base q.1 q.2
    | e => some (e, r.2.1, r.2.2) := by
  have g1 : ∀ fr σ, Grow fun n => iter (exec (run env (n + 1)) (n + 1) b) live base n fr σ := fun fr σ n r h =>
    iter_grow (B := fun n => exec (run env (n + 1)) (n + 1) b) (fun fr σ => (exec_grow (run_grow env) b fr σ).shift) n n fr σ r h
  have e1 : ∀ fr σ, lim (fun n => iter (exec (run env (n + 1)) (n + 1) b) live base n fr σ) = Liter env b live base fr σ := fun fr σ => by
    refine lim_ext (g1 fr σ) (iter_diag b live base fr σ) fun r => ⟨fun ⟨n, h⟩ => ⟨n + 1, ?_⟩, fun ⟨n, h⟩ => ⟨n, ?_⟩⟩
    · -- more rounds do no harm
      exact iter_more _ _ h
    · exact iter_body (fun fr σ r h => exec_grow (run_grow env) b fr σ n r h) n fr σ r h
  unfold Liter
  rw [← lim_shift (iter_diag b live base fr σ)]
  simp only [iter]
  refine (lim_bind (f := fun n => exec (run env (n + 1)) (n + 1) b fr σ) (exec_grow (run_grow env) b fr σ).shift fun r => ?_).trans ?_
  · obtain ⟨e, fr', σ'⟩ := r
    cases e with
    | normal => exact Grow.bind (Grow.const _) fun q => g1 _ _
    | _ => exact Grow.const _
  · rw [lim_shift (exec_grow (run_grow env) b fr σ)]
    refine congrArg _ (funext fun r => ?_)
    obtain ⟨e, fr', σ'⟩ := r
    cases e with
    | normal =>
      refine (lim_bind (Grow.const _) fun q => g1 _ _).trans ?_
      rw [lim_const]
      exact congrArg _ (funext fun q => e1 _ _)
    | _ => exact lim_const _
/-- What a function's end makes of a run of its code. -/
def fin (rs : List ARes) (σ : St) (r : Ex × Fr × St) : Option (Value × St) := match r.1 with
    | .exit _ => none
    | _ => (resvs r.2.1 r.2.2 rs).bind fun vs => (resOf vs).bind fun u => (gc σ.heap.length [u] r.2.2).bind fun q => match q.1 with
      | [v] => some (v, { q.2 with dirty := joinDirty σ.dirty q.2.dirty })
      | _ => none
theorem EnvOk.nil {P : Program} : EnvOk P (.base []) := ⟨_, rfl, fun i fn h => by cases h⟩
theorem EnvOk.cons {P : Program} {l : List (Nat × AFn)} {i : Nat} {fn : AFn} {f : Func} (h1 : P.funcs[i]? = some f) (h2 : compFn P f = some fn) (h3 : f.name ≠ "runtime.NumGoroutine") (h : EnvOk P (.base l)) : EnvOk P (.base ((i, fn) :: l)) := ⟨_, rfl, fun k g hk => by
  obtain ⟨l', e, h⟩ := h
  cases e
  simp only [lookFn] at hk
  split at hk
  · rename_i e; subst e; cases hk; exact ⟨f, h1, h2, h3⟩
  · exact h k g hk⟩
theorem Lrun_fn {f : Nat} {fn : AFn} (h : env.fn f = some fn) (args : List Value) (σ : St) : Lrun env (.func f) args σ = (Lexec env fn.code (argFr 0 args) { σ with dirty := [] }).bind (fin fn.results σ) := by
  cases env with
  | yl e ps ba b fr => cases h
  | base l =>
    have h' : lookFn l f = some fn := h
    unfold Lrun
    rw [← lim_shift (run_grow (.base l) (.func f) args σ)]
    show lim (fun n => (lookFn l f).bind fun fn => body (runB l n) n fn args σ) = _
    rw [h']
    exact lim_bindc (fin fn.results σ) (exec_grow (run_grow (.base l)) _ _ _)
theorem Lrun_yl_func (e : Env) (ps : List Nat) (ba b : ACode) (fr : Fr) (f : Nat) (args : List Value) (σ : St) : Lrun (.yl e ps ba b fr) (.func f) args σ = Lrun e (.func f) args σ := rfl
theorem Lrun_yl_yield (e : Env) (ps : List Nat) (ba b : ACode) (fr : Fr) (k : Nat) (args : List Value) (σ : St) : Lrun (.yl e ps ba b fr) (.yield k) args σ = roundF (Lexec e ba) (Lexec e b) ps fr args σ := by
  show lim (fun n => roundF (exec (run e n) n ba) (exec (run e n) n b) ps fr args σ) = _
  unfold roundF
  split
  · refine (lim_bind (exec_grow (run_grow e) ba _ _) fun r => ?_).trans ?_
    · obtain ⟨x, fr', σ'⟩ := r
      cases x with
      | normal => exact (exec_grow (run_grow e) b _ _).bind fun r => Grow.const _
      | _ => exact Grow.const _
    · refine congrArg _ (funext fun r => ?_)
      obtain ⟨x, fr', σ'⟩ := r
      cases x with
      | normal => exact lim_bindc _ (exec_grow (run_grow e) b _ _)
      | _ => exact lim_const _
  · exact lim_const _
theorem Lexec_each (x : Operand) (g : Nat) (gk : ACode) (ps : List Nat) (ba b : ACode) (fr : Fr) (σ : St) : Lexec env (.each x g gk ps ba b) fr σ = match ev fr x with
    | some (.func (.func h) fi ca) => if h == g && fi.isEmpty then (Lexec (.yl env ps ba b fr) gk (argFr 0 (yieldv :: ca.toList)) { σ with dirty := [] }).bind (eachEnd fr σ) else none
    | _ => none := by
  unfold Lexec; simp only [exec]
  generalize ev fr x = q
  cases q with
  | none => exact lim_const _
  | some v =>
    cases v <;> first
      | exact lim_const _
      | skip
    rename_i h fi ca
    cases h <;> first
      | exact lim_const _
      | skip
    rename_i h
    dsimp only
    split
    · exact lim_bindc (eachEnd fr σ) (exec_grow (run_grow (.yl env ps ba b fr)) gk (argFr 0 (yieldv :: ca.toList)) { σ with dirty := [] })
    · exact lim_const _
end
end AM
end Go.Proofs.Ytpjjkmfidghkjaa
end
