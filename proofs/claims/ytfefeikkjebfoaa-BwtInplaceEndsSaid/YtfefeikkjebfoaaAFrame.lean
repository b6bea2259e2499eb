/-
  THE ABSTRACT MACHINE's FRAMES, and the regions whose order is fixed. Conditions: the calls are sound.
-/
import Derived.Test.YtfefeikkjebfoaaAGc
namespace Go.Proofs.Ytfefeikkjebfoaa
namespace AM
open Go Go.RowKit

section
variable {P : Program} {w0 : World}

def FrR (X : Emb) (fr : Fr) (a : Act) : Prop := ∀ t v, fr.get t = some v → relV X v (a.tmps.getD t undef)
theorem FrR.evo {X X' : Emb} {fr : Fr} {a : Act} (h : FrR X fr a) (e : Evo X X') : FrR X' fr a := fun t v ht => (h t v ht).evo e
theorem FrR.put {X : Emb} {fr : Fr} {a : Act} {v u : Value} {d : Option Nat} (h : FrR X fr a) (hv : relV X v u) (hd : ∀ k, d = some k → k < a.tmps.size) : FrR X (fr.put d v) (a.put d u) := by
  cases d with
  | none => exact h
  | some k =>
    have hk := hd k rfl
    intro t q ht
    simp only [Fr.put, Fr.get] at ht
    split at ht
    · rename_i e
      subst e
      cases ht
      simpa [Act.put, hk] using hv
    · rename_i e
      have : (a.put (some k) u).tmps.getD t undef = a.tmps.getD t undef := by
        simp [Act.put, Array.getElem?_setIfInBounds_ne e]
      rw [this]
      exact h t q ht
theorem relV_const {X : Emb} {v : Value} (h : constOk (.const v) = true) : relV X v v := by
  unfold constOk at h
  split at h
  · rename_i cs e
    cases e
    exact ⟨cs, rfl, rel2_sc_refl fun v hv => List.all_eq_true.1 h v hv⟩
  · rename_i e
    cases e
    exact (relV_sc h).2 rfl
  · cases h
  · rename_i h1 h2 _
    exact absurd rfl (h2 v)
theorem FrR.ev {X : Emb} {fr : Fr} {a : Act} (h : FrR X fr a) {x : Operand} (hc : constOk x = true) {v : Value} (hv : ev fr x = some v) : relV X v (a.eval x) := by
  cases x with
  | tmp t => exact h t v hv
  | const q => simp only [AM.ev, Option.some.injEq] at hv; subst hv; exact relV_const hc
  | func f => simp only [AM.ev, Option.some.injEq] at hv; subst hv; exact (relV_sc rfl).2 rfl
  | global g => simp [AM.ev] at hv

/-- The state, the frame and the world together. -/
structure Good (w0 : World) (n : Nat) (X : Emb) (σ : St) (fr : Fr) (a : Act) (w : World) : Prop where
  sim : Sim w0 X σ w
  fr : FrR X fr a
  size : n ≤ a.tmps.size
  defers : a.defers = []
  hid : ∀ t ∈ σ.hid, t < σ.heap.length
  lock : σ.lock ≤ σ.heap.length
theorem Good.step {n : Nat} {X X' : Emb} {σ σ' : St} {fr fr' : Fr} {a a' : Act} {w w' : World} (G : Good w0 n X σ fr a w) (h1 : Ast σ σ') (h2 : Sim w0 X' σ' w') (h3 : FrR X' fr' a') (h4 : a'.tmps.size = a.tmps.size) (h5 : a'.defers = a.defers) : Good w0 n X' σ' fr' a' w' :=
  ⟨h2, h3, by rw [h4]; exact G.size, h5.trans G.defers, fun t ht => Nat.lt_of_lt_of_le (G.hid t (by rw [← h1.hid]; exact ht)) h1.len, by rw [h1.lock]; exact Nat.le_trans G.lock h1.len⟩
/-- What a run leaves. -/
def Post (w0 : World) (n : Nat) (X : Emb) (σ : St) (w : World) (fr' : Fr) (σ' : St) (a' : Act) (w' : World) : Prop := ∃ X', Good w0 n X' σ' fr' a' w' ∧ Stp X σ w X' w'

theorem compOper_inv {ops : Array Oper} {n : Nat} {o : Oper} {ao : AOper} (hc : compOper P ops n o = some ao) : (∀ x ∈ o.op.operands.toList, constOk x = true) ∧ (∀ d, o.dst = some d → d < n) ∧ ∃ p, compOp P o.op = some p ∧
    ((o.guard = none ∧ ao = ⟨o.dst, none, 0, true, p⟩) ∨ ∃ g b s, o.guard = some (g, b) ∧ (ops[g]?).bind (·.dst) = some s ∧ ao = ⟨o.dst, some (s, b), 0, true, p⟩) := by
  unfold compOper at hc
  by_cases hk : (o.op.operands.toList.all constOk && dstOk n o.dst) = true
  · rw [if_pos hk] at hc
    simp only [Bool.and_eq_true] at hk
    simp only [Option.bind_eq_some_iff] at hc
    obtain ⟨p, hp, hc⟩ := hc
    refine ⟨fun x hx => List.all_eq_true.1 hk.1 x hx, fun d hd => by have := hk.2; rw [hd] at this; simpa [dstOk] using this, p, hp, ?_⟩
    cases hg : o.guard with
    | none => rw [hg] at hc; simp only [Option.some.injEq] at hc; exact .inl ⟨rfl, hc.symm⟩
    | some gb =>
      obtain ⟨g, b⟩ := gb
      rw [hg] at hc
      simp only at hc
      cases hs : (ops[g]?).bind (·.dst) with
      | none => rw [hs] at hc; simp at hc
      | some s => rw [hs] at hc; simp only [Option.some.injEq] at hc; exact .inr ⟨g, b, s, rfl, hs, hc.symm⟩
  · rw [if_neg hk] at hc; cases hc
/-- The guard's slot, read. -/
theorem want_slot {ops : Array Oper} {o : Oper} {ao : AOper} {X : Emb} {fr : Fr} {a : Act} {b : Bool} {p : AOp} {g s : Nat} {b' : Bool} (hg : o.guard = some (g, b')) (hs : (ops[g]?).bind (·.dst) = some s) (hao : ao = ⟨o.dst, some (s, b'), 0, true, p⟩)
    (hf : ∀ v, fr.get s = some v → relV X v (a.tmps.getD s undef)) (h : want ao fr = some b) : Region.wanted o (yielded ops a.tmps) = b := by
  subst hao
  simp only [want] at h
  simp only [Region.wanted, hg, yielded, hs, Option.bind_some]
  split at h
  · rename_i c e
    cases h
    have hr := relV_bool (hf _ e)
    have : a.tmps[s]? = some (.bool c) := by
      rw [Array.getD_eq_getD_getElem?] at hr
      cases he : a.tmps[s]? with
      | none => rw [he] at hr; simp [undef] at hr
      | some q => rw [he] at hr; simp at hr; rw [hr]
    rw [this]
    cases c <;> cases b' <;> rfl
  · rename_i vs e
    cases h
    obtain ⟨rs, hr, _⟩ := relV_tuple (hf _ e)
    rw [Array.getD_eq_getD_getElem?] at hr
    cases he : a.tmps[s]? with
    | none => cases b' <;> rfl
    | some q => rw [he] at hr; simp at hr; subst hr; cases b' <;> rfl
  · cases h
theorem want_real {ops : Array Oper} {n : Nat} {o : Oper} {ao : AOper} {X : Emb} {fr : Fr} {a : Act} {b : Bool} (hc : compOper P ops n o = some ao) (hf : FrR X fr a) (h : want ao fr = some b) : Region.wanted o (yielded ops a.tmps) = b := by
  obtain ⟨_, _, p, _, h2⟩ := compOper_inv hc
  rcases h2 with ⟨hg, rfl⟩ | ⟨g, b', s, hg, hs, hao⟩
  · simp only [want, Option.some.injEq] at h
    simp [Region.wanted, hg, h]
  · exact want_slot hg hs hao (fun v hv => hf s v hv) h
theorem compOper_op {ops : Array Oper} {n : Nat} {o : Oper} {ao : AOper} (hc : compOper P ops n o = some ao) : compOp P o.op = some ao.op ∧ ao.dst = o.dst ∧ (∀ x ∈ o.op.operands.toList, constOk x = true) ∧ ∀ d, o.dst = some d → d < n := by
  obtain ⟨h1, h2, p, hp, h3⟩ := compOper_inv hc
  rcases h3 with ⟨_, rfl⟩ | ⟨_, _, _, _, _, rfl⟩ <;> exact ⟨hp, rfl, h1, h2⟩
theorem relV_undefv {X : Emb} : relV X undefv undef := relV_undef
theorem size_put (a : Act) (d : Option Tmp) (v : Value) : (a.put d v).tmps.size = a.tmps.size := Mono.size_put a d v
theorem defers_put (a : Act) (d : Option Tmp) (v : Value) : (a.put d v).defers = a.defers := Mono.defers_put a d v

theorem aops_sound {callf : CallF} (hcf : CallOk P w0 callf) {ops : Array Oper} {n : Nat} {Q : Exit → Act → World → Prop} : ∀ (l : List Oper) (as : List AOper), compOpers P ops n l = some as → ∀ (fr : Fr) (σ : St) (fr' : Fr) (σ' : St), aops callf as fr σ = some (fr', σ') →
    ∀ (X : Emb) (a : Act) (w : World), Good w0 n X σ fr a w → (∀ a' w', Post w0 n X σ w fr' σ' a' w' → Q .normal a' w') → wpList P ops Q l a w
  | [], as, hc, fr, σ, fr', σ', h, X, a, w, G, hQ => by
    simp only [compOpers, Option.some.injEq] at hc
    subst hc
    simp only [aops, Option.some.injEq, Prod.mk.injEq] at h
    obtain ⟨rfl, rfl⟩ := h
    exact wpList_nil (hQ a w ⟨X, G, Stp.refl _ _ _⟩)
  | o :: l, as, hc, fr, σ, fr', σ', h, X, a, w, G, hQ => by
    simp only [compOpers, Option.bind_eq_some_iff, Option.map_eq_some_iff] at hc
    obtain ⟨ao, hao, as', has', rfl⟩ := hc
    simp only [aops, Option.bind_eq_some_iff] at h
    obtain ⟨b, hb, h⟩ := h
    have hw := want_real hao G.fr hb
    obtain ⟨c1, c2, c3, c4⟩ := compOper_op hao
    have hdst : ∀ k, ao.dst = some k → k < a.tmps.size := fun k hk => Nat.lt_of_lt_of_le (c4 k (by rw [← c2]; exact hk)) G.size
    cases b with
    | true =>
      simp only [if_true, Option.bind_eq_some_iff] at h
      obtain ⟨⟨v, σ1⟩, h1, h2⟩ := h
      have hg := aop_runs (w := w) (a := a) (X := X) hcf c1 G.sim G.hid G.lock (fun x hx v hv => G.fr.ev (c3 x hx) hv) h1
      have ha1 := aop_ast hcf.1 G.lock h1
      have next : ∀ u w1 X1, relV X1 v u → Sim w0 X1 σ1 w1 → Stp X σ w X1 w1 → Good w0 n X1 σ1 (fr.put ao.dst v) (a.put o.dst u) w1 := fun u w1 X1 r1 r2 r3 => by
        rw [← c2]
        exact G.step ha1 r2 ((G.fr.evo r3.evo).put r1 hdst) (size_put _ _ _) (defers_put _ _ _)
      refine wpList_step fun K hK => ?_
      rw [hw, if_pos rfl]
      refine Mono.wp_of_gives (T := After w0 X σ w v σ1) (fun u w1 ⟨X1, r1, r2, r3⟩ => ?_) hg
      exact hK _ _ (aops_sound (Q := Q) hcf l as' has' _ _ _ _ h2 X1 _ w1 (next u w1 X1 r1 r2 r3) fun a' w' ⟨X2, g2, s2⟩ => hQ a' w' ⟨X2, g2, r3.trans ha1 s2⟩)
    | false =>
      simp only [Bool.false_eq_true, if_false] at h
      have G1 : Good w0 n X σ (fr.put ao.dst undefv) (a.put o.dst undef) w := by
        rw [← c2]
        exact G.step (Ast.refl _) G.sim (G.fr.put relV_undefv hdst) (size_put _ _ _) (defers_put _ _ _)
      refine wpList_step fun K hK => ?_
      rw [hw, if_neg (by simp)]
      exact hK _ _ (aops_sound (Q := Q) hcf l as' has' _ _ _ _ h X _ w G1 hQ)
end
end AM
end Go.Proofs.Ytfefeikkjebfoaa
