/-
  REGIONS WHOSE ORDER IS DRAWN AND THAT ONLY MOVE VALUES: loads and stores of blocks that no other operation of the region writes. Conditions: the static conditions of 'statB'.
-/
import Derived.Test.YtfefeikkjebfoaaADrawn5
set_option linter.all false
namespace Go.Proofs.Ytfefeikkjebfoaa
namespace AM
open Go Go.RowKit

/-! ### One operation -/
theorem Sim.dirty' {w0 : World} {X : Emb} {σ : St} {w : World} (S : Sim w0 X σ w) (d : List Nat) : Sim w0 X { σ with dirty := d } w := ⟨S.bel, S.dom, S.place, S.cell, S.inj, S.lock, S.zero⟩
theorem blk_local {σ τ : St} {a : Addr} (h1 : τ.hid = σ.hid) (h2 : τ.heap[a.block]? = σ.heap[a.block]?) : τ.blk a = σ.blk a := by
  unfold St.blk; rw [h1, h2]
theorem write_local {σ σ' : St} {a : Addr} {vs : List Value} (h : σ.write a vs = some σ') : σ'.lock = σ.lock ∧ σ'.hid = σ.hid ∧ σ'.heap.length = σ.heap.length ∧ (∀ id, id ≠ a.block → σ'.heap[id]? = σ.heap[id]?) ∧
    ∀ τ : St, τ.lock = σ.lock → τ.hid = σ.hid → τ.heap[a.block]? = σ.heap[a.block]? → ∃ τ', τ.write a vs = some τ' ∧ τ'.heap[a.block]? = σ'.heap[a.block]? := by
  unfold St.write at h
  split at h
  · cases h
  · rename_i hl
    simp only [Option.bind_eq_some_iff] at h
    obtain ⟨⟨pl, cs⟩, hb, h⟩ := h
    split at h
    · rename_i hc
      split at h
      · rename_i g p2 c2 hg
        cases h
        refine ⟨rfl, rfl, by simp, fun id hne => ?_, fun τ t1 t2 t3 => ?_⟩
        · simp only []
          rw [List.getElem?_set, if_neg (fun e => hne e.symm)]
        · unfold St.write
          rw [t1, if_neg hl, blk_local t2 t3, hb]
          simp only [Option.bind_some]
          rw [if_pos hc, t3, hg]
          refine ⟨_, rfl, ?_⟩
          have l1 : a.block < σ.heap.length := (List.getElem?_eq_some_iff.1 hg).1
          have l2 : a.block < τ.heap.length := (List.getElem?_eq_some_iff.1 (t3.trans hg)).1
          simp only []
          rw [List.getElem?_set_self l1, List.getElem?_set_self l2]
      · cases h
    · cases h
theorem tgt_local {o : AOp} {fr : Fr} {σ σ' : St} {v : Value} {tg : List (Bool × Nat)} (ht : tgt fr o = some tg) (h : aop noCall o fr σ = some (v, σ')) :
    σ'.lock = σ.lock ∧ σ'.hid = σ.hid ∧ σ'.heap.length = σ.heap.length ∧ (∀ id, (true, id) ∉ tg → σ'.heap[id]? = σ.heap[id]?) ∧
    ∀ τ : St, τ.lock = σ.lock → τ.hid = σ.hid → (∀ p ∈ tg, τ.heap[p.2]? = σ.heap[p.2]?) → ∃ τ', aop noCall o fr τ = some (v, τ') ∧ ∀ id, (true, id) ∈ tg → τ'.heap[id]? = σ'.heap[id]? := by
  cases o <;> simp only [tgt] at ht <;> (try (cases ht))
  case mv x =>
    simp only [aop, Option.map_eq_some_iff] at h ⊢
    obtain ⟨u, hu, h⟩ := h
    cases h
    exact ⟨rfl, rfl, rfl, fun _ _ => rfl, fun τ _ _ _ => ⟨τ, ⟨_, hu, rfl⟩, fun id hid => by cases hid⟩⟩
  case load n x =>
    split at ht
    · rename_i a ha
      cases ht
      simp only [aop, ha, Option.bind_eq_some_iff, Option.map_eq_some_iff] at h ⊢
      obtain ⟨⟨pl, cs⟩, hb, u, hu, h⟩ := h
      cases h
      refine ⟨rfl, rfl, rfl, fun _ _ => rfl, fun τ t1 t2 t3 => ⟨τ, ⟨_, by rw [blk_local t2 (t3 (false, a.block) (by simp))]; exact hb, _, hu, rfl⟩, fun id hid => ?_⟩⟩
      simp at hid
    · cases ht
  case store n x y =>
    split at ht
    · rename_i a ha
      cases ht
      simp only [aop, ha, Option.bind_eq_some_iff] at h ⊢
      obtain ⟨u, hu, h⟩ := h
      split at h
      · rename_i hn
        simp only [Option.map_eq_some_iff] at h
        obtain ⟨σ1, hw, h⟩ := h
        cases h
        obtain ⟨w1, w2, w3, w4, w5⟩ := write_local hw
        refine ⟨w1, w2, w3, fun id hid => w4 id fun e => hid (by simp [e]), fun τ t1 t2 t3 => ?_⟩
        obtain ⟨τ', k1, k2⟩ := w5 τ t1 t2 (t3 (true, a.block) (by simp))
        refine ⟨τ', ⟨u, hu, by rw [if_pos hn, k1]; rfl⟩, fun id hid => ?_⟩
        simp at hid
        subst hid
        exact k2
      · cases h
    · cases ht

/-! ### The run in the text's order, as functions of the place -/
structure MTr (l : List AOper) (seen : List (Bool × Nat)) (st : Nat → St) (frm : Nat → Fr) (val : Nat → Value) (tg : Nat → List (Bool × Nat)) : Prop where
  guard : ∀ (i : Nat) (o : AOper), l[i]? = some o → o.guard = none
  tgt : ∀ (i : Nat) (o : AOper), l[i]? = some o → AM.tgt (frm i) o.op = some (tg i)
  does : ∀ (i : Nat) (o : AOper), l[i]? = some o → aop noCall o.op (frm i) (st i) = some (val i, st (i + 1))
  frame : ∀ (i : Nat) (o : AOper), l[i]? = some o → frm (i + 1) = (frm i).put o.dst (val i)
  seen : ∀ (i : Nat), i < l.length → ∀ p ∈ tg i, ∀ q ∈ seen, p.1 = true ∨ q.1 = true → p.2 ≠ q.2
  apart : ∀ (i k : Nat), i < l.length → k < i → ∀ p ∈ tg i, ∀ q ∈ tg k, p.1 = true ∨ q.1 = true → p.2 ≠ q.2
def consF {α : Type} (x : α) (f : Nat → α) : Nat → α
  | 0 => x
  | i + 1 => f i
theorem apart_ne {tg seen : List (Bool × Nat)} (h : apart tg seen = true) : ∀ p ∈ tg, ∀ q ∈ seen, p.1 = true ∨ q.1 = true → p.2 ≠ q.2 := fun p hp q hq hpq => by
  unfold AM.apart at h
  rw [List.all_eq_true] at h
  have h1 := h p hp
  rw [List.all_eq_true] at h1
  have h2 := h1 q hq
  simp only [Bool.or_eq_true, Bool.and_eq_true, Bool.not_eq_true', bne_iff_ne] at h2
  rcases h2 with ⟨h3, h4⟩ | h2
  · rcases hpq with e | e <;> simp_all
  · exact h2
theorem mops_trace : ∀ (l : List AOper) (seen : List (Bool × Nat)) (fr : Fr) (σ : St) (fr' : Fr) (σ' : St), mops seen l fr σ = some (fr', σ') →
    ∃ (st : Nat → St) (frm : Nat → Fr) (val : Nat → Value) (tg : Nat → List (Bool × Nat)), st 0 = σ ∧ frm 0 = fr ∧ st l.length = σ' ∧ frm l.length = fr' ∧ MTr l seen st frm val tg
  | [], seen, fr, σ, fr', σ', h => by
    simp only [mops, Option.some.injEq, Prod.mk.injEq] at h
    refine ⟨fun _ => σ, fun _ => fr, fun _ => undefv, fun _ => [], rfl, rfl, h.2, h.1, ⟨?_, ?_, ?_, ?_, ?_, ?_⟩⟩
    all_goals (first | (intro i o ho; simp at ho; done) | (intro i hi; simp at hi; done) | (intro i k hi; simp at hi; done))
  | o :: l, seen, fr, σ, fr', σ', h => by
    simp only [mops] at h
    split at h
    · cases h
    · rename_i hg
      simp only [Option.bind_eq_some_iff] at h
      obtain ⟨tg0, ht, h⟩ := h
      split at h
      · rename_i ha
        simp only [Option.bind_eq_some_iff] at h
        obtain ⟨⟨v, σ1⟩, h1, h2⟩ := h
        obtain ⟨st, frm, val, tg, e1, e2, e3, e4, T⟩ := mops_trace l _ _ _ _ _ h2
        refine ⟨consF σ st, consF fr frm, consF v val, consF tg0 tg, rfl, rfl, e3, e4, ⟨?_, ?_, ?_, ?_, ?_, ?_⟩⟩
        · intro i o' ho
          cases i with
          | zero => simp at ho; subst ho; simpa using hg
          | succ i => exact T.guard i o' (by simpa using ho)
        · intro i o' ho
          cases i with
          | zero => simp at ho; subst ho; exact ht
          | succ i => exact T.tgt i o' (by simpa using ho)
        · intro i o' ho
          cases i with
          | zero => simp at ho; subst ho; simp only [consF, e1]; exact h1
          | succ i => exact T.does i o' (by simpa using ho)
        · intro i o' ho
          cases i with
          | zero => simp at ho; subst ho; exact e2
          | succ i => exact T.frame i o' (by simpa using ho)
        · intro i hi p hp q hq
          cases i with
          | zero => exact apart_ne ha p hp q hq
          | succ i => exact T.seen i (by simpa using hi) p hp q (by simp [hq])
        · intro i k hi hk p hp q hq
          cases i with
          | zero => omega
          | succ i =>
            cases k with
            | zero => exact T.seen i (by simpa using hi) p hp q (List.mem_append_left _ hq)
            | succ k => exact T.apart i k (by simpa using hi) (by omega) p hp q hq
      · cases h

section
variable {l : List AOper} {seen : List (Bool × Nat)} {st : Nat → St} {frm : Nat → Fr} {val : Nat → Value} {tg : Nat → List (Bool × Nat)}
theorem MTr.loc (T : MTr l seen st frm val tg) : ∀ i, i ≤ l.length → (st i).lock = (st 0).lock ∧ (st i).hid = (st 0).hid ∧ (st i).heap.length = (st 0).heap.length
  | 0, _ => ⟨rfl, rfl, rfl⟩
  | i + 1, hi => by
    have ho : l[i]? = some (l[i]'(by omega)) := List.getElem?_eq_getElem _
    obtain ⟨h1, h2, h3⟩ := MTr.loc T i (by omega)
    obtain ⟨k1, k2, k3, _⟩ := tgt_local (T.tgt i _ ho) (T.does i _ ho)
    exact ⟨k1.trans h1, k2.trans h2, k3.trans h3⟩
theorem MTr.keep (T : MTr l seen st frm val tg) {id : Nat} : ∀ i, i ≤ l.length → (∀ k, k < i → (true, id) ∉ tg k) → (st i).heap[id]? = (st 0).heap[id]?
  | 0, _, _ => rfl
  | i + 1, hi, h => by
    have ho : l[i]? = some (l[i]'(by omega)) := List.getElem?_eq_getElem _
    obtain ⟨_, _, _, k4, _⟩ := tgt_local (T.tgt i _ ho) (T.does i _ ho)
    rw [k4 id (h i (by omega)), MTr.keep T i (by omega) fun k hk => h k (by omega)]
theorem MTr.done (T : MTr l seen st frm val tg) {id k : Nat} (hm : (true, id) ∈ tg k) : ∀ i, k < i → i ≤ l.length → (st i).heap[id]? = (st (k + 1)).heap[id]?
  | 0, h, _ => by omega
  | i + 1, hk, hi => by
    by_cases e : i = k
    · subst e; rfl
    · have ho : l[i]? = some (l[i]'(by omega)) := List.getElem?_eq_getElem _
      obtain ⟨_, _, _, k4, _⟩ := tgt_local (T.tgt i _ ho) (T.does i _ ho)
      rw [k4 id (fun hi2 => T.apart i k (by omega) (by omega) _ hi2 _ hm (.inl rfl) rfl), MTr.done T hm i (by omega) (by omega)]
theorem MTr.get_not (T : MTr l seen st frm val tg) {t : Nat} : ∀ j, j ≤ l.length → (∀ k o, k < j → l[k]? = some o → o.dst ≠ some t) → (frm j).get t = (frm 0).get t
  | 0, _, _ => rfl
  | j + 1, hj, h => by
    have ho : l[j]? = some (l[j]'(by omega)) := List.getElem?_eq_getElem _
    rw [T.frame j _ ho, ← MTr.get_not T j (by omega) fun k o hk => h k o (by omega)]
    have hne := h j _ (by omega) ho
    unfold Fr.put
    split
    · rename_i d hd
      have : ¬ d = t := fun e => hne (by rw [hd, e])
      simp [Fr.get, this]
    · rfl
theorem MTr.get_at (T : MTr l seen st frm val tg) {t k : Nat} {o : AOper} (hk : l[k]? = some o) (hd : o.dst = some t) (hu : ∀ i o', l[i]? = some o' → i ≠ k → o'.dst ≠ some t) : ∀ j, k < j → j ≤ l.length → (frm j).get t = some (val k)
  | 0, h, _ => by omega
  | j + 1, hkj, hj => by
    have ho : l[j]? = some (l[j]'(by omega)) := List.getElem?_eq_getElem _
    rw [T.frame j _ ho]
    by_cases hjk : j = k
    · subst hjk
      rw [ho] at hk
      cases hk
      rw [hd]
      simp [Fr.put, Fr.get]
    · rw [← MTr.get_at T hk hd hu j (by omega) (by omega)]
      have hne := hu j _ ho hjk
      unfold Fr.put
      split
      · rename_i d hd'
        have : ¬ d = t := fun e => hne (by rw [hd', e])
        simp [Fr.get, this]
      · rfl
end

/-! ### Any order -/
section
variable {P : Program} {w0 : World}
theorem noCall_ok : CallOk P w0 noCall := ⟨noCall_ast, fun g args σ v σ' h => by simp [noCall] at h⟩

structure MInv (w0 : World) (ops : Array Oper) (st : Nat → St) (frm : Nat → Fr) (val : Nat → Value) (tg : Nat → List (Bool × Nat)) (X0 : Emb) (a0 : Act) (wS : World) (l : Array Bool) (Y : Emb) (a : Act) (w : World) (τ : St) : Prop where
  lsize : l.size = ops.size
  closed : ∀ (k : Nat) (o : Oper) (e : Edge), ops[k]? = some o → l.getD k false = true → e ∈ o.after → Region.binds .any e = true → l.getD e.on false = true
  size : a.tmps.size = a0.tmps.size
  defers : a.defers = a0.defers
  stp : Stp X0 (st 0) wS Y w
  ast : Ast (st 0) τ
  sim : Sim w0 Y τ w
  len : τ.heap.length = (st 0).heap.length
  keep : ∀ id, (∀ k, k < ops.size → l.getD k false = true → (true, id) ∉ tg k) → τ.heap[id]? = (st 0).heap[id]?
  done : ∀ k id, k < ops.size → l.getD k false = true → (true, id) ∈ tg k → τ.heap[id]? = (st (k + 1)).heap[id]?
  base : FrR Y (frm 0) a0
  set : ∀ (k : Nat) (o : Oper) (d : Nat), ops[k]? = some o → l.getD k false = true → o.dst = some d → relV Y (val k) (Mono.slot a d)
  unset : ∀ (t : Nat), (∀ (k : Nat) (o : Oper), ops[k]? = some o → o.dst = some t → l.getD k false = false) → Mono.slot a t = Mono.slot a0 t

theorem mops_sound {ops : Array Oper} {n id : Nat} {as : List AOper} (hm : P.follows .mixedOrders = true) (hst : statB ops = true) (hc : compOpers P ops n ops.toList = some as)
    {fr fr' : Fr} {σ σ' : St} (h : mops [] as fr σ = some (fr', σ')) {X : Emb} {a : Act} {w : World} (G : Good w0 n X σ fr a w) {Q : Exit → Act → World → Prop}
    (hQ : ∀ a' w', Post w0 n X σ w fr' σ' a' w' → Q .normal a' w') : (Code.region id ops true).wp P Q a w := by
  obtain ⟨st, frm, val, tg, rfl, rfl, e3, e4, T⟩ := mops_trace _ _ _ _ _ _ h
  have stt := stat2_of hst
  obtain ⟨hlen, hget⟩ := compOpers_get hc
  have hlen : as.length = ops.size := by simpa using hlen
  rw [hlen] at e3 e4
  have get : ∀ (j : Nat) (o : Oper), ops[j]? = some o → ∃ ao, as[j]? = some ao ∧ compOper P ops n o = some ao := fun j o ho => hget j o (by simpa using ho)
  have hdst : ∀ (k : Nat) (m : AOper), as[k]? = some m → ∃ o', ops[k]? = some o' ∧ m.dst = o'.dst := fun k m hk => by
    have hlt : k < ops.size := by rw [← hlen]; exact (List.getElem?_eq_some_iff.1 hk).1
    obtain ⟨ao, e1, e2⟩ := get k ops[k] (Array.getElem?_eq_getElem hlt)
    rw [hk] at e1
    cases e1
    exact ⟨_, Array.getElem?_eq_getElem hlt, (compOper_op e2).2.1⟩
  have hz : ∀ k, (Array.replicate ops.size false).getD k false = false := fun k => by
    by_cases hk : k < ops.size <;> simp [hk]
  refine wp_region_any hm (drive (Q := Q) stt (I := fun l a1 w1 => ∃ Y τ, MInv w0 ops st frm val tg X a w l Y a1 w1 τ) (fun l a w ⟨_, _, I⟩ => I.lsize) (fun l a1 w1 j o ⟨Y, τ, I⟩ ho hun hrd => ?_) (fun l a1 w1 ⟨Y, τ, I⟩ hall => ?_) ops.size _ a _ (by
        unfold Mono.left
        exact Nat.le_trans (List.length_filter_le _ _) (by simp)) ?_)
  · -- a step
    obtain ⟨ao, hao, hco⟩ := get j o ho
    obtain ⟨c1, c2, c3, c4⟩ := compOper_op hco
    have hj : j < ops.size := (Array.getElem?_eq_some_iff.1 ho).1
    -- the slots that it looks at
    have hfr : ∀ t ∈ o.looksAt ops, ∀ v, (frm j).get t = some v → relV Y v (a1.tmps.getD t undef) := by
      intro t ht
      have from0 : (∀ (k : Nat) (x : Oper), k < j → ops[k]? = some x → x.dst ≠ some t) → Mono.slot a1 t = Mono.slot a t → ∀ v, (frm j).get t = some v → relV Y v (a1.tmps.getD t undef) := fun h1 h2 v hv => by
        rw [T.get_not j (by omega) (fun k m hk hm => by
          obtain ⟨o', e1, e2⟩ := hdst k m hm
          rw [e2]; exact h1 k o' hk e1)] at hv
        show relV _ v (Mono.slot a1 t)
        rw [h2]; exact I.base t v hv
      by_cases hw : ∃ (k : Nat) (o' : Oper), ops[k]? = some o' ∧ o'.dst = some t ∧ k ≠ j
      · obtain ⟨k, o', hk, hd, hkj⟩ := hw
        rcases stt.bound j k o o' t ho hk (Ne.symm hkj) hd ht with ⟨e, he, hb, hon⟩ | ⟨e, he, hb, hon⟩
        · have hlk : l.getD k false = true := by rw [← hon]; exact hrd e he hb
          have hlt : k < j := by rw [← hon]; exact stt.back j o e ho he hb
          intro v hv
          obtain ⟨ao', e1, e2⟩ := get k o' hk
          rw [T.get_at e1 (t := t) (by rw [← hd]; exact (compOper_op e2).2.1) (fun i m hi hne => by
            obtain ⟨x, f1, f2⟩ := hdst i m hi
            rw [f2]; exact stt.one i k x o' t f1 hk hne hd) j hlt (by omega)] at hv
          cases hv
          exact I.set k o' t hk hlk hd
        · have hlk : l.getD k false = false := by
            cases hc : l.getD k false with
            | false => rfl
            | true =>
              have := I.closed k o' e hk hc he hb
              rw [hon, hun] at this
              cases this
          have hjk : j < k := by rw [← hon]; exact stt.back k o' e hk he hb
          refine from0 (fun i x hi hx hxd => ?_) (I.unset t fun i x hx hxd => ?_)
          · exact stt.one i k x o' t hx hk (by omega) hd hxd
          · by_cases hik : i = k
            · subst hik; exact hlk
            · exact absurd hxd (stt.one i k x o' t hx hk hik hd)
      · refine from0 (fun i x hi hx hxd => hw ⟨i, x, hx, hxd, by omega⟩) (I.unset t fun i x hx hxd => ?_)
        by_cases hij : i = j
        · subst hij; exact hun
        · exact absurd ⟨i, x, hx, hxd, hij⟩ hw
    have hgd := T.guard j ao hao
    have hw := want_real1 (ao := ao) hco hfr (b := true) (by simp [want, hgd])
    rw [hw]
    simp only [if_true]
    -- what it touches is as in the text's order
    have hsame : ∀ p ∈ tg j, τ.heap[p.2]? = (st j).heap[p.2]? := fun p hp => by
      rw [T.keep j (by omega) (fun k hk hm => T.apart j k (by omega) hk p hp _ hm (.inr rfl) rfl)]
      refine I.keep p.2 fun k hk hdn hm => ?_
      rcases Nat.lt_trichotomy k j with h1 | h1 | h1
      · exact T.apart j k (by omega) h1 p hp _ hm (.inr rfl) rfl
      · subst h1; rw [hun] at hdn; cases hdn
      · exact T.apart k j (by omega) h1 _ hm p hp (.inl rfl) rfl
    have hloc := T.loc j (by omega)
    obtain ⟨_, _, _, _, hmv⟩ := tgt_local (T.tgt j ao hao) (T.does j ao hao)
    obtain ⟨τ', t1, t2⟩ := hmv τ (I.ast.lock.trans hloc.1.symm) (I.ast.hid.trans hloc.2.1.symm) hsame
    obtain ⟨l1, l2, l3, l4, _⟩ := tgt_local (T.tgt j ao hao) t1
    have hhid : ∀ t ∈ τ.hid, t < τ.heap.length := fun t ht => by rw [I.ast.hid] at ht; rw [I.len]; exact G.hid t ht
    have hlk : τ.lock ≤ τ.heap.length := by rw [I.ast.lock, I.len]; exact G.lock
    have hrun := aop_runs (P := P) (a := a1) (o := o) (noCall_ok (w0 := w0)) c1 I.sim hhid hlk (fun x hx v hv => ev1_rel (fun t e v' hv' => hfr t (by
        subst e
        exact List.mem_append_left _ (List.mem_filterMap.2 ⟨.tmp t, hx, rfl⟩)) v' hv') (c3 x hx) hv) t1
    have hast := aop_ast noCall_ast hlk t1
    refine Mono.gives_mono (fun u w' ⟨Y', r1, r2, r3⟩ => ⟨Y', τ', ?_⟩) hrun
    have hds : ∀ d, o.dst = some d → d < a1.tmps.size := fun d hd => by rw [I.size]; exact Nat.lt_of_lt_of_le (c4 d hd) G.size
    have hset : (l.setIfInBounds j true).getD j false = true := Mono.set_getD_same false (by rw [I.lsize]; exact hj)
    have hD : ∀ k, k ≠ j → ((l.setIfInBounds j true).getD k false = true ↔ l.getD k false = true) := fun k hk => by rw [Mono.set_getD false (Ne.symm hk)]
    refine ⟨by simp [I.lsize], fun k x e hk hl he hb => ?_, by rw [size_put]; exact I.size, by rw [defers_put]; exact I.defers, I.stp.trans I.ast r3, I.ast.trans hast, r2, l3.trans I.len, fun id hid => ?_, fun k id hk hl hm => ?_, I.base.evo r3.evo, fun k x d hk hl hd => ?_, fun t ht => ?_⟩
    · have old : l.getD e.on false = true → (l.setIfInBounds j true).getD e.on false = true := fun h => by
        by_cases hej : e.on = j
        · rw [hej]; exact hset
        · exact (hD _ hej).2 h
      by_cases hkj : k = j
      · subst hkj
        rw [ho] at hk; cases hk
        exact old (hrd e he hb)
      · exact old (I.closed k x e hk ((hD k hkj).1 hl) he hb)
    · rw [l4 id (hid j hj hset)]
      refine I.keep id fun k hk hl => hid k hk ?_
      by_cases hkj : k = j
      · rw [hkj]; exact hset
      · exact (hD k hkj).2 hl
    · by_cases hkj : k = j
      · subst hkj; exact t2 id hm
      · have hl' := (hD k hkj).1 hl
        rw [l4 id (fun hm2 => ?_), I.done k id hk hl' hm]
        rcases Nat.lt_or_ge k j with h1 | h1
        · exact T.apart j k (by omega) h1 _ hm2 _ hm (.inl rfl) rfl
        · exact T.apart k j (by omega) (by omega) _ hm _ hm2 (.inl rfl) rfl
    · by_cases hkj : k = j
      · subst hkj
        rw [ho] at hk; injection hk with hk; subst hk
        rw [hd, Mono.slot_put_same (hds d hd)]
        exact r1
      · rw [Mono.slot_put_ne (stt.one j k o x d ho hk (Ne.symm hkj) hd)]
        exact (I.set k x d hk ((hD k hkj).1 hl) hd).evo r3.evo
    · have hne : o.dst ≠ some t := fun hd => by rw [ht j o ho hd] at hset; cases hset
      rw [Mono.slot_put_ne hne]
      refine I.unset t fun k x hk hd => ?_
      have := ht k x hk hd
      by_cases hkj : k = j
      · subst hkj; exact hun
      · rwa [Mono.set_getD false (Ne.symm hkj)] at this
  · -- the end
    have hloc := T.loc ops.size (by omega)
    have hheap : τ.heap = (st ops.size).heap := by
      apply List.ext_getElem?
      intro id
      by_cases hid : ∃ k, k < ops.size ∧ (true, id) ∈ tg k
      · obtain ⟨k, h1, h2⟩ := hid
        rw [I.done k id h1 (hall k h1) h2, T.done h2 ops.size h1 (by omega)]
      · rw [I.keep id (fun k hk _ hm => hid ⟨k, hk, hm⟩), T.keep ops.size (by omega) (fun k hk hm => hid ⟨k, hk, hm⟩)]
    have S : Sim w0 Y (st ops.size) w1 := by
      have e : st ops.size = { τ with dirty := (st ops.size).dirty } := by
        have h1 := I.ast.lock.trans hloc.1.symm
        have h2 := I.ast.hid.trans hloc.2.1.symm
        generalize st ops.size = q at *
        obtain ⟨q1, q2, q3, q4⟩ := q
        simp only at hheap h1 h2 ⊢
        rw [← hheap, ← h1, ← h2]
      rw [e]
      exact I.sim.dirty' _
    rw [← e3, ← e4] at hQ
    refine hQ a1 w1 ⟨Y, ⟨S, fun t v hv => ?_, by rw [I.size]; exact G.size, I.defers.trans G.defers, fun t ht => ?_, by rw [hloc.1, hloc.2.2]; exact G.lock⟩, I.stp⟩
    · by_cases hw : ∃ (k : Nat) (o' : Oper), ops[k]? = some o' ∧ o'.dst = some t
      · obtain ⟨k, o', hk, hd⟩ := hw
        have hkl : k < ops.size := (Array.getElem?_eq_some_iff.1 hk).1
        obtain ⟨ao, e1, e2⟩ := get k o' hk
        rw [T.get_at e1 (t := t) (by rw [← hd]; exact (compOper_op e2).2.1) (fun i m hi hne => by
          obtain ⟨x, f1, f2⟩ := hdst i m hi
          rw [f2]; exact stt.one i k x o' t f1 hk hne hd) ops.size hkl (by omega)] at hv
        cases hv
        exact I.set k o' t hk (hall k hkl) hd
      · rw [T.get_not ops.size (by omega) (fun k m _ hm hd => by
          obtain ⟨o', f1, f2⟩ := hdst k m hm
          exact hw ⟨k, o', f1, by rw [← f2]; exact hd⟩)] at hv
        have h1 := I.base t v hv
        have h2 := I.unset t fun k x hk hd => absurd ⟨k, x, hk, hd⟩ hw
        show relV _ v (Mono.slot a1 t)
        rw [h2]; exact h1
    · rw [hloc.2.1] at ht
      rw [hloc.2.2]; exact G.hid t ht
  · -- the start
    have S := G.sim
    refine ⟨X, st 0, by simp, fun k o e _ hk => ?_, rfl, rfl, ⟨Nat.le_refl _, rfl, rfl, rfl, fun _ _ _ => rfl, Evo.refl X, fun id bx bx' h h' => (by rw [h] at h'; cases h'; exact .inl rfl), fun id bx' h => .inl ⟨bx', h, rfl, .inl rfl⟩⟩, Ast.refl _, ⟨⟨S.bel.os, S.bel.tape, S.bel.output, S.bel.size, S.bel.block⟩, S.dom, S.place, S.cell, S.inj, S.lock, S.zero⟩, rfl, fun _ _ => rfl, fun k id _ hk => ?_, G.fr, fun k o d _ hk => ?_, fun _ _ => rfl⟩
    · rw [hz] at hk; cases hk
    · rw [hz] at hk; cases hk
    · rw [hz] at hk; cases hk
end
end AM
end Go.Proofs.Ytfefeikkjebfoaa
