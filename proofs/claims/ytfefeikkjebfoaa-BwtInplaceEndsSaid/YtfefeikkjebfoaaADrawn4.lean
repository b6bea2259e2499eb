/-
  REGIONS WHOSE ORDER IS DRAWN: what holds on the way, one step of it, the end. Conditions: the calls are sound; the static conditions of 'statB'.
-/
import Derived.Test.YtfefeikkjebfoaaADrawn3
set_option linter.all false
namespace Go.Proofs.Ytfefeikkjebfoaa
namespace AM
open Go Go.RowKit

abbrev marks (as : List AOper) (ops : Array Oper) : List AOper := marked as (befs ops.toList [])
section
variable {P : Program} {w0 : World} {callf : CallF} {ops : Array Oper} {as : List AOper} {n : Nat} {st : Nat → St} {frm : Nat → Fr} {val : Nat → Value} {ran : Nat → Bool} {bn : Nat → List (Nat × Nat × Nat)}

structure DCtx (P : Program) (w0 : World) (callf : CallF) (ops : Array Oper) (n : Nat) (as : List AOper) (st : Nat → St) (frm : Nat → Fr) (val : Nat → Value) (ran : Nat → Bool) (bn : Nat → List (Nat × Nat × Nat)) : Prop where
  hcf : CallOk P w0 callf
  stt : Stat2 ops
  hc : compOpers P ops n ops.toList = some as
  T : Trace callf (marks as ops) 0 st frm val ran bn
  b0 : bn 0 = []
  lk : (st 0).lock ≤ (st 0).heap.length
  hd : ∀ t ∈ (st 0).hid, t < (st 0).heap.length

theorem DCtx.len (C : DCtx P w0 callf ops n as st frm val ran bn) : (marks as ops).length = ops.size := by
  simp [marked, (compOpers_get C.hc).1]
theorem DCtx.get (C : DCtx P w0 callf ops n as st frm val ran bn) {j : Nat} {o : Oper} (ho : ops[j]? = some o) : ∃ ao, as[j]? = some ao ∧ compOper P ops n o = some ao ∧
    (marks as ops)[j]? = some { ao with bef := (befs ops.toList []).getD j 0, wr := memOp ao.op && bound as (befs ops.toList []) j } := by
  obtain ⟨ao, h1, h2⟩ := (compOpers_get C.hc).2 j o (by simpa using ho)
  exact ⟨ao, h1, h2, marked_get h1⟩
theorem DCtx.inv (C : DCtx P w0 callf ops n as st frm val ran bn) {k : Nat} {m : AOper} (h : (marks as ops)[k]? = some m) : ∃ o ao, ops[k]? = some o ∧ as[k]? = some ao ∧ compOper P ops n o = some ao ∧
    m = { ao with bef := (befs ops.toList []).getD k 0, wr := memOp ao.op && bound as (befs ops.toList []) k } := by
  have hk : k < ops.size := by rw [← C.len]; exact (List.getElem?_eq_some_iff.1 h).1
  obtain ⟨ao, h1, h2, h3⟩ := C.get (j := k) (o := ops[k]) (Array.getElem?_eq_getElem hk)
  rw [h] at h3
  exact ⟨ops[k], ao, Array.getElem?_eq_getElem hk, h1, h2, by simpa using h3⟩
theorem DCtx.mono (C : DCtx P w0 callf ops n as st frm val ran bn) {i k : Nat} (h : i ≤ k) (hk : k ≤ ops.size) : (st i).heap.length ≤ (st k).heap.length := C.T.len_le C.hcf.1 C.lk h (by rw [C.len]; exact hk)
theorem DCtx.stay (C : DCtx P w0 callf ops n as st frm val ran bn) {i : Nat} (h : i ≤ ops.size) : (st i).lock = (st 0).lock ∧ (st i).hid = (st 0).hid ∧ (st 0).heap.length ≤ (st i).heap.length := by
  obtain ⟨h1, h2, h3, _⟩ := C.T.ast C.hcf.1 C.lk i (by rw [C.len]; exact h)
  exact ⟨h1, h2, h3⟩
/-- Bits go down. -/
theorem DCtx.bit_lt (C : DCtx P w0 callf ops n as st frm val ran bn) {j t : Nat} (hj : j < ops.size) (h : ((befs ops.toList []).getD j 0).testBit t = true) : t < j :=
  (bits_done C.stt (D := fun _ => True) (fun _ _ _ _ _ _ _ => trivial) j _ (Array.getElem?_eq_getElem hj) (fun _ _ _ => trivial) t h).2

/-- What holds on the way. -/
structure DInv (w0 : World) (ops : Array Oper) (as : List AOper) (st : Nat → St) (frm : Nat → Fr) (val : Nat → Value) (bn : Nat → List (Nat × Nat × Nat)) (X0 : Emb) (a0 : Act) (wS : World) (l : Array Bool) (X : Emb) (a : Act) (w : World) : Prop where
  lsize : l.size = ops.size
  closed : ∀ (k : Nat) (o : Oper) (e : Edge), ops[k]? = some o → l.getD k false = true → e ∈ o.after → Region.binds .any e = true → l.getD e.on false = true
  size : a.tmps.size = a0.tmps.size
  defers : a.defers = a0.defers
  bel : Below w0.heap.size w0 w
  stp : Stp X0 (st 0) wS X w
  place : ∀ id bx, X id = some bx → bx.b < w.heap.size ∧ (if bx.own then w0.heap.size ≤ bx.b else bx.b < w0.heap.size)
  inj : ∀ i j bi bj, X i = some bi → X j = some bj → bi.own = true → bj.own = true → bi.b = bj.b → i = j
  lock : ∀ id bx, X id = some bx → (st 0).lock ≤ id → bx.own = true
  zero : ∀ id bx, X id = some bx → bx.known = 0 → bx.size = 0
  birth : ∀ id bx, X id = some bx → id < (st 0).heap.length ∨ ∃ i, i < ops.size ∧ l.getD i false = true ∧ (st i).heap.length ≤ id ∧ id < (st (i + 1)).heap.length
  cell : ∀ id bx, X id = some bx → id ∉ (st 0).hid → ∃ m, Con (marks as ops) st bn (fun k => l.getD k false = true) id m ∧
    (m = 0 ∨ ∃ k o, m = k + 1 ∧ l.getD k false = true ∧ (marks as ops)[k]? = some o ∧ ((st k).heap.length ≤ id ∨ o.wr = true)) ∧ Facts (cut (st m).heap.length X) w bx (st m).heap[id]?
  base : FrR (cut (st 0).heap.length X) (frm 0) a0
  set : ∀ (k : Nat) (o : Oper) (d : Nat), ops[k]? = some o → l.getD k false = true → o.dst = some d → relV (cut (st (k + 1)).heap.length X) (val k) (Mono.slot a d)
  unset : ∀ (t : Nat), (∀ (k : Nat) (o : Oper), ops[k]? = some o → o.dst = some t → l.getD k false = false) → Mono.slot a t = Mono.slot a0 t

variable {X0 X : Emb} {a0 a : Act} {wS w : World} {l : Array Bool} {j : Nat} {o : Oper}

theorem DInv.bits (C : DCtx P w0 callf ops n as st frm val ran bn) (I : DInv w0 ops as st frm val bn X0 a0 wS l X a w) {k : Nat} {o : Oper} (ho : ops[k]? = some o) (hrd : ∀ e ∈ o.after, Region.binds .any e = true → l.getD e.on false = true)
    {t : Nat} (h : ((befs ops.toList []).getD k 0).testBit t = true) : l.getD t false = true ∧ t < k :=
  bits_done C.stt (D := fun k => l.getD k false = true) (fun k x e hk hl he hb => I.closed k x e hk hl he hb) k o ho hrd t h
/-- Two operations of which one is bound. -/
theorem DInv.order (C : DCtx P w0 callf ops n as st frm val ran bn) (I : DInv w0 ops as st frm val bn X0 a0 wS l X a w) (ho : ops[j]? = some o) (hun : l.getD j false = false)
    (hrd : ∀ e ∈ o.after, Region.binds .any e = true → l.getD e.on false = true) {k : Nat} (hk : k < ops.size) (hkj : k ≠ j) (h : ((befs ops.toList []).getD k 0).testBit j = true ∨ ((befs ops.toList []).getD j 0).testBit k = true) : (l.getD k false = true ↔ k < j) := by
  rcases h with h | h
  · have hlt := C.bit_lt hk h
    constructor
    · intro hd
      have := (I.bits C (Array.getElem?_eq_getElem hk) (fun e he hb => I.closed k _ e (Array.getElem?_eq_getElem hk) hd he hb) h).1
      rw [hun] at this; cases this
    · intro hh; omega
  · obtain ⟨h1, h2⟩ := I.bits C ho hrd h
    exact ⟨fun _ => h2, fun _ => h1⟩
theorem DInv.order_mem (C : DCtx P w0 callf ops n as st frm val ran bn) (I : DInv w0 ops as st frm val bn X0 a0 wS l X a w) (ho : ops[j]? = some o) (hun : l.getD j false = false)
    (hrd : ∀ e ∈ o.after, Region.binds .any e = true → l.getD e.on false = true) {mo : AOper} (hmo : (marks as ops)[j]? = some mo) (hmem : memOp mo.op = true) {k : Nat} {ok : AOper} (hk : (marks as ops)[k]? = some ok) (hwr : ok.wr = true) (hkj : k ≠ j) :
    (l.getD k false = true ↔ k < j) := by
  obtain ⟨o1, ao1, e1, e2, e3, rfl⟩ := C.inv hk
  obtain ⟨o2, ao2, d1, d2, d3, rfl⟩ := C.inv hmo
  simp only [Bool.and_eq_true] at hwr hmem
  have hks : k < ops.size := (Array.getElem?_eq_some_iff.1 e1).1
  refine I.order C ho hun hrd hks hkj ?_
  have hb := hwr.2
  unfold bound at hb
  rw [List.all_eq_true] at hb
  have hb := hb j (List.mem_range.2 (List.getElem?_eq_some_iff.1 d2).1)
  have hjk : (j == k) = false := by simpa using (Ne.symm hkj)
  rw [hjk, d2] at hb
  simpa [hmem] using hb
/-- A slot that the operation looks at. -/
theorem DInv.frame (C : DCtx P w0 callf ops n as st frm val ran bn) (I : DInv w0 ops as st frm val bn X0 a0 wS l X a w) (ho : ops[j]? = some o) (hun : l.getD j false = false)
    (hrd : ∀ e ∈ o.after, Region.binds .any e = true → l.getD e.on false = true) {t : Nat} (ht : t ∈ o.looksAt ops) : ∀ v, (frm j).get t = some v → relV (cut (st j).heap.length X) v (a.tmps.getD t undef) := by
  have hj : j < ops.size := (Array.getElem?_eq_some_iff.1 ho).1
  have hdst : ∀ (k : Nat) (m : AOper), (marks as ops)[k]? = some m → ∃ o', ops[k]? = some o' ∧ m.dst = o'.dst := fun k m hk => by
    obtain ⟨o', ao, e1, _, e3, rfl⟩ := C.inv hk
    exact ⟨o', e1, (compOper_op e3).2.1⟩
  have from0 : (∀ (k : Nat) (x : Oper), k < j → ops[k]? = some x → x.dst ≠ some t) → Mono.slot a t = Mono.slot a0 t → ∀ v, (frm j).get t = some v → relV (cut (st j).heap.length X) v (a.tmps.getD t undef) := fun h1 h2 v hv => by
    rw [C.T.get_not j (by rw [C.len]; omega) (fun k m hk hm => by
      obtain ⟨o', e1, e2⟩ := hdst k m hm
      rw [e2]; exact h1 k o' hk e1)] at hv
    have := (I.base t v hv).evo (cut_evo (C.mono (Nat.zero_le j) (by omega)) (Evo.refl X))
    show relV _ v (Mono.slot a t)
    rw [h2]; exact this
  by_cases hw : ∃ (k : Nat) (o' : Oper), ops[k]? = some o' ∧ o'.dst = some t ∧ k ≠ j
  · obtain ⟨k, o', hk, hd, hkj⟩ := hw
    rcases C.stt.bound j k o o' t ho hk (Ne.symm hkj) hd ht with ⟨e, he, hb, hon⟩ | ⟨e, he, hb, hon⟩
    · have hlk : l.getD k false = true := by rw [← hon]; exact hrd e he hb
      have hlt : k < j := by rw [← hon]; exact C.stt.back j o e ho he hb
      intro v hv
      obtain ⟨ao, e1, e2, e3⟩ := C.get hk
      rw [C.T.get_at e3 (t := t) (by rw [← hd]; exact (compOper_op e2).2.1) (fun i m hi hne => by
        obtain ⟨x, f1, f2⟩ := hdst i m hi
        rw [f2]; exact C.stt.one i k x o' t f1 hk hne hd) j hlt (by rw [C.len]; omega)] at hv
      cases hv
      exact (I.set k o' t hk hlk hd).evo (cut_evo (C.mono hlt (by omega)) (Evo.refl X))
    · have hlk : l.getD k false = false := by
        cases hc : l.getD k false with
        | false => rfl
        | true =>
          have := I.closed k o' e hk hc he hb
          rw [hon, hun] at this
          cases this
      have hjk : j < k := by rw [← hon]; exact C.stt.back k o' e hk he hb
      exact from0 (fun i x hi hx => C.stt.one i k x o' t hx hk (by omega) hd) (I.unset t fun k' x hk' hd' => by
        by_cases hkk : k' = k
        · subst hkk; exact hlk
        · exact absurd hd' (C.stt.one k' k x o' t hk' hk hkk hd))
  · have hno : ∀ (k : Nat) (o' : Oper), ops[k]? = some o' → k ≠ j → o'.dst ≠ some t := fun k o' hk hkj hd => hw ⟨k, o', hk, hd, hkj⟩
    exact from0 (fun i x hi hx => hno i x hx (by omega)) (I.unset t fun k x hk hd => by
      by_cases hkj : k = j
      · subst hkj; exact hun
      · exact absurd hd (hno k x hk hkj))

/-- The state in which the operation is run. -/
def tau (σ : St) (b : List (Nat × Nat × Nat)) (mo : AOper) : St := if memOp mo.op = true then lkOf σ b mo else { lkOf σ b mo with heap := List.replicate σ.heap.length (.map []) }
theorem tau_len (σ : St) (b : List (Nat × Nat × Nat)) (mo : AOper) : (tau σ b mo).heap.length = σ.heap.length := by unfold tau; split <;> simp [lkOf]
theorem tau_lock (σ : St) (b : List (Nat × Nat × Nat)) (mo : AOper) : (tau σ b mo).lock = if mo.wr then σ.lock else σ.heap.length := by unfold tau; split <;> rfl
theorem tau_hid (σ : St) (b : List (Nat × Nat × Nat)) (mo : AOper) : (tau σ b mo).hid = hiddenBy mo.bef b ++ σ.hid := by unfold tau; split <;> rfl
theorem DCtx.hidden_lt (C : DCtx P w0 callf ops n as st frm val ran bn) (hj : j ≤ ops.size) {bef id : Nat} (h : id ∈ hiddenBy bef (bn j)) : id < (st j).heap.length := by
  obtain ⟨i, lo, hi, h1, _, _, h4⟩ := mem_hidden.1 h
  obtain ⟨f1, f2, f3, f4⟩ := (C.T.mem_born C.b0 j (by rw [C.len]; exact hj) i lo hi).1 h1
  exact Nat.lt_of_lt_of_le (f3 ▸ h4) (C.mono f1 hj)
theorem DInv.sim_tau (C : DCtx P w0 callf ops n as st frm val ran bn) (I : DInv w0 ops as st frm val bn X0 a0 wS l X a w) (ho : ops[j]? = some o) (hun : l.getD j false = false)
    (hrd : ∀ e ∈ o.after, Region.binds .any e = true → l.getD e.on false = true) {mo : AOper} (hmo : (marks as ops)[j]? = some mo) : Sim w0 (cut (st j).heap.length X) (tau (st j) (bn j) mo) w where
  bel := I.bel
  dom := fun id bx h => by rw [tau_len]; exact (cut_some.1 h).1
  place := fun id bx h => I.place id bx (cut_some.1 h).2
  inj := fun i k bi bk h1 h2 => I.inj i k bi bk (cut_some.1 h1).2 (cut_some.1 h2).2
  zero := fun id bx h => I.zero id bx (cut_some.1 h).2
  lock := fun id bx h hl => by
    obtain ⟨h1, h2⟩ := cut_some.1 h
    refine I.lock id bx h2 ?_
    have hj : j < ops.size := (Array.getElem?_eq_some_iff.1 ho).1
    rw [tau_lock, (C.stay (i := j) (by omega)).1] at hl
    split at hl
    · exact hl
    · omega
  cell := fun id bx g pl cs h hh hb => by
    obtain ⟨h1, h2⟩ := cut_some.1 h
    have hj : j < ops.size := (Array.getElem?_eq_some_iff.1 ho).1
    by_cases hmem : memOp mo.op = true
    · simp only [tau_hid, List.mem_append, not_or, (C.stay (i := j) (by omega)).2.1] at hh
      obtain ⟨m, hcon, hm, hf⟩ := I.cell id bx h2 hh.2
      have hcon' : Con (marks as ops) st bn (fun k => l.getD k false = true) id j := by
        refine ⟨by rw [C.len]; omega, h1, fun k ok hk hwr _ _ => ?_⟩
        by_cases hkj : k = j
        · subst hkj; simp [hun]
        · exact I.order_mem C ho hun hrd hmo hmem hk hwr hkj
      have hmj : m ≤ j := by
        rcases hm with rfl | ⟨k, ok, rfl, hk1, hk2, hk3⟩
        · omega
        · have hks : k < ops.size := by rw [← C.len]; exact (List.getElem?_eq_some_iff.1 hk2).1
          rcases hk3 with hk3 | hk3
          · rcases Nat.lt_or_ge k j with hh | hh
            · exact hh
            · have := C.mono hh (by omega); omega
          · have hkj : k ≠ j := fun e => by subst e; rw [hun] at hk1; cases hk1
            exact (I.order_mem C ho hun hrd hmo hmem hk2 hk3 hkj).1 hk1
      have hsame := hcon.same C.hcf.1 C.T C.lk hcon'
      have hb' : (st j).heap[id]? = some (.cells g pl cs) := by
        rw [← hb]; unfold tau; rw [if_pos hmem]; rfl
      rw [hsame] at hf
      exact hf.mono (cut_evo (C.mono hmj (by omega)) (Evo.refl X)) rfl g pl cs hb'
    · exfalso
      unfold tau at hb
      rw [if_neg hmem] at hb
      simp only [List.getElem?_replicate] at hb
      split at hb
      · cases hb
      · cases hb
theorem DCtx.tau_run (C : DCtx P w0 callf ops n as st frm val ran bn) {mo : AOper} (hmo : (marks as ops)[j]? = some mo) (hr : ran j = true) : ∃ τ', aop callf mo.op (frm j) (tau (st j) (bn j) mo) = some (val j, τ') ∧ τ'.heap.length = (st (j + 1)).heap.length ∧
    τ'.hid = (tau (st j) (bn j) mo).hid ∧ ∀ id, (st j).heap.length ≤ id ∨ mo.wr = true → τ'.heap[id]? = (st (j + 1)).heap[id]? := by
  obtain ⟨_, _, z1, _, _⟩ := C.T.zero j mo hmo
  obtain ⟨s', e1, e2⟩ := z1 hr
  have hj : j < ops.size := by rw [← C.len]; exact (List.getElem?_eq_some_iff.1 hmo).1
  have hlk : (lkOf (st j) (bn j) mo).lock ≤ (lkOf (st j) (bn j) mo).heap.length := by
    have := C.stay (i := j) (by omega)
    have := C.lk
    simp only [lkOf]; split <;> omega
  by_cases hmem : memOp mo.op = true
  · refine ⟨s', by unfold tau; rw [if_pos hmem]; exact e1, by rw [e2], ?_, fun id _ => by rw [e2]⟩
    rw [tau_hid]; exact (aop_ast C.hcf.1 hlk e1).hid
  · have hm : memOp mo.op = false := by simpa using hmem
    obtain ⟨bl, f1, f2⟩ := nonmem_aop hm e1
    refine ⟨_, f2 _ (tau_len _ _ _), ?_, rfl, fun id hid => ?_⟩
    · rw [e2, f1]; simp [tau_len, lkOf]
    · rw [e2, f1]
      have hwr : mo.wr = false := by
        obtain ⟨_, ao, _, _, _, rfl⟩ := C.inv hmo
        have : memOp ao.op = false := hm
        simp [this]
      have hid : (st j).heap.length ≤ id := by
        rcases hid with h | h
        · exact h
        · rw [hwr] at h; cases h
      simp only []
      rw [List.getElem?_append_right (by rw [tau_len]; exact hid), List.getElem?_append_right (by simpa [lkOf] using hid), tau_len]
      rfl
end
end AM
end Go.Proofs.Ytfefeikkjebfoaa
