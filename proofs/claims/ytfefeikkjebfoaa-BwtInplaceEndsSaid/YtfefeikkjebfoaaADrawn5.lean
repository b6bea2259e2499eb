/-
  REGIONS WHOSE ORDER IS DRAWN: one step, the end, the theorem. Conditions: the calls are sound; the static conditions of 'statB'.
-/
import Derived.Test.YtfefeikkjebfoaaADrawn4
namespace Go.Proofs.Ytfefeikkjebfoaa
namespace AM
open Go Go.RowKit

section
variable {P : Program} {w0 : World} {callf : CallF} {ops : Array Oper} {as : List AOper} {n : Nat} {st : Nat → St} {frm : Nat → Fr} {val : Nat → Value} {ran : Nat → Bool} {bn : Nat → List (Nat × Nat × Nat)}
variable {X0 X Y : Emb} {a0 a : Act} {wS w w' : World} {l : Array Bool} {j : Nat} {o : Oper} {u : Value} {τ' : St}

theorem DInv.next (C : DCtx P w0 callf ops n as st frm val ran bn) (I : DInv w0 ops as st frm val bn X0 a0 wS l X a w) (ho : ops[j]? = some o) (hun : l.getD j false = false)
    (hrd : ∀ e ∈ o.after, Region.binds .any e = true → l.getD e.on false = true) {mo : AOper} (hmo : (marks as ops)[j]? = some mo) (hdst : ∀ d, o.dst = some d → d < a.tmps.size)
    (hlen : τ'.heap.length = (st (j + 1)).heap.length) (hhid : τ'.hid = (tau (st j) (bn j) mo).hid) (hheap : ∀ id, (st j).heap.length ≤ id ∨ mo.wr = true → τ'.heap[id]? = (st (j + 1)).heap[id]?)
    (r : relV Y (val j) u) (S : Sim w0 Y τ' w') (s : Stp (cut (st j).heap.length X) (tau (st j) (bn j) mo) w Y w') :
    DInv w0 ops as st frm val bn X0 a0 wS (l.setIfInBounds j true) (glue (st (j + 1)).heap.length Y X) (a.put o.dst u) w' := by
  have hj : j < ops.size := (Array.getElem?_eq_some_iff.1 ho).1
  have hLL : (st j).heap.length ≤ (st (j + 1)).heap.length := C.mono (by omega) (by omega)
  have h0L : (st 0).heap.length ≤ (st j).heap.length := C.mono (by omega) (by omega)
  have hset : (l.setIfInBounds j true).getD j false = true := Mono.set_getD_same false (by rw [I.lsize]; exact hj)
  have hup : ∀ k, l.getD k false = true → (l.setIfInBounds j true).getD k false = true := fun k hk => by
    by_cases hkj : j = k
    · subst hkj; exact hset
    · rw [Mono.set_getD false hkj]; exact hk
  have hD : ∀ k, k ≠ j → ((l.setIfInBounds j true).getD k false = true ↔ l.getD k false = true) := fun k hk => by rw [Mono.set_getD false (Ne.symm hk)]
  have hst := C.stay (i := j) (by omega)
  have hYdom : ∀ id bx, Y id = some bx → id < (st (j + 1)).heap.length := fun id bx h => by rw [← hlen]; exact S.dom id bx h
  have hnone : ∀ id bx, X id = some bx → id < (st (j + 1)).heap.length → id < (st j).heap.length := fun id bx h hl => by
    rcases I.birth id bx h with h1 | ⟨i, h1, h2, h3, h4⟩
    · omega
    · have hij : i ≠ j := fun e => by subst e; rw [hun] at h2; cases h2
      rcases Nat.lt_or_ge i j with h5 | h5
      · have := C.mono (i := i + 1) (k := j) h5 (by omega); omega
      · have := C.mono (i := j + 1) (k := i) (by omega) (by omega); omega
  have hback : ∀ id bx, Y id = some bx → (∃ bx1, X id = some bx1 ∧ id < (st j).heap.length ∧ bx.own = bx1.own ∧ (bx.b = bx1.b ∨ w.heap.size ≤ bx.b)) ∨ (X id = none ∧ bx.own = true ∧ w.heap.size ≤ bx.b ∧ (st j).heap.length ≤ id) := fun id bx h => by
    rcases s.back id bx h with ⟨bx1, h1, h2⟩ | ⟨h1, h2, h3, h4⟩
    · obtain ⟨h5, h6⟩ := cut_some.1 h1
      exact .inl ⟨bx1, h6, h5, h2⟩
    · rw [tau_len] at h4
      refine .inr ⟨?_, h2, h3, h4⟩
      cases hx : X id with
      | none => rfl
      | some bx1 => have := hnone id bx1 hx (hYdom id bx h); omega
  have hevo : Evo X (glue (st (j + 1)).heap.length Y X) := fun id bx h => by
    rcases Nat.lt_or_ge id (st (j + 1)).heap.length with h1 | h1
    · rw [glue_lt h1]; exact s.evo id bx (cut_some.2 ⟨hnone id bx h h1, h⟩)
    · rw [glue_ge h1]; exact ⟨bx, h, .inl rfl⟩
  have hevoY : Evo Y (cut (st (j + 1)).heap.length (glue (st (j + 1)).heap.length Y X)) := fun id bx h => by
    have := hYdom id bx h
    exact ⟨bx, cut_some.2 ⟨this, by rw [glue_lt this]; exact h⟩, .inl rfl⟩
  -- what the operation did not write
  have hkeep : ∀ id bx, X id = some bx → ((st (j + 1)).heap.length ≤ id ∨ ((tau (st j) (bn j) mo).lock ≤ id → id ∈ (tau (st j) (bn j) mo).hid)) → glue (st (j + 1)).heap.length Y X id = some bx ∧ w'.heap[bx.b]? = w.heap[bx.b]? := by
    intro id bx h hk
    refine ⟨?_, ?_⟩
    · rcases Nat.lt_or_ge id (st (j + 1)).heap.length with h1 | h1
      · rw [glue_lt h1]
        have hc := cut_some.2 ⟨hnone id bx h h1, h⟩
        obtain ⟨bx', h2, h3⟩ := s.evo id bx hc
        rcases s.same id bx bx' hc h2 with h4 | ⟨h4, h5⟩
        · rw [h2, h4]
        · rcases hk with hk | hk
          · omega
          · exact absurd (hk h4) h5
      · rw [glue_ge h1]; exact h
    · have hp := I.place id bx h
      refine s.frame bx.b hp.1 fun id2 bx2 h2 hl2 hh2 ho2 e => ?_
      obtain ⟨h3, h4⟩ := cut_some.1 h2
      have hp2 := (I.place id2 bx2 h4).2
      rw [ho2] at hp2
      simp only [if_true] at hp2
      cases hown : bx.own with
      | false =>
        have := hp.2
        rw [hown] at this
        simp at this
        omega
      | true =>
        have := I.inj id2 id bx2 bx h4 h ho2 hown e
        subst this
        rcases hk with hk | hk
        · omega
        · exact hh2 (hk hl2)
  have hcon : ∀ id m, Con (marks as ops) st bn (fun k => l.getD k false = true) id m → (id < (st j).heap.length → mo.wr = true → id ∈ hiddenBy mo.bef (bn j)) → Con (marks as ops) st bn (fun k => (l.setIfInBounds j true).getD k false = true) id m := by
    intro id m hc hk
    refine ⟨hc.1, hc.2.1, fun k ok hok hwr hlt hnh => ?_⟩
    by_cases hkj : k = j
    · subst hkj
      rw [hmo] at hok
      cases hok
      exact absurd (hk hlt hwr) hnh
    · exact (hD k hkj).trans (hc.2.2 k ok hok hwr hlt hnh)
  refine ⟨by simp [I.lsize], fun k x e hk hl he hb => ?_, by rw [size_put, I.size], by rw [defers_put, I.defers], S.bel, ?_, fun id bx h => ?_, fun i k bi bk h1 h2 o1 o2 e => ?_, fun id bx h hl => ?_, fun id bx h => by
      rcases Nat.lt_or_ge id (st (j + 1)).heap.length with h4 | h4
      · rw [glue_lt h4] at h; exact S.zero id bx h
      · rw [glue_ge h4] at h; exact I.zero id bx h, fun id bx h => ?_, fun id bx h hh => ?_, ?_, fun k x d hk hl hd => ?_, fun t h => ?_⟩
  · by_cases hkj : k = j
    · subst hkj
      rw [ho] at hk; injection hk with hk; subst hk
      exact hup _ (hrd e he hb)
    · exact hup _ (I.closed k x e hk ((hD k hkj).1 hl) he hb)
  · -- the world's step
    refine ⟨Nat.le_trans I.stp.size s.size, s.os.trans I.stp.os, s.tape.trans I.stp.tape, s.output.trans I.stp.output, fun k hk hx => ?_, fun id bx h => ?_, fun id bx bx' h h' => ?_, fun id bx' h => ?_⟩
    · rw [s.frame k (Nat.lt_of_lt_of_le hk I.stp.size) fun id bx h hl hh ho' e => ?_, I.stp.frame k hk hx]
      obtain ⟨h1, h2⟩ := cut_some.1 h
      have hl' : (st 0).lock ≤ id := by
        rw [tau_lock, hst.1] at hl
        have := C.lk
        split at hl <;> omega
      have hh' : id ∉ (st 0).hid := by
        rw [tau_hid, hst.2.1] at hh
        exact fun hm => hh (List.mem_append_right _ hm)
      rcases I.stp.back id bx h2 with ⟨bx0, e1, e2, e3⟩ | ⟨_, _, e3, _⟩
      · rcases e3 with e3 | e3
        · exact hx id bx0 e1 hl' hh' (by rw [← e2]; exact ho') (by rw [← e3]; exact e)
        · omega
      · omega
    · exact (I.stp.evo.trans hevo) id bx h
    · obtain ⟨bx1, h1, h2⟩ := I.stp.evo id bx h
      rcases I.stp.same id bx bx1 h h1 with h3 | h3
      · subst h3
        rcases Nat.lt_or_ge id (st (j + 1)).heap.length with h4 | h4
        · rw [glue_lt h4] at h'
          rcases s.same id bx1 bx' (cut_some.2 ⟨hnone id bx1 h1 h4, h1⟩) h' with h5 | ⟨h5, h6⟩
          · exact .inl h5
          · right
            refine ⟨?_, ?_⟩
            · rw [tau_lock, hst.1] at h5
              have := C.lk
              split at h5 <;> omega
            · rw [tau_hid, hst.2.1] at h6
              exact fun hm => h6 (List.mem_append_right _ hm)
        · rw [glue_ge h4, h1] at h'
          cases h'; exact .inl rfl
      · exact .inr h3
    · have comp : ∀ bx1, X id = some bx1 → bx'.own = bx1.own → (bx'.b = bx1.b ∨ w.heap.size ≤ bx'.b) → (∃ bx, X0 id = some bx ∧ bx'.own = bx.own ∧ (bx'.b = bx.b ∨ wS.heap.size ≤ bx'.b)) ∨ (X0 id = none ∧ bx'.own = true ∧ wS.heap.size ≤ bx'.b ∧ (st 0).heap.length ≤ id) := by
        intro bx1 h1 h2 h3
        have hs := I.stp.size
        rcases I.stp.back id bx1 h1 with ⟨bx0, e1, e2, e3⟩ | ⟨e1, e2, e3, e4⟩
        · refine .inl ⟨bx0, e1, h2.trans e2, ?_⟩
          rcases h3 with h3 | h3
          · rcases e3 with e3 | e3
            · exact .inl (h3.trans e3)
            · right; omega
          · right; omega
        · refine .inr ⟨e1, h2.trans e2, ?_, e4⟩
          rcases h3 with h3 | h3 <;> omega
      rcases Nat.lt_or_ge id (st (j + 1)).heap.length with h4 | h4
      · rw [glue_lt h4] at h
        rcases hback id bx' h with ⟨bx1, h1, _, h2, h3⟩ | ⟨h1, h2, h3, h5⟩
        · exact comp bx1 h1 h2 h3
        · refine .inr ⟨?_, h2, Nat.le_trans I.stp.size h3, by omega⟩
          cases hx : X0 id with
          | none => rfl
          | some bx0 =>
            obtain ⟨_, e, _⟩ := I.stp.evo id bx0 hx
            rw [h1] at e; cases e
      · rw [glue_ge h4] at h
        exact comp bx' h rfl (.inl rfl)
  · -- places
    rcases Nat.lt_or_ge id (st (j + 1)).heap.length with h4 | h4
    · rw [glue_lt h4] at h; exact S.place id bx h
    · rw [glue_ge h4] at h
      have := I.place id bx h
      exact ⟨Nat.lt_of_lt_of_le this.1 s.size, this.2⟩
  · -- one block, one place
    have mixed : ∀ i k bi bk, i < (st (j + 1)).heap.length → (st (j + 1)).heap.length ≤ k → Y i = some bi → X k = some bk → bi.own = true → bk.own = true → bi.b = bk.b → False := by
      intro i k bi bk hi hk h1 h2 o1 o2 e
      have hp := I.place k bk h2
      rcases hback i bi h1 with ⟨bx1, e1, e2, e3, e4⟩ | ⟨_, _, e3, _⟩
      · rcases e4 with e4 | e4
        · have := I.inj i k bx1 bk e1 h2 (by rw [← e3]; exact o1) o2 (by rw [← e4]; exact e)
          omega
        · omega
      · omega
    rcases Nat.lt_or_ge i (st (j + 1)).heap.length with h3 | h3 <;> rcases Nat.lt_or_ge k (st (j + 1)).heap.length with h4 | h4
    · rw [glue_lt h3] at h1; rw [glue_lt h4] at h2
      exact S.inj i k bi bk h1 h2 o1 o2 e
    · rw [glue_lt h3] at h1; rw [glue_ge h4] at h2
      exact (mixed i k bi bk h3 h4 h1 h2 o1 o2 e).elim
    · rw [glue_ge h3] at h1; rw [glue_lt h4] at h2
      exact (mixed k i bk bi h4 h3 h2 h1 o2 o1 e.symm).elim
    · rw [glue_ge h3] at h1; rw [glue_ge h4] at h2
      exact I.inj i k bi bk h1 h2 o1 o2 e
  · -- what may be written is the call's own
    rcases Nat.lt_or_ge id (st (j + 1)).heap.length with h4 | h4
    · rw [glue_lt h4] at h
      rcases hback id bx h with ⟨bx1, e1, e2, e3, e4⟩ | ⟨_, e2, _, _⟩
      · rw [e3]; exact I.lock id bx1 e1 hl
      · exact e2
    · rw [glue_ge h4] at h
      exact I.lock id bx h hl
  · -- births
    have up : (id < (st 0).heap.length ∨ ∃ i, i < ops.size ∧ l.getD i false = true ∧ (st i).heap.length ≤ id ∧ id < (st (i + 1)).heap.length) → (id < (st 0).heap.length ∨ ∃ i, i < ops.size ∧ (l.setIfInBounds j true).getD i false = true ∧ (st i).heap.length ≤ id ∧ id < (st (i + 1)).heap.length) := by
      rintro (h1 | ⟨i, h1, h2, h3⟩)
      · exact .inl h1
      · exact .inr ⟨i, h1, hup i h2, h3⟩
    rcases Nat.lt_or_ge id (st (j + 1)).heap.length with h4 | h4
    · rw [glue_lt h4] at h
      rcases hback id bx h with ⟨bx1, e1, _⟩ | ⟨_, _, _, e4⟩
      · exact up (I.birth id bx1 e1)
      · exact .inr ⟨j, hj, hset, e4, h4⟩
    · rw [glue_ge h4] at h
      exact up (I.birth id bx h)
  · -- cells
    have old : ∀ bx1, X id = some bx1 → ((st (j + 1)).heap.length ≤ id ∨ ((tau (st j) (bn j) mo).lock ≤ id → id ∈ (tau (st j) (bn j) mo).hid)) → (id < (st j).heap.length → mo.wr = true → id ∈ hiddenBy mo.bef (bn j)) → ∃ m, Con (marks as ops) st bn (fun k => (l.setIfInBounds j true).getD k false = true) id m ∧
        (m = 0 ∨ ∃ k o, m = k + 1 ∧ (l.setIfInBounds j true).getD k false = true ∧ (marks as ops)[k]? = some o ∧ ((st k).heap.length ≤ id ∨ o.wr = true)) ∧ Facts (cut (st m).heap.length (glue (st (j + 1)).heap.length Y X)) w' bx (st m).heap[id]? := by
      intro bx1 h1 h2 h3
      obtain ⟨e1, e2⟩ := hkeep id bx1 h1 h2
      rw [h] at e1
      cases e1
      obtain ⟨m, c1, c2, c3⟩ := I.cell id bx h1 hh
      refine ⟨m, hcon id m c1 h3, ?_, c3.mono (cut_evo (Nat.le_refl _) hevo) e2⟩
      rcases c2 with c2 | ⟨k, o, d1, d2, d3⟩
      · exact .inl c2
      · exact .inr ⟨k, o, d1, hup k d2, d3⟩
    have new : id < (st (j + 1)).heap.length → id ∉ (tau (st j) (bn j) mo).hid → ((st j).heap.length ≤ id ∨ mo.wr = true) → Con (marks as ops) st bn (fun k => (l.setIfInBounds j true).getD k false = true) id (j + 1) → ∃ m, Con (marks as ops) st bn (fun k => (l.setIfInBounds j true).getD k false = true) id m ∧
        (m = 0 ∨ ∃ k o, m = k + 1 ∧ (l.setIfInBounds j true).getD k false = true ∧ (marks as ops)[k]? = some o ∧ ((st k).heap.length ≤ id ∨ o.wr = true)) ∧ Facts (cut (st m).heap.length (glue (st (j + 1)).heap.length Y X)) w' bx (st m).heap[id]? := by
      intro h1 h2 h3 h4
      refine ⟨j + 1, h4, .inr ⟨j, mo, rfl, hset, hmo, h3⟩, ?_⟩
      rw [glue_lt h1] at h
      rw [← hheap id h3]
      exact (S.facts h (by rw [hhid]; exact h2)).mono hevoY rfl
    rcases Nat.lt_or_ge id (st (j + 1)).heap.length with h4 | h4
    · rcases Nat.lt_or_ge id (st j).heap.length with h5 | h5
      · have hold : ∃ bx1, X id = some bx1 := by
          have h' := h
          rw [glue_lt h4] at h'
          rcases hback id bx h' with ⟨bx1, e1, _⟩ | ⟨_, _, _, e4⟩
          · exact ⟨bx1, e1⟩
          · omega
        obtain ⟨bx1, hx1⟩ := hold
        by_cases hwr : mo.wr = true
        · by_cases hhd : id ∈ hiddenBy mo.bef (bn j)
          · exact old bx1 hx1 (.inr fun _ => by rw [tau_hid]; exact List.mem_append_left _ hhd) (fun _ _ => hhd)
          · refine new h4 ?_ (.inr hwr) ⟨by rw [C.len]; omega, h4, fun k ok hk hwk hlt hnh => ?_⟩
            · rw [tau_hid, hst.2.1, List.mem_append]
              rintro (h6 | h6)
              · exact hhd h6
              · exact hh h6
            · by_cases hkj : k = j
              · subst hkj; simp [hset]
              · refine (hD k hkj).trans ?_
                have hmem : memOp mo.op = true := by
                  obtain ⟨_, ao, _, _, _, rfl⟩ := C.inv hmo
                  simp only [Bool.and_eq_true] at hwr
                  exact hwr.1
                have := I.order_mem C ho hun hrd hmo hmem hk hwk hkj
                constructor
                · intro h6; have := this.1 h6; omega
                · intro h6; exact this.2 (by omega)
        · refine old bx1 hx1 (.inr fun h6 => ?_) (fun _ h6 => absurd h6 hwr)
          rw [tau_lock, if_neg hwr] at h6
          omega
      · refine new h4 ?_ (.inl h5) ⟨by rw [C.len]; omega, h4, fun k ok hk hwk hlt hnh => ?_⟩
        · rw [tau_hid, hst.2.1, List.mem_append]
          rintro (h6 | h6)
          · have := C.hidden_lt (by omega) h6; omega
          · exact hh h6
        · have hks : k < ops.size := by rw [← C.len]; exact (List.getElem?_eq_some_iff.1 hk).1
          have hkj : j < k := by
            rcases Nat.lt_or_ge j k with h6 | h6
            · exact h6
            · have := C.mono (i := k) (k := j) h6 (by omega); omega
          refine (hD k (by omega)).trans ?_
          constructor
          · intro hdone
            exfalso
            obtain ⟨ok', ao, e1, _, _, e3⟩ := C.inv hk
            have hbit : ok.bef.testBit j = true := by
              cases hb : ok.bef.testBit j with
              | true => rfl
              | false =>
                refine absurd (mem_hidden.2 ⟨j, (st j).heap.length, (st (j + 1)).heap.length, ?_, hb, h5, h4⟩) hnh
                exact (C.T.mem_born C.b0 k (by rw [C.len]; omega) _ _ _).2 ⟨hkj, rfl, rfl, by omega⟩
            rw [e3] at hbit
            have := (I.bits C e1 (fun e he hb => I.closed k ok' e e1 hdone he hb) hbit).1
            rw [hun] at this; cases this
          · intro h6; omega
    · have h' := h
      rw [glue_ge h4] at h'
      exact old bx h' (.inl h4) (fun h5 => by omega)
  · exact I.base.evo (cut_evo (Nat.le_refl _) hevo)
  · by_cases hkj : k = j
    · subst hkj
      rw [ho] at hk; injection hk with hk; subst hk
      rw [hd, Mono.slot_put_same (hdst d hd)]
      exact r.evo hevoY
    · rw [Mono.slot_put_ne (C.stt.one j k o x d ho hk (Ne.symm hkj) hd)]
      exact (I.set k x d hk ((hD k hkj).1 hl) hd).evo (cut_evo (Nat.le_refl _) hevo)
  · have hne : o.dst ≠ some t := fun hd => by rw [h j o ho hd] at hset; cases hset
    rw [Mono.slot_put_ne hne]
    refine I.unset t fun k x hk hd => ?_
    have := h k x hk hd
    by_cases hkj : k = j
    · subst hkj; exact hun
    · rwa [Mono.set_getD false (Ne.symm hkj)] at this

theorem DCtx.tau_ok (C : DCtx P w0 callf ops n as st frm val ran bn) (hj : j ≤ ops.size) (mo : AOper) : (∀ t ∈ (tau (st j) (bn j) mo).hid, t < (tau (st j) (bn j) mo).heap.length) ∧ (tau (st j) (bn j) mo).lock ≤ (tau (st j) (bn j) mo).heap.length := by
  have h1 := C.stay (i := j) hj
  have h2 := C.lk
  refine ⟨fun t ht => ?_, ?_⟩
  · rw [tau_hid, List.mem_append] at ht
    rw [tau_len]
    rcases ht with ht | ht
    · exact C.hidden_lt hj ht
    · rw [h1.2.1] at ht
      exact Nat.lt_of_lt_of_le (C.hd t ht) h1.2.2
  · rw [tau_len, tau_lock]
    split <;> omega
theorem ev1_rel {X : Emb} {fr : Fr} {a : Act} {x : Operand} (hf : ∀ t, x = .tmp t → ∀ v, fr.get t = some v → relV X v (a.tmps.getD t undef)) (hc : constOk x = true) {v : Value} (hv : ev fr x = some v) : relV X v (a.eval x) := by
  cases x with
  | tmp t => exact hf t rfl v hv
  | const q => simp only [AM.ev, Option.some.injEq] at hv; subst hv; exact relV_const hc
  | func f => simp only [AM.ev, Option.some.injEq] at hv; subst hv; exact (relV_sc rfl).2 rfl
  | global g => simp [AM.ev] at hv
theorem want_bits {ao : AOper} {b : Nat} {wr : Bool} {fr : Fr} : want { ao with bef := b, wr := wr } fr = want ao fr := rfl
theorem want_real1 {ops : Array Oper} {n : Nat} {o : Oper} {ao : AOper} {X : Emb} {fr : Fr} {a : Act} {b : Bool} (hc : compOper P ops n o = some ao) (hf : ∀ t ∈ o.looksAt ops, ∀ v, fr.get t = some v → relV X v (a.tmps.getD t undef)) (h : want ao fr = some b) : Region.wanted o (yielded ops a.tmps) = b := by
  obtain ⟨_, _, p, _, h2⟩ := compOper_inv hc
  rcases h2 with ⟨hg, rfl⟩ | ⟨g, b', s, hg, hs, hao⟩
  · simp only [want, Option.some.injEq] at h
    simp [Region.wanted, hg, h]
  · exact want_slot hg hs hao (fun v hv => hf s (by simp [Oper.looksAt, hg, hs]) v hv) h

theorem dops_sound {callf : CallF} (hcf : CallOk P w0 callf) {ops : Array Oper} {n id : Nat} {as : List AOper} (hm : P.follows .mixedOrders = true) (hst : statB ops = true) (hc : compOpers P ops n ops.toList = some as)
    {fr fr' : Fr} {σ σ' : St} (h : dops callf [] 0 (marked as (befs ops.toList [])) fr σ = some (fr', σ')) {X : Emb} {a : Act} {w : World} (G : Good w0 n X σ fr a w) {Q : Exit → Act → World → Prop}
    (hQ : ∀ a' w', Post w0 n X σ w fr' σ' a' w' → Q .normal a' w') : (Code.region id ops true).wp P Q a w := by
  obtain ⟨st, frm, val, ran, bn, rfl, rfl, hb0, e4, e5, T⟩ := dops_trace _ _ _ _ _ _ _ h
  have C : DCtx P w0 callf ops n as st frm val ran bn := ⟨hcf, stat2_of hst, hc, T, hb0, G.lock, G.hid⟩
  have hlen := C.len
  rw [Nat.zero_add, hlen] at e4 e5
  have hz : ∀ k, (Array.replicate ops.size false).getD k false = false := fun k => by
    by_cases hk : k < ops.size <;> simp [hk]
  refine wp_region_any hm (drive (Q := Q) C.stt (I := fun l a1 w1 => ∃ Y, DInv w0 ops as st frm val bn X a w l Y a1 w1) (fun l a w ⟨_, I⟩ => I.lsize) (fun l a1 w1 j o ⟨Y0, I⟩ ho hun hrd => ?_) (fun l a1 w1 ⟨Y0, I⟩ hall => ?_) ops.size _ a _ (by
        unfold Mono.left
        exact Nat.le_trans (List.length_filter_le _ _) (by simp)) ?_)
  · -- a step
    obtain ⟨ao, _, hco, hmo⟩ := C.get ho
    obtain ⟨c1, c2, c3, c4⟩ := compOper_op hco
    have hj : j < ops.size := (Array.getElem?_eq_some_iff.1 ho).1
    have hfr := fun t ht => I.frame C ho hun hrd (t := t) ht
    obtain ⟨z0, _, _, z2, _⟩ := C.T.zero j _ hmo
    have hw := want_real1 (ao := ao) hco hfr z0
    have hdst : ∀ d, o.dst = some d → d < a1.tmps.size := fun d hd => by rw [I.size]; exact Nat.lt_of_lt_of_le (c4 d hd) G.size
    rw [hw]
    have S := I.sim_tau C ho hun hrd hmo
    cases hr : ran j with
    | true =>
      simp only [if_true]
      obtain ⟨τ', t1, t2, t3, t4⟩ := C.tau_run hmo hr
      obtain ⟨hlt, hlk⟩ := C.tau_ok (j := j) (by omega) { ao with bef := (befs ops.toList []).getD j 0, wr := memOp ao.op && bound as (befs ops.toList []) j }
      have hrun := aop_runs (P := P) (a := a1) (o := o) hcf c1 S hlt hlk (fun x hx v hv => ev1_rel (fun t e v' hv' => hfr t (by
        subst e
        exact List.mem_append_left _ (List.mem_filterMap.2 ⟨.tmp t, hx, rfl⟩)) v' hv') (c3 x hx) hv) t1
      exact Mono.gives_mono (fun u w' ⟨Y, r1, r2, r3⟩ => ⟨_, I.next C ho hun hrd hmo hdst t2 t3 t4 r1 r2 r3⟩) hrun
    | false =>
      obtain ⟨z3, z4⟩ := z2 hr
      simp only [Bool.false_eq_true, if_false]
      refine ⟨_, I.next C ho hun hrd hmo hdst (by rw [tau_len, z4]) rfl (fun id hid => ?_) (by rw [z3]; exact relV_undefv) S (Stp.refl _ _ _)⟩
      rw [z4]
      by_cases hmem : memOp ao.op = true
      · unfold tau; rw [if_pos hmem]; rfl
      · have hlow : (st j).heap.length ≤ id := by
          rcases hid with h1 | h1
          · exact h1
          · simp only [Bool.and_eq_true] at h1; exact absurd h1.1 hmem
        rw [List.getElem?_eq_none (by rw [tau_len]; exact hlow), List.getElem?_eq_none hlow]
  · -- the end
    have hstay := C.stay (i := ops.size) (Nat.le_refl _)
    have hdom : ∀ id bx, Y0 id = some bx → id < (st ops.size).heap.length := fun id bx h => by
      rcases I.birth id bx h with h1 | ⟨i, h1, _, _, h4⟩
      · exact Nat.lt_of_lt_of_le h1 hstay.2.2
      · exact Nat.lt_of_lt_of_le h4 (C.mono h1 (Nat.le_refl _))
    have hlk := C.lk
    rw [← e4, ← e5] at hQ
    refine hQ a1 w1 ⟨Y0, ⟨⟨I.bel, hdom, I.place, fun id bx g pl cs h hh hb => ?_, I.inj, fun id bx h hl => I.lock id bx h (by rw [← hstay.1]; exact hl), I.zero⟩, fun t v hv => ?_, by rw [I.size]; exact G.size, I.defers.trans G.defers, fun t ht => ?_, by rw [hstay.1]; omega⟩, I.stp⟩
    · rw [hstay.2.1] at hh
      obtain ⟨m, hcon, _, hf⟩ := I.cell id bx h hh
      have hcon' : Con (marks as ops) st bn (fun k => l.getD k false = true) id ops.size := ⟨by rw [hlen]; exact Nat.le_refl _, hdom id bx h, fun k ok hk _ _ _ => by
        have hks : k < ops.size := by rw [← hlen]; exact (List.getElem?_eq_some_iff.1 hk).1
        exact ⟨fun _ => hks, fun _ => hall k hks⟩⟩
      rw [hcon.same C.hcf.1 C.T C.lk hcon'] at hf
      exact hf.mono cut_all rfl g pl cs hb
    · have hdst : ∀ (k : Nat) (m : AOper), (marks as ops)[k]? = some m → ∃ o', ops[k]? = some o' ∧ m.dst = o'.dst := fun k m hk => by
        obtain ⟨o', ao, e1, _, e3, rfl⟩ := C.inv hk
        exact ⟨o', e1, (compOper_op e3).2.1⟩
      by_cases hw : ∃ (k : Nat) (o' : Oper), ops[k]? = some o' ∧ o'.dst = some t
      · obtain ⟨k, o', hk, hd⟩ := hw
        have hkl : k < ops.size := (Array.getElem?_eq_some_iff.1 hk).1
        obtain ⟨ao, _, e2, e3⟩ := C.get hk
        rw [C.T.get_at e3 (t := t) (by rw [← hd]; exact (compOper_op e2).2.1) (fun i m hi hne => by
          obtain ⟨x, f1, f2⟩ := hdst i m hi
          rw [f2]; exact C.stt.one i k x o' t f1 hk hne hd) ops.size hkl (by rw [hlen]; exact Nat.le_refl _)] at hv
        cases hv
        exact (I.set k o' t hk (hall k hkl) hd).evo cut_all
      · rw [C.T.get_not ops.size (by rw [hlen]; exact Nat.le_refl _) (fun k m _ hm hd => by
          obtain ⟨o', f1, f2⟩ := hdst k m hm
          exact hw ⟨k, o', f1, by rw [← f2]; exact hd⟩)] at hv
        have h1 := (I.base t v hv).evo (cut_all (X := Y0))
        have h2 := I.unset t fun k x hk hd => absurd ⟨k, x, hk, hd⟩ hw
        show relV _ v (Mono.slot a1 t)
        rw [h2]; exact h1
    · rw [hstay.2.1] at ht
      exact Nat.lt_of_lt_of_le (C.hd t ht) hstay.2.2
  · -- the start
    have S := G.sim
    refine ⟨X, by simp, fun k o e _ hk => ?_, rfl, rfl, ⟨S.bel.os, S.bel.tape, S.bel.output, S.bel.size, S.bel.block⟩, ?_, S.place, S.inj, S.lock, S.zero, fun id bx h => .inl (S.dom id bx h), fun id bx h hh => ⟨0, ⟨Nat.zero_le _, S.dom id bx h, fun k ok _ _ _ _ => ?_⟩, .inl rfl, ?_⟩, fun t v hv => ?_, fun k o d _ hk => ?_, fun _ _ => rfl⟩
    · rw [hz] at hk; cases hk
    · exact ⟨Nat.le_refl _, rfl, rfl, rfl, fun _ _ _ => rfl, Evo.refl X, fun id bx bx' h h' => (by rw [h] at h'; cases h'; exact .inl rfl), fun id bx' h => .inl ⟨bx', h, rfl, .inl rfl⟩⟩
    · simp only [hz]; simp
    · refine (S.facts h hh).mono (fun id bx h => ⟨bx, cut_some.2 ⟨S.dom id bx h, h⟩, .inl rfl⟩) rfl
    · exact (G.fr t v hv).evo fun id bx h => ⟨bx, cut_some.2 ⟨S.dom id bx h, h⟩, .inl rfl⟩
    · rw [hz] at hk; cases hk
end
end AM
end Go.Proofs.Ytfefeikkjebfoaa
