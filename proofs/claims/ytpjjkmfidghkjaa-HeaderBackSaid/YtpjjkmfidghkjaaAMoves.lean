/-
  REGIONS WHOSE ORDER IS DRAWN: whatever order is picked, what is left stands for what the run in the text's order leaves. Conditions: the calls are sound; the static conditions of 'statB'.
  REGIONS WHOSE ORDER IS DRAWN: the static facts, and what stays of a block between two writers. Conditions: none.
  REGIONS WHOSE ORDER IS DRAWN: the theorem. Conditions: the calls are sound; the static conditions of 'statB'.
  REGIONS WHOSE ORDER IS DRAWN: what holds on the way, one step of it, the end. Conditions: the calls are sound; the static conditions of 'statB'.
  REGIONS WHOSE ORDER IS DRAWN: one step, the end, the theorem. Conditions: the calls are sound; the static conditions of 'statB'.
  REGIONS WHOSE ORDER IS DRAWN AND THAT ONLY MOVE VALUES: loads and stores of blocks that no other operation of the region writes. Conditions: the static conditions of 'statB'.
-/
import Derived.Test.YtpjjkmfidghkjaaAFrame
set_option linter.all false
section
namespace Go.Proofs.Ytpjjkmfidghkjaa
namespace AM
open Go Go.RowKit

/-! ### The run in the text's order, as functions of the place -/
def lkOf (σ : St) (bn : List (Nat × Nat × Nat)) (o : AOper) : St := { σ with lock := lockD o.wr (ownO o) bn σ.lock σ.heap.length, hid := hiddenBy o.bef bn ++ σ.hid }
structure Trace (callf : CallF) (as : List AOper) (off : Nat) (st : Nat → St) (frm : Nat → Fr) (val : Nat → Value) (ran : Nat → Bool) (bn : Nat → List (Nat × Nat × Nat)) : Prop where
  want : ∀ i o, as[i]? = some o → want o (frm (off + i)) = some (ran (off + i))
  frame : ∀ i o, as[i]? = some o → frm (off + i + 1) = (frm (off + i)).put o.dst (val (off + i))
  does : ∀ i o, as[i]? = some o → ran (off + i) = true → ∃ s', aop callf o.op (frm (off + i)) (lkOf (st (off + i)) (bn (off + i)) o) = some (val (off + i), s') ∧ st (off + i + 1) = { s' with lock := (st (off + i)).lock, hid := (st (off + i)).hid }
  skips : ∀ i o, as[i]? = some o → ran (off + i) = false → val (off + i) = undefv ∧ st (off + i + 1) = st (off + i)
  born : ∀ i o, as[i]? = some o → bn (off + i + 1) = if (st (off + i)).heap.length < (st (off + i + 1)).heap.length then (off + i, (st (off + i)).heap.length, (st (off + i + 1)).heap.length) :: bn (off + i) else bn (off + i)
theorem dops_trace {callf : CallF} : ∀ (l : List AOper) (born : List (Nat × Nat × Nat)) (j : Nat) (fr : Fr) (σ : St) (fr' : Fr) (σ' : St), dops callf born j l fr σ = some (fr', σ') →
    ∃ st frm val ran bn, st j = σ ∧ frm j = fr ∧ bn j = born ∧ st (j + l.length) = σ' ∧ frm (j + l.length) = fr' ∧ Trace callf l j st frm val ran bn
  | [], born, j, fr, σ, fr', σ', h => by
    simp only [dops, Option.some.injEq, Prod.mk.injEq] at h
    refine ⟨fun _ => σ, fun _ => fr, fun _ => undefv, fun _ => false, fun _ => born, rfl, rfl, rfl, h.2, h.1, ⟨?_, ?_, ?_, ?_, ?_⟩⟩ <;> (intro i o ho; simp at ho)
  | o :: l, born, j, fr, σ, fr', σ', h => by
    simp only [dops, Option.bind_eq_some_iff] at h
    obtain ⟨b, hb, h⟩ := h
    -- what the first operation leaves
    obtain ⟨v, σ1, born1, h1, h2, hrec⟩ : ∃ v σ1 born1, (b = true → ∃ s', aop callf o.op fr (lkOf σ born o) = some (v, s') ∧ σ1 = { s' with lock := σ.lock, hid := σ.hid }) ∧ (b = false → v = undefv ∧ σ1 = σ) ∧
        (born1 = if σ.heap.length < σ1.heap.length then (j, σ.heap.length, σ1.heap.length) :: born else born) ∧ dops callf born1 (j + 1) l (fr.put o.dst v) σ1 = some (fr', σ') := by
      cases b with
      | true =>
        simp only [if_true, Option.bind_eq_some_iff] at h
        obtain ⟨⟨v, s'⟩, h1, h2⟩ := h
        exact ⟨v, { s' with lock := σ.lock, hid := σ.hid }, _, fun _ => ⟨s', h1, rfl⟩, fun e => (by cases e), rfl, h2⟩
      | false =>
        simp only [Bool.false_eq_true, if_false] at h
        exact ⟨undefv, σ, _, fun e => (by cases e), fun _ => ⟨rfl, rfl⟩, rfl, by simpa using h⟩
    obtain ⟨hborn, hrec⟩ := hrec
    obtain ⟨st, frm, val, ran, bn, e1, e2, e3, e4, e5, T⟩ := dops_trace l born1 (j + 1) _ _ _ _ hrec
    have sh : ∀ i, j + (i + 1) = j + 1 + i := fun i => by omega
    refine ⟨fun i => if i = j then σ else st i, fun i => if i = j then fr else frm i, fun i => if i = j then v else val i, fun i => if i = j then b else ran i, fun i => if i = j then born else bn i, by simp, by simp, by simp, ?_, ?_, ⟨?_, ?_, ?_, ?_, ?_⟩⟩
    · have : ¬ j + (l.length + 1) = j := by omega
      simp only [List.length_cons, this, if_false]
      rw [sh]; exact e4
    · have : ¬ j + (l.length + 1) = j := by omega
      simp only [List.length_cons, this, if_false]
      rw [sh]; exact e5
    all_goals
      intro i o' ho'
      cases i with
      | zero =>
        simp at ho'
        subst ho'
        have n1 : ¬ j + 1 = j := by omega
        simp only [Nat.add_zero, if_true, n1, if_false, e1, e2, e3]
        try (first
          | exact hb
          | exact fun e => h1 e
          | exact fun e => h2 e
          | exact hborn)
      | succ i =>
        have n1 : ¬ j + (i + 1) = j := by omega
        have n2 : ¬ j + (i + 1) + 1 = j := by omega
        simp only [n1, n2, if_false]
        rw [sh]
        have ho2 : l[i]? = some o' := by simpa using ho'
        first
          | exact T.want i o' ho2
          | exact T.frame i o' ho2
          | exact T.does i o' ho2
          | exact T.skips i o' ho2
          | exact T.born i o' ho2
end AM
end Go.Proofs.Ytpjjkmfidghkjaa
end
section
namespace Go.Proofs.Ytpjjkmfidghkjaa
namespace AM
open Go Go.RowKit

section
variable {P : Program}

structure Stat2 (ops : Array Oper) : Prop where
  nosel : ∀ (j : Nat) (o : Oper) cs b, ops[j]? = some o → o.op ≠ .select cs b
  back : ∀ (j : Nat) (o : Oper) (e : Edge), ops[j]? = some o → e ∈ o.after → Region.binds .any e = true → e.on < j
  one : ∀ (j k : Nat) (o o' : Oper) d, ops[j]? = some o → ops[k]? = some o' → j ≠ k → o'.dst = some d → o.dst ≠ some d
  bound : ∀ (j k : Nat) (o o' : Oper) d, ops[j]? = some o → ops[k]? = some o' → j ≠ k → o'.dst = some d → d ∈ o.looksAt ops →
    (∃ e ∈ o.after, Region.binds .any e = true ∧ e.on = k) ∨ (∃ e ∈ o'.after, Region.binds .any e = true ∧ e.on = j)
theorem stat2_of {ops : Array Oper} (h : statB ops = true) : Stat2 ops := by
  unfold statB at h
  rw [List.all_eq_true] at h
  have hlt : ∀ {j : Nat} {o : Oper}, ops[j]? = some o → j < ops.size := fun ho => (Array.getElem?_eq_some_iff.1 ho).1
  refine ⟨fun j o cs b ho => ?_, fun j o e ho he hb => ?_, fun j k o o' d ho hk hjk hd => ?_, fun j k o o' d ho hk hjk hd hm => ?_⟩
  all_goals
    have hj := h j (List.mem_range.2 (hlt ho))
    simp only [ho, Bool.and_eq_true] at hj
    obtain ⟨⟨h1, h3⟩, h4⟩ := hj
  · intro he; simp [he] at h1
  · rw [List.all_eq_true] at h3
    have := h3 e (by simpa using he)
    rw [hb] at this
    simpa using this
  · rw [List.all_eq_true] at h4
    have := h4 k (List.mem_range.2 (hlt hk))
    simp only [hk, hd, Bool.or_eq_true, beq_iff_eq, hjk, false_or, Bool.and_eq_true] at this
    simpa using this.1
  · rw [List.all_eq_true] at h4
    have := h4 k (List.mem_range.2 (hlt hk))
    simp only [hk, hd, Bool.or_eq_true, beq_iff_eq, hjk, false_or, Bool.and_eq_true] at this
    rcases this.2 with (h5 | h5) | h5
    · simp at h5; exact absurd hm h5
    · rw [List.any_eq_true] at h5
      obtain ⟨e, he, hb⟩ := h5
      simp only [Bool.and_eq_true, beq_iff_eq] at hb
      exact .inl ⟨e, by simpa using he, hb.1, hb.2⟩
    · rw [List.any_eq_true] at h5
      obtain ⟨e, he, hb⟩ := h5
      simp only [Bool.and_eq_true, beq_iff_eq] at hb
      exact .inr ⟨e, by simpa using he, hb.1, hb.2⟩
theorem compOpers_get {ops : Array Oper} {n : Nat} : ∀ {l : List Oper} {as : List AOper}, compOpers P ops n l = some as → as.length = l.length ∧ ∀ (j : Nat) (o : Oper), l[j]? = some o → ∃ ao, as[j]? = some ao ∧ compOper P ops n o = some ao
  | [], as, h => by simp only [compOpers, Option.some.injEq] at h; subst h; simp
  | o :: l, as, h => by
    simp only [compOpers, Option.bind_eq_some_iff, Option.map_eq_some_iff] at h
    obtain ⟨ao, hao, as', has', rfl⟩ := h
    obtain ⟨h1, h2⟩ := compOpers_get has'
    refine ⟨by simp [h1], fun j o' hj => ?_⟩
    cases j with
    | zero => simp at hj; subst hj; exact ⟨ao, rfl, hao⟩
    | succ j => obtain ⟨a, e1, e2⟩ := h2 j o' (by simpa using hj); exact ⟨a, by simpa using e1, e2⟩
theorem marked_get {as : List AOper} {bs : List Nat} {j : Nat} {ao : AOper} (h : as[j]? = some ao) : (marked as bs)[j]? = some (markOf as bs j ao) := by
  simp [marked, List.getElem?_map, List.getElem?_zipIdx, h]
theorem foldl_bits {q : Edge → Bool} {g : Edge → Nat} {t : Nat} : ∀ (l : List Edge) (s : Nat), (l.foldl (fun s e => if q e then s ||| g e else s) s).testBit t = true → s.testBit t = true ∨ ∃ e ∈ l, q e = true ∧ (g e).testBit t = true
  | [], s, h => .inl h
  | e :: l, s, h => by
    simp only [List.foldl_cons] at h
    rcases foldl_bits l _ h with h | ⟨e', h1, h2⟩
    · split at h
      · rename_i hq
        rw [Nat.testBit_or, Bool.or_eq_true] at h
        rcases h with h | h
        · exact .inl h
        · exact .inr ⟨e, by simp, hq, h⟩
      · exact .inl h
    · exact .inr ⟨e', by simp [h1], h2⟩
theorem befs_spec : ∀ (l : List Oper) (acc : List Nat), (∀ k, k < acc.length → (befs l acc).getD k 0 = acc.getD k 0) ∧
    ∀ i o, l[i]? = some o → ∀ t, ((befs l acc).getD (acc.length + i) 0).testBit t = true → ∃ e ∈ o.after.toList, Region.binds .any e = true ∧ (t = e.on ∨ (e.on < acc.length + i ∧ ((befs l acc).getD e.on 0).testBit t = true))
  | [], acc => ⟨fun _ _ => rfl, fun i o h => by simp at h⟩
  | o :: l, acc => by
    let b := o.after.toList.foldl (fun s e => if Region.binds .any e then s ||| (2 ^ e.on ||| acc.getD e.on 0) else s) 0
    obtain ⟨h1, h2⟩ := befs_spec l (acc ++ [b])
    have hacc : ∀ k, k < acc.length → (befs (o :: l) acc).getD k 0 = acc.getD k 0 := fun k hk => by
      show (befs l (acc ++ [b])).getD k 0 = _
      rw [h1 k (by simp; omega)]
      simp [List.getElem?_append_left hk]
    refine ⟨hacc, fun i o' hi t ht => ?_⟩
    cases i with
    | zero =>
      simp at hi
      subst hi
      have hb : (befs (o :: l) acc).getD (acc.length + 0) 0 = b := by
        show (befs l (acc ++ [b])).getD (acc.length + 0) 0 = _
        rw [h1 _ (by simp)]
        simp
      rw [hb] at ht
      rcases foldl_bits _ _ ht with h | ⟨e, e1, e2, e3⟩
      · simp at h
      · refine ⟨e, e1, e2, ?_⟩
        rw [Nat.testBit_or, Bool.or_eq_true] at e3
        rcases e3 with e3 | e3
        · left
          rw [Nat.testBit_two_pow] at e3
          exact (by simpa using e3 : e.on = t).symm
        · right
          have hlt : e.on < acc.length := by
            rcases Nat.lt_or_ge e.on acc.length with h | h
            · exact h
            · rw [List.getD_eq_getElem?_getD, List.getElem?_eq_none h] at e3; simp at e3
          exact ⟨by omega, by rw [hacc _ hlt]; exact e3⟩
    | succ i =>
      have hl : acc.length + (i + 1) = (acc ++ [b]).length + i := by simp; omega
      rw [hl] at ht ⊢
      exact h2 i o' (by simpa using hi) t ht

/-- What every order does before: it is done when the operation is ready. -/
theorem bits_done {ops : Array Oper} (st : Stat2 ops) {D : Nat → Prop} (hcl : ∀ (k : Nat) (o : Oper) (e : Edge), ops[k]? = some o → D k → e ∈ o.after → Region.binds .any e = true → D e.on) :
    ∀ (j : Nat) (o : Oper), ops[j]? = some o → (∀ e ∈ o.after, Region.binds .any e = true → D e.on) → ∀ t, ((befs ops.toList []).getD j 0).testBit t = true → D t ∧ t < j := by
  intro j
  induction j using Nat.strongRecOn with
  | _ j ih =>
    intro o ho hr t ht
    have hb := (befs_spec ops.toList []).2 j o (by simpa using ho) t (by simpa using ht)
    obtain ⟨e, e1, e2, e3⟩ := hb
    have e1' : e ∈ o.after := by simpa using e1
    have hlt := st.back j o e ho e1' e2
    have hd := hr e e1' e2
    rcases e3 with rfl | ⟨_, e3⟩
    · exact ⟨hd, hlt⟩
    · have hj : j < ops.size := (Array.getElem?_eq_some_iff.1 ho).1
      have ho2 : ops[e.on]? = some (ops[e.on]'(by omega)) := Array.getElem?_eq_getElem (by omega)
      obtain ⟨r1, r2⟩ := ih e.on hlt _ ho2 (fun e' he' hb' => hcl e.on _ e' ho2 hd he' hb') t e3
      exact ⟨r1, by omega⟩

theorem mem_hidden {bef : Nat} {id : Nat} : ∀ {bn : List (Nat × Nat × Nat)}, id ∈ hiddenBy bef bn ↔ ∃ i lo hi, (i, lo, hi) ∈ bn ∧ bef.testBit i = false ∧ lo ≤ id ∧ id < hi
  | [] => by simp [hiddenBy]
  | (i, lo, hi) :: l => by
    unfold hiddenBy
    split
    · rename_i hb
      rw [mem_hidden]
      constructor
      · rintro ⟨i', lo', hi', h1, h2⟩; exact ⟨i', lo', hi', by simp [h1], h2⟩
      · rintro ⟨i', lo', hi', h1, h2, h3⟩
        rcases List.mem_cons.1 h1 with h1 | h1
        · cases h1; rw [hb] at h2; cases h2
        · exact ⟨i', lo', hi', h1, h2, h3⟩
    · rename_i hb
      rw [List.mem_append, mem_hidden, List.mem_range'_1]
      constructor
      · rintro (h | ⟨i', lo', hi', h1, h2⟩)
        · exact ⟨i, lo, hi, by simp, by simpa using hb, by omega, by omega⟩
        · exact ⟨i', lo', hi', by simp [h1], h2⟩
      · rintro ⟨i', lo', hi', h1, h2, h3⟩
        rcases List.mem_cons.1 h1 with h1 | h1
        · cases h1; left; omega
        · exact .inr ⟨i', lo', hi', h1, h2, h3⟩

section
variable {callf : CallF} {as : List AOper} {st : Nat → St} {frm : Nat → Fr} {val : Nat → Value} {ran : Nat → Bool} {bn : Nat → List (Nat × Nat × Nat)}

theorem Trace.zero (T : Trace callf as 0 st frm val ran bn) : ∀ i o, as[i]? = some o → AM.want o (frm i) = some (ran i) ∧ frm (i + 1) = (frm i).put o.dst (val i) ∧
    (ran i = true → ∃ s', aop callf o.op (frm i) (lkOf (st i) (bn i) o) = some (val i, s') ∧ st (i + 1) = { s' with lock := (st i).lock, hid := (st i).hid }) ∧ (ran i = false → val i = undefv ∧ st (i + 1) = st i) ∧
    bn (i + 1) = if (st i).heap.length < (st (i + 1)).heap.length then (i, (st i).heap.length, (st (i + 1)).heap.length) :: bn i else bn i := fun i o ho => by
  have h1 := T.want i o ho
  have h2 := T.frame i o ho
  have h3 := T.does i o ho
  have h4 := T.skips i o ho
  have h5 := T.born i o ho
  simp only [Nat.zero_add] at h1 h2 h3 h4 h5
  exact ⟨h1, h2, h3, h4, h5⟩
/-- What one place does to the state. -/
theorem Trace.ast (hcf : CallAst callf) (T : Trace callf as 0 st frm val ran bn) (hl : (st 0).lock ≤ (st 0).heap.length) : ∀ i, i ≤ as.length → (st i).lock = (st 0).lock ∧ (st i).hid = (st 0).hid ∧ (st 0).heap.length ≤ (st i).heap.length ∧ Ast (st 0) (st i)
  | 0, _ => ⟨rfl, rfl, Nat.le_refl _, Ast.refl _⟩
  | i + 1, hi => by
    obtain ⟨h1, h2, h3, h4⟩ := Trace.ast hcf T hl i (by omega)
    obtain ⟨_, _, z1, z2, _⟩ := T.zero i (as[i]'(by omega)) (List.getElem?_eq_getElem (by omega))
    cases hr : ran i with
    | false => rw [(z2 hr).2]; exact ⟨h1, h2, h3, h4⟩
    | true =>
      obtain ⟨s', e1, e2⟩ := z1 hr
      have hli : (st i).lock ≤ (st i).heap.length := by omega
      have a0 := aop_ast hcf (lockD_le hli).2 e1
      have a1 : Ast (st i) (st (i + 1)) := by rw [e2]; exact Ast.unlock (lockD_le hli).1 a0
      exact ⟨a1.lock.trans h1, a1.hid.trans h2, Nat.le_trans h3 a1.len, h4.trans a1⟩
theorem Trace.len_succ (hcf : CallAst callf) (T : Trace callf as 0 st frm val ran bn) (hl : (st 0).lock ≤ (st 0).heap.length) (i : Nat) (o : AOper) (ho : as[i]? = some o) : (st i).heap.length ≤ (st (i + 1)).heap.length ∧
    ∀ id, id < (st i).heap.length → o.wr = false ∨ id ∈ hiddenBy o.bef (bn i) → (st (i + 1)).heap[id]? = (st i).heap[id]? := by
  have hi : i < as.length := (List.getElem?_eq_some_iff.1 ho).1
  obtain ⟨h1, h2, h3, h4⟩ := T.ast hcf hl i (by omega)
  obtain ⟨_, _, z1, z2, _⟩ := T.zero i o ho
  cases hr : ran i with
  | false => rw [(z2 hr).2]; exact ⟨Nat.le_refl _, fun _ _ _ => rfl⟩
  | true =>
    obtain ⟨s', e1, e2⟩ := z1 hr
    have hli : (st i).lock ≤ (st i).heap.length := by omega
    have a0 := aop_ast hcf (lockD_le hli).2 e1
    rw [e2]
    refine ⟨a0.len, fun id hid hk => ?_⟩
    refine a0.fix id hid ?_
    rcases hk with hk | hk
    · left; simp only [lkOf, hk]; simpa [lockD] using hid
    · right; simp only [lkOf, List.mem_append]; exact .inl hk
theorem Trace.lo_ge (hcf : CallAst callf) (T : Trace callf as 0 st frm val ran bn) (hl : (st 0).lock ≤ (st 0).heap.length) (hb0 : bn 0 = []) : ∀ i, i ≤ as.length → ∀ e ∈ bn i, (st 0).heap.length ≤ e.2.1
  | 0, _, e, he => by rw [hb0] at he; cases he
  | i + 1, hi, e, he => by
    have ho : as[i]? = some (as[i]'(by omega)) := List.getElem?_eq_getElem _
    obtain ⟨_, _, _, _, z3⟩ := T.zero i _ ho
    rw [z3] at he
    split at he
    · rcases List.mem_cons.1 he with rfl | he
      · exact (T.ast hcf hl i (by omega)).2.2.1
      · exact Trace.lo_ge hcf T hl hb0 i (by omega) e he
    · exact Trace.lo_ge hcf T hl hb0 i (by omega) e he
theorem baseOf_ge {B : Nat} : ∀ (l : List (Nat × Nat × Nat)) (n : Nat), B ≤ n → (∀ e ∈ l, B ≤ e.2.1) → B ≤ baseOf l n
  | [], n, h, _ => h
  | (i, lo, hi) :: l, n, _, hk => baseOf_ge l lo (hk (i, lo, hi) (by simp)) fun e he => hk e (by simp [he])
theorem lockO_ge {B L base n : Nat} (h : B ≤ base) (h' : B ≤ n) : B ≤ lockO L base n := by
  unfold lockO; split <;> assumption
/-- What writes to the region's own blocks alone does not write to those from before. -/
theorem Trace.own_lock (hcf : CallAst callf) (T : Trace callf as 0 st frm val ran bn) (hl : (st 0).lock ≤ (st 0).heap.length) (hb0 : bn 0 = []) {i : Nat} (hi : i ≤ as.length) {o : AOper} (hown : ownO o = true) : (st 0).heap.length ≤ lockD o.wr (ownO o) (bn i) (st i).lock (st i).heap.length := by
  have h3 := (T.ast hcf hl i hi).2.2.1
  rw [hown]
  unfold lockD
  split
  · exact lockO_ge (baseOf_ge _ _ h3 (T.lo_ge hcf hl hb0 i hi)) h3
  · exact h3
theorem Trace.own_keep (hcf : CallAst callf) (T : Trace callf as 0 st frm val ran bn) (hl : (st 0).lock ≤ (st 0).heap.length) (hb0 : bn 0 = []) (i : Nat) (o : AOper) (ho : as[i]? = some o) (hown : ownO o = true) {id : Nat} (hid : id < (st 0).heap.length) : (st (i + 1)).heap[id]? = (st i).heap[id]? := by
  have hi : i < as.length := (List.getElem?_eq_some_iff.1 ho).1
  obtain ⟨h1, h2, h3, h4⟩ := T.ast hcf hl i (by omega)
  obtain ⟨_, _, z1, z2, _⟩ := T.zero i o ho
  cases hr : ran i with
  | false => rw [(z2 hr).2]
  | true =>
    obtain ⟨s', e1, e2⟩ := z1 hr
    have hli : (st i).lock ≤ (st i).heap.length := by omega
    have a0 := aop_ast hcf (lockD_le hli).2 e1
    rw [e2]
    refine a0.fix id (by simp only [lkOf]; omega) (.inl ?_)
    have := T.own_lock hcf hl hb0 (i := i) (by omega) hown
    simp only [lkOf]; omega
theorem Trace.len_mono (hcf : CallAst callf) (T : Trace callf as 0 st frm val ran bn) (hl : (st 0).lock ≤ (st 0).heap.length) (i : Nat) : ∀ d, i + d ≤ as.length → (st i).heap.length ≤ (st (i + d)).heap.length
  | 0, _ => Nat.le_refl _
  | d + 1, h => Nat.le_trans (Trace.len_mono hcf T hl i d (by omega)) (T.len_succ hcf hl (i + d) (as[i + d]'(by omega)) (List.getElem?_eq_getElem (by omega))).1
theorem Trace.len_le (hcf : CallAst callf) (T : Trace callf as 0 st frm val ran bn) (hl : (st 0).lock ≤ (st 0).heap.length) {i k : Nat} (hik : i ≤ k) (hk : k ≤ as.length) : (st i).heap.length ≤ (st k).heap.length := by
  have := T.len_mono hcf hl i (k - i) (by omega)
  rwa [show i + (k - i) = k by omega] at this
/-- Which blocks have been born where. -/
theorem Trace.mem_born (hb0 : bn 0 = []) (T : Trace callf as 0 st frm val ran bn) : ∀ j, j ≤ as.length → ∀ i lo hi, (i, lo, hi) ∈ bn j ↔ i < j ∧ lo = (st i).heap.length ∧ hi = (st (i + 1)).heap.length ∧ lo < hi
  | 0, _, i, lo, hi => by rw [hb0]; simp
  | j + 1, hj, i, lo, hi => by
    obtain ⟨_, _, _, _, z⟩ := T.zero j (as[j]'(by omega)) (List.getElem?_eq_getElem (by omega))
    have ih := Trace.mem_born hb0 T j (by omega) i lo hi
    rw [z]
    split
    · rename_i hlt
      rw [List.mem_cons, ih]
      constructor
      · rintro (h | h)
        · cases h; exact ⟨by omega, rfl, rfl, hlt⟩
        · exact ⟨by omega, h.2⟩
      · rintro ⟨h1, h2, h3, h4⟩
        by_cases hij : i = j
        · subst hij; left; rw [h2, h3]
        · right; exact ⟨by omega, h2, h3, h4⟩
    · rename_i hlt
      rw [ih]
      constructor
      · rintro ⟨h1, h2⟩; exact ⟨by omega, h2⟩
      · rintro ⟨h1, h2, h3, h4⟩
        by_cases hij : i = j
        · subst hij; omega
        · exact ⟨by omega, h2, h3, h4⟩
/-- Where the content of a block has got to, when the operations in D are done. -/
def Con (as : List AOper) (st : Nat → St) (bn : Nat → List (Nat × Nat × Nat)) (D : Nat → Prop) (id m : Nat) : Prop :=
  m ≤ as.length ∧ id < (st m).heap.length ∧ ∀ k o, as[k]? = some o → o.wr = true → id < (st k).heap.length → id ∉ hiddenBy o.bef (bn k) → (ownO o = true → (st 0).heap.length ≤ id) → (D k ↔ k < m)
theorem Con.same (hcf : CallAst callf) (T : Trace callf as 0 st frm val ran bn) (hl : (st 0).lock ≤ (st 0).heap.length) (hb0 : bn 0 = []) {D : Nat → Prop} {id m m' : Nat} (h : Con as st bn D id m) (h' : Con as st bn D id m') : (st m).heap[id]? = (st m').heap[id]? := by
  have key : ∀ {m m' : Nat}, m ≤ m' → Con as st bn D id m → Con as st bn D id m' → (st m).heap[id]? = (st m').heap[id]? := by
    intro m m' hmm h h'
    have : ∀ d, m + d ≤ m' → (st (m + d)).heap[id]? = (st m).heap[id]? := by
      intro d
      induction d with
      | zero => intro _; rfl
      | succ d ih =>
        intro hd
        have ho : as[m + d]? = some (as[m + d]'(by have := h'.1; omega)) := List.getElem?_eq_getElem _
        have hid : id < (st (m + d)).heap.length := Nat.lt_of_lt_of_le h.2.1 (T.len_le hcf hl (by omega) (by have := h'.1; omega))
        have hs := (T.len_succ hcf hl (m + d) _ ho).2 id hid
        rw [show m + (d + 1) = m + d + 1 by omega, ← ih (by omega)]
        by_cases hob : ownO (as[m + d]'(by have := h'.1; omega)) = true ∧ id < (st 0).heap.length
        · exact T.own_keep hcf hl hb0 _ _ ho hob.1 hob.2
        refine hs ?_
        cases hw : (as[m + d]'(by have := h'.1; omega)).wr with
        | false => exact .inl rfl
        | true =>
          right
          by_cases hh : id ∈ hiddenBy (as[m + d]'(by have := h'.1; omega)).bef (bn (m + d))
          · exact hh
          · have hoo : ownO (as[m + d]'(by have := h'.1; omega)) = true → (st 0).heap.length ≤ id := fun e => Nat.le_of_not_lt fun hlt => hob ⟨e, hlt⟩
            have h1 := h.2.2 _ _ ho hw hid hh hoo
            have h2 := h'.2.2 _ _ ho hw hid hh hoo
            exfalso
            have := h2.2 (by omega)
            have := h1.1 this
            omega
    have := this (m' - m) (by omega)
    rw [show m + (m' - m) = m' by omega] at this
    exact this.symm
  rcases Nat.le_total m m' with hmm | hmm
  · exact key hmm h h'
  · exact (key hmm h' h).symm
/-- A frame on the way. -/
theorem Trace.get_not (T : Trace callf as 0 st frm val ran bn) {t : Nat} : ∀ j, j ≤ as.length → (∀ k o, k < j → as[k]? = some o → o.dst ≠ some t) → (frm j).get t = (frm 0).get t
  | 0, _, _ => rfl
  | j + 1, hj, h => by
    have ho : as[j]? = some (as[j]'(by omega)) := List.getElem?_eq_getElem _
    obtain ⟨_, z, _⟩ := T.zero j _ ho
    rw [z, ← Trace.get_not T j (by omega) fun k o hk => h k o (by omega)]
    have hne := h j _ (by omega) ho
    unfold Fr.put
    split
    · rename_i d hd
      have : ¬ d = t := fun e => hne (by rw [hd, e])
      simp [Fr.get, this]
    · rfl
theorem Trace.get_at (T : Trace callf as 0 st frm val ran bn) {t k : Nat} {o : AOper} (hk : as[k]? = some o) (hd : o.dst = some t) (hu : ∀ i o', as[i]? = some o' → i ≠ k → o'.dst ≠ some t) : ∀ j, k < j → j ≤ as.length → (frm j).get t = some (val k)
  | 0, h, _ => by omega
  | j + 1, hkj, hj => by
    have ho : as[j]? = some (as[j]'(by omega)) := List.getElem?_eq_getElem _
    obtain ⟨_, z, _⟩ := T.zero j _ ho
    rw [z]
    by_cases hjk : j = k
    · subst hjk
      rw [ho] at hk
      cases hk
      rw [hd]
      simp [Fr.put, Fr.get]
    · rw [← Trace.get_at T hk hd hu j (by omega) (by omega)]
      have hne := hu j _ ho hjk
      unfold Fr.put
      split
      · rename_i d hd'
        have : ¬ d = t := fun e => hne (by rw [hd', e])
        simp [Fr.get, this]
      · rfl
end
end
end AM
end Go.Proofs.Ytpjjkmfidghkjaa
end
section
set_option linter.all false
namespace Go.Proofs.Ytpjjkmfidghkjaa
namespace AM
open Go Go.RowKit

/-! ### The walk through any order, with any invariant -/
section
variable {P : Program}
theorem drive {ops : Array Oper} {r : Option Nat} (st : Stat2 ops) (hnd : ∀ (j : Nat) (o : Oper), ops[j]? = some o → ∀ c, o.op ≠ .defer c) {Q : Exit → Act → World → Prop} {I : Array Bool → Act → World → Prop} (hls : ∀ l a w, I l a w → l.size = ops.size)
    (hstep : ∀ l a w j o, I l a w → ops[j]? = some o → l.getD j false = false → (∀ e ∈ o.after, Region.binds .any e = true → l.getD e.on false = true) →
      if Region.wanted o (yielded ops a.tmps) = true then Mono.gives P o a w (fun v w' => I (l.setIfInBounds j true) (a.put o.dst v) w') else I (l.setIfInBounds j true) (a.put o.dst undef) w)
    (hend : ∀ l a w, I l a w → (∀ j, j < ops.size → l.getD j false = true) → Q .normal a w) :
    ∀ (fuel : Nat) (l : Array Bool) (a : Act) (w : World), Mono.left ops.size l ≤ fuel → I l a w → wpAnyIn (Mono.fw r) 0 P .any ops Q fuel l a w := by
  have hall : ∀ (l : Array Bool), l.size = ops.size → Region.ready .any ops l = [] → ∀ j, j < ops.size → l.getD j false = true := by
    intro l hl hnil j
    induction j using Nat.strongRecOn with
    | _ j ih =>
      intro hj
      cases hc : l.getD j false with
      | true => rfl
      | false =>
        have ho : ops[j]? = some ops[j] := Array.getElem?_eq_getElem hj
        have hm : j ∈ Region.ready .any ops l := mem_ready.2 ⟨by
          have : j < l.size := by omega
          simpa [this] using hc, ops[j], ho, fun e he hb => ih e.on (st.back j _ e ho he hb) (by have := st.back j _ e ho he hb; omega)⟩
        rw [hnil] at hm
        cases hm
  intro fuel
  induction fuel with
  | zero =>
    intro l a w hl inv
    have hnil : Region.ready .any ops l = [] := by
      refine List.eq_nil_iff_forall_not_mem.2 fun j hj => ?_
      obtain ⟨h0, o, ho, _⟩ := mem_ready.1 hj
      have h0' := Mono.listed_false_of h0
      have hjl : j < ops.size := (Array.getElem?_eq_some_iff.1 ho).1
      have : 0 < Mono.left ops.size l := by
        unfold Mono.left
        exact List.length_pos_of_mem (List.mem_filter.2 ⟨List.mem_range.2 hjl, by simp [h0']⟩)
      omega
    exact ⟨hnil, hend l a w inv (hall l (hls l a w inv) hnil)⟩
  | succ fuel ih =>
    intro l a w hl inv
    refine ⟨fun hnil => hend l a w inv (hall l (hls l a w inv) hnil), fun j hj => ?_⟩
    obtain ⟨h0, o, ho, hrd⟩ := mem_ready.1 hj
    have hun := Mono.listed_false_of h0
    have hjl : j < ops.size := (Array.getElem?_eq_some_iff.1 ho).1
    have hlt := Mono.left_set (hls l a w inv) hjl hun
    have hs := hstep l a w j o inv ho hun hrd
    unfold wpOpIn
    simp only [ho]
    split
    · rename_i hw
      simp only [hw, if_true] at hs
      exact Mono.wpIn_of_gives (hnd j o ho) (fun v w' hI => ih _ _ _ (by omega) hI) hs
    · rename_i hw
      simp only [hw] at hs
      exact ⟨fun _ _ => (by cases r <;> exact trivial), ih _ _ _ (by omega) hs⟩
end

/-! ### A part of the embedding -/
def cut (L : Nat) (X : Emb) : Emb := ⟨fun id => if id < L then X id else none, X.y⟩
theorem cut_at (L : Nat) (X : Emb) (id : Nat) : cut L X id = if id < L then X id else none := rfl
theorem cut_some {L : Nat} {X : Emb} {id : Nat} {bx : Bx} : cut L X id = some bx ↔ id < L ∧ X id = some bx := by
  rw [cut_at]
  split
  · rename_i h; simp [h]
  · rename_i h; simp [h]
theorem cut_evo {L L' : Nat} {X X' : Emb} (h : L ≤ L') (e : Evo X X') : Evo (cut L X) (cut L' X') := Evo.mk' e.y fun id bx hx => by
  obtain ⟨h1, h2⟩ := cut_some.1 hx
  obtain ⟨bx', h3, h4⟩ := e.up id bx h2
  exact ⟨bx', cut_some.2 ⟨by omega, h3⟩, h4⟩
theorem cut_all {L : Nat} {X : Emb} : Evo (cut L X) X := Evo.mk' rfl fun id bx hx => ⟨bx, (cut_some.1 hx).2, .inl rfl⟩
/-- The new embedding up to L, the old one beyond. -/
def glue (L : Nat) (Y X : Emb) : Emb := ⟨fun id => if id < L then Y id else X id, X.y⟩
theorem glue_at (L : Nat) (Y X : Emb) (id : Nat) : glue L Y X id = if id < L then Y id else X id := rfl
theorem glue_lt {L : Nat} {Y X : Emb} {id : Nat} (h : id < L) : glue L Y X id = Y id := by rw [glue_at, if_pos h]
theorem glue_ge {L : Nat} {Y X : Emb} {id : Nat} (h : L ≤ id) : glue L Y X id = X id := by rw [glue_at, if_neg (Nat.not_lt.2 h)]

/-- What is known of the cells of one block. -/
def Facts (X : Emb) (w : World) (bx : Bx) (b : Option Blk) : Prop := ∀ g pl cs, b = some (.cells g pl cs) →
    g = bx.gen ∧ cs.length = bx.known ∧ g ≤ cs.length ∧ (pl = true → cs.all sc = true) ∧
    (∀ j v, cs[j]? = some v → ∃ u, w.cell? ⟨bx.b, bx.o + j, none⟩ = some u ∧ relC X v u) ∧
    (bx.own = true → bx.o = 0 ∧ ∃ rs ty lo hi, w.heap[bx.b]? = some (.cells rs ty (lo, hi)) ∧ rs.size = bx.size ∧ bx.known ≤ bx.size ∧ (hi = lo ∨ bx.size ≤ lo))
theorem Facts.mono {X X' : Emb} {w w' : World} {bx : Bx} {b : Option Blk} (h : Facts X w bx b) (e : Evo X X') (hw : w'.heap[bx.b]? = w.heap[bx.b]?) : Facts X' w' bx b := fun g pl cs hb => by
  obtain ⟨h1, h2, h3, h4, h5, h6⟩ := h g pl cs hb
  refine ⟨h1, h2, h3, h4, fun j v hj => ?_, fun ho => ?_⟩
  · obtain ⟨u, hu, hr⟩ := h5 j v hj
    exact ⟨u, by rw [← hu]; simp only [World.cell?, hw], hr.evo e⟩
  · rw [hw]; exact h6 ho
theorem Sim.facts {w0 w : World} {X : Emb} {σ : St} (S : Sim w0 X σ w) {id : Nat} {bx : Bx} (hx : X id = some bx) (hh : id ∉ σ.hid) : Facts X w bx σ.heap[id]? := fun g pl cs hb => S.cell id bx g pl cs hx hh hb

/-- An operation that does not touch old memory does the same on every heap of that length. -/
theorem nonmem_aop {callf : CallF} {p : AOp} {fr : Fr} {σ σ' : St} {v : Value} (hm : memOp p = false) (h : aop callf p fr σ = some (v, σ')) :
    ∃ bl, σ' = { σ with heap := σ.heap ++ bl } ∧ ∀ τ : St, τ.heap.length = σ.heap.length → aop callf p fr τ = some (v, { τ with heap := τ.heap ++ bl }) := by
  have pure_case : ∀ q : AOp, (pval q fr).map (fun v => (v, σ)) = some (v, σ') → ∃ bl, σ' = { σ with heap := σ.heap ++ bl } ∧ ∀ τ : St, τ.heap.length = σ.heap.length → (pval q fr).map (fun v => (v, τ)) = some (v, { τ with heap := τ.heap ++ bl }) := fun q h => by
    simp only [Option.map_eq_some_iff] at h
    obtain ⟨u, hu, h⟩ := h
    cases h
    exact ⟨[], by simp, fun τ _ => by simp [hu]⟩
  cases p <;> simp only [memOp] at hm <;> (try (cases hm)) <;> simp only [aop] at h ⊢ <;> first
    | exact pure_case _ h
    | skip
  case alloc pl zs => cases h; exact ⟨_, rfl, fun τ hτ => by simp [St.new, hτ]⟩
  case box pl x =>
    simp only [Option.bind_eq_some_iff] at h
    obtain ⟨p, hp, h⟩ := h
    split at h
    · rename_i hc
      cases h
      exact ⟨_, rfl, fun τ hτ => by rw [hp]; simp only [Option.bind_some]; rw [if_pos hc]; simp [St.new, hτ]⟩
    · cases h
  case bslice pl esz n zs ps =>
    simp only [Option.bind_eq_some_iff] at h
    obtain ⟨p, hp, cs, hcs, h⟩ := h
    split at h
    · rename_i hc
      cases h
      exact ⟨_, rfl, fun τ hτ => by rw [hp]; simp only [Option.bind_some]; rw [hcs]; simp only [Option.bind_some]; rw [if_pos hc]; simp [St.new, hτ]⟩
    · cases h
  case strb x =>
    split at h
    · rename_i s hs
      split at h
      · rename_i hc
        cases h
        exact ⟨_, rfl, fun τ hτ => by rw [if_pos hc]; simp [St.new, hτ]⟩
      · cases h
    · cases h
  case mkslice pl esz zs l c =>
    simp only [Option.bind_eq_some_iff] at h
    obtain ⟨p, hp, q, hq, l', hl', c', hc', h⟩ := h
    split at h
    · rename_i hc
      cases h
      exact ⟨_, rfl, fun τ hτ => by rw [hp]; simp only [Option.bind_some]; rw [hq]; simp only [Option.bind_some]; rw [hl']; simp only [Option.bind_some]; rw [hc']; simp only [Option.bind_some]; rw [if_pos hc]; simp [St.new, hτ]⟩
    · cases h
end AM
end Go.Proofs.Ytpjjkmfidghkjaa
end
section
set_option linter.all false
namespace Go.Proofs.Ytpjjkmfidghkjaa
namespace AM
open Go Go.RowKit

abbrev marks (as : List AOper) (ops : Array Oper) : List AOper := marked as (befs ops.toList [])
section
variable {P : Program} {w0 : World} {lo : Nat} {callf : CallF} {ops : Array Oper} {as : List AOper} {n : Nat} {st : Nat → St} {frm : Nat → Fr} {val : Nat → Value} {ran : Nat → Bool} {bn : Nat → List (Nat × Nat × Nat)}

structure DCtx (P : Program) (w0 : World) (callf : CallF) (ops : Array Oper) (n : Nat) (as : List AOper) (st : Nat → St) (frm : Nat → Fr) (val : Nat → Value) (ran : Nat → Bool) (bn : Nat → List (Nat × Nat × Nat)) : Prop where
  hcf : CallOk P w0 AnyY callf
  stt : Stat2 ops
  hc : compOpers P ops n ops.toList = some as
  T : Trace callf (marks as ops) 0 st frm val ran bn
  b0 : bn 0 = []
  lk : (st 0).lock ≤ (st 0).heap.length
  hd : ∀ t ∈ (st 0).hid, t < (st 0).heap.length

theorem DCtx.len (C : DCtx P w0 callf ops n as st frm val ran bn) : (marks as ops).length = ops.size := by
  simp [marked, (compOpers_get C.hc).1]
theorem DCtx.get (C : DCtx P w0 callf ops n as st frm val ran bn) {j : Nat} {o : Oper} (ho : ops[j]? = some o) : ∃ ao, as[j]? = some ao ∧ compOper P ops n o = some ao ∧
    (marks as ops)[j]? = some (markOf as (befs ops.toList []) j ao) := by
  obtain ⟨ao, h1, h2⟩ := (compOpers_get C.hc).2 j o (by simpa using ho)
  exact ⟨ao, h1, h2, marked_get h1⟩
theorem DCtx.inv (C : DCtx P w0 callf ops n as st frm val ran bn) {k : Nat} {m : AOper} (h : (marks as ops)[k]? = some m) : ∃ o ao, ops[k]? = some o ∧ as[k]? = some ao ∧ compOper P ops n o = some ao ∧
    m = markOf as (befs ops.toList []) k ao := by
  have hk : k < ops.size := by rw [← C.len]; exact (List.getElem?_eq_some_iff.1 h).1
  obtain ⟨ao, h1, h2, h3⟩ := C.get (j := k) (o := ops[k]) (Array.getElem?_eq_getElem hk)
  rw [h] at h3
  exact ⟨ops[k], ao, Array.getElem?_eq_getElem hk, h1, h2, by simpa using h3⟩
theorem DCtx.mono (C : DCtx P w0 callf ops n as st frm val ran bn) {i k : Nat} (h : i ≤ k) (hk : k ≤ ops.size) : (st i).heap.length ≤ (st k).heap.length := C.T.len_le C.hcf.ast C.lk h (by rw [C.len]; exact hk)
theorem DCtx.stay (C : DCtx P w0 callf ops n as st frm val ran bn) {i : Nat} (h : i ≤ ops.size) : (st i).lock = (st 0).lock ∧ (st i).hid = (st 0).hid ∧ (st 0).heap.length ≤ (st i).heap.length := by
  obtain ⟨h1, h2, h3, _⟩ := C.T.ast C.hcf.ast C.lk i (by rw [C.len]; exact h)
  exact ⟨h1, h2, h3⟩
/-- Bits go down. -/
theorem DCtx.bit_lt (C : DCtx P w0 callf ops n as st frm val ran bn) {j t : Nat} (hj : j < ops.size) (h : ((befs ops.toList []).getD j 0).testBit t = true) : t < j :=
  (bits_done C.stt (D := fun _ => True) (fun _ _ _ _ _ _ _ => trivial) j _ (Array.getElem?_eq_getElem hj) (fun _ _ _ => trivial) t h).2

/-- What holds on the way. -/
structure DInv (w0 : World) (ops : Array Oper) (as : List AOper) (st : Nat → St) (frm : Nat → Fr) (val : Nat → Value) (bn : Nat → List (Nat × Nat × Nat)) (X0 : Emb) (a0 : Act) (wS : World) (l : Array Bool) (X : Emb) (a : Act) (w : World) : Prop where
  lsize : l.size = ops.size
  closed : ∀ (k : Nat) (o : Oper) (e : Edge), ops[k]? = some o → l.getD k false = true → e ∈ o.after → Region.binds .any e = true → l.getD e.on false = true
  size : a.tmps.size = a0.tmps.size
  defers : a.defers = a0.defers
  bel : Below w0.heap.size w0 w
  stp : Stp X0 (st 0) wS X w
  place : ∀ id bx, X id = some bx → bx.b < w.heap.size ∧ (if bx.own then w0.heap.size ≤ bx.b else bx.b < w0.heap.size)
  inj : ∀ i j bi bj, X i = some bi → X j = some bj → bi.own = true → bj.own = true → bi.b = bj.b → i = j
  lock : ∀ id bx, X id = some bx → (st 0).lock ≤ id → bx.own = true
  zero : ∀ id bx, X id = some bx → bx.known = 0 → bx.size = 0
  birth : ∀ id bx, X id = some bx → id < (st 0).heap.length ∨ ∃ i, i < ops.size ∧ l.getD i false = true ∧ (st i).heap.length ≤ id ∧ id < (st (i + 1)).heap.length
  cell : ∀ id bx, X id = some bx → id ∉ (st 0).hid → ∃ m, Con (marks as ops) st bn (fun k => l.getD k false = true) id m ∧
    (m = 0 ∨ ∃ k o, m = k + 1 ∧ l.getD k false = true ∧ (marks as ops)[k]? = some o ∧ ((st k).heap.length ≤ id ∨ (o.wr = true ∧ id ∉ hiddenBy o.bef (bn k) ∧ (ownO o = true → (st 0).heap.length ≤ id)))) ∧ Facts (cut (st m).heap.length X) w bx (st m).heap[id]?
  base : FrR (cut (st 0).heap.length X) (frm 0) a0
  set : ∀ (k : Nat) (o : Oper) (d : Nat), ops[k]? = some o → l.getD k false = true → o.dst = some d → relV (cut (st (k + 1)).heap.length X) (val k) (Mono.slot a d)
  unset : ∀ (t : Nat), (∀ (k : Nat) (o : Oper), ops[k]? = some o → o.dst = some t → l.getD k false = false) → Mono.slot a t = Mono.slot a0 t

variable {X0 X : Emb} {a0 a : Act} {wS w : World} {l : Array Bool} {j : Nat} {o : Oper}

theorem DInv.bits (C : DCtx P w0 callf ops n as st frm val ran bn) (I : DInv w0 ops as st frm val bn X0 a0 wS l X a w) {k : Nat} {o : Oper} (ho : ops[k]? = some o) (hrd : ∀ e ∈ o.after, Region.binds .any e = true → l.getD e.on false = true)
    {t : Nat} (h : ((befs ops.toList []).getD k 0).testBit t = true) : l.getD t false = true ∧ t < k :=
  bits_done C.stt (D := fun k => l.getD k false = true) (fun k x e hk hl he hb => I.closed k x e hk hl he hb) k o ho hrd t h
/-- Two operations of which one is bound. -/
theorem DInv.order (C : DCtx P w0 callf ops n as st frm val ran bn) (I : DInv w0 ops as st frm val bn X0 a0 wS l X a w) (ho : ops[j]? = some o) (hun : l.getD j false = false)
    (hrd : ∀ e ∈ o.after, Region.binds .any e = true → l.getD e.on false = true) {k : Nat} (hk : k < ops.size) (hkj : k ≠ j) (h : ((befs ops.toList []).getD k 0).testBit j = true ∨ ((befs ops.toList []).getD j 0).testBit k = true) : (l.getD k false = true ↔ k < j) := by
  rcases h with h | h
  · have hlt := C.bit_lt hk h
    constructor
    · intro hd
      have := (I.bits C (Array.getElem?_eq_getElem hk) (fun e he hb => I.closed k _ e (Array.getElem?_eq_getElem hk) hd he hb) h).1
      rw [hun] at this; cases this
    · intro hh; omega
  · obtain ⟨h1, h2⟩ := I.bits C ho hrd h
    exact ⟨fun _ => h2, fun _ => h1⟩
theorem mark_bit {as : List AOper} {bs : List Nat} {j : Nat} {a : AOper} {t : Nat} (ht : t < as.length) (h : (markOf as bs j a).bef.testBit t = true) : (bs.getD j 0).testBit t = true := by
  unfold markOf at h
  simp only at h
  split at h
  · rename_i hown
    have hle : as.length ≤ 255 := by
      unfold ownJ at hown
      simp only [Bool.and_eq_true, decide_eq_true_eq] at hown
      exact hown.1.1.2
    rw [Nat.testBit_or, Nat.testBit_two_pow, Bool.or_eq_true] at h
    rcases h with h | h
    · exact h
    · have := of_decide_eq_true h; omega
  · exact h
theorem Trace.born_ex (st : Nat → St) {id : Nat} (h0 : (st 0).heap.length ≤ id) : ∀ m, id < (st m).heap.length → ∃ i, i < m ∧ (st i).heap.length ≤ id ∧ id < (st (i + 1)).heap.length
  | 0, h => by omega
  | m + 1, h => by
    rcases Nat.lt_or_ge id (st m).heap.length with h1 | h1
    · obtain ⟨i, e1, e2⟩ := Trace.born_ex st h0 m h1
      exact ⟨i, by omega, e2⟩
    · exact ⟨m, by omega, h1, h⟩
/-- Two operations that may see the same block, of which one writes. -/
theorem DInv.order_vis (C : DCtx P w0 callf ops n as st frm val ran bn) (I : DInv w0 ops as st frm val bn X0 a0 wS l X a w) (ho : ops[j]? = some o) (hun : l.getD j false = false)
    (hrd : ∀ e ∈ o.after, Region.binds .any e = true → l.getD e.on false = true) {mo : AOper} (hmo : (marks as ops)[j]? = some mo) (hmem : memOp mo.op = true) {k : Nat} {ok : AOper} (hk : (marks as ops)[k]? = some ok) (hwr : ok.wr = true) (hkj : k ≠ j)
    {id : Nat} (hik : id < (st k).heap.length) (hnk : id ∉ hiddenBy ok.bef (bn k)) (hok : ownO ok = true → (st 0).heap.length ≤ id) (hij : id < (st j).heap.length) (hnj : id ∉ hiddenBy mo.bef (bn j)) :
    (l.getD k false = true ↔ k < j) := by
  obtain ⟨o1, ao1, e1, e2, e3, rfl⟩ := C.inv hk
  obtain ⟨o2, ao2, d1, d2, d3, rfl⟩ := C.inv hmo
  have hwr' : memOp ao1.op = true ∧ (bound as (befs ops.toList []) k = true ∨ ownJ as (befs ops.toList []) k ao1 = true) := by
    simpa [markOf] using hwr
  have hmem' : memOp ao2.op = true := hmem
  have hks : k < ops.size := (Array.getElem?_eq_some_iff.1 e1).1
  have hjs : j < ops.size := (Array.getElem?_eq_some_iff.1 d1).1
  have hasl : as.length = ops.size := by have := C.len; simpa [marked] using this
  refine I.order C ho hun hrd hks hkj ?_
  have hjk : (j == k) = false := by simpa using (Ne.symm hkj)
  rcases hwr'.2 with hb | hb
  · unfold bound at hb
    rw [List.all_eq_true] at hb
    have hb := hb j (List.mem_range.2 (List.getElem?_eq_some_iff.1 d2).1)
    rw [hjk, d2] at hb
    simpa [hmem'] using hb
  · have hownb : ownO (markOf as (befs ops.toList []) k ao1) = true := by
      show (markOf as (befs ops.toList []) k ao1).bef.testBit 255 = true
      unfold markOf
      simp only [hb, if_true, Nat.testBit_or, Nat.testBit_two_pow, decide_true, Bool.or_true]
    have hbase := hok hownb
    have hbO : boundO as (befs ops.toList []) k = true := by
      unfold ownJ at hb
      simp only [Bool.and_eq_true] at hb
      exact hb.2
    unfold boundO at hbO
    rw [List.all_eq_true] at hbO
    have hbO := hbO j (List.mem_range.2 (List.getElem?_eq_some_iff.1 d2).1)
    rw [hjk, d2] at hbO
    simp only [hmem', Bool.not_true, Bool.or_false, Bool.false_or, Bool.or_eq_true, beq_iff_eq] at hbO
    rcases hbO with hbO | hz
    · exact hbO
    · exfalso
      obtain ⟨i0, g1, g2, g3⟩ := Trace.born_ex st hbase k hik
      have hi0j : i0 < j := by
        rcases Nat.lt_or_ge i0 j with h | h
        · exact h
        · have := C.mono (i := j) (k := i0) h (by omega); omega
      have hbit : ∀ (q : Nat) (m : AOper), q ≤ ops.size → i0 < q → id ∉ hiddenBy m.bef (bn q) → m.bef.testBit i0 = true := fun q m hq hiq hn => by
        cases hb : m.bef.testBit i0 with
        | true => rfl
        | false =>
          refine absurd (mem_hidden.2 ⟨i0, (st i0).heap.length, (st (i0 + 1)).heap.length, ?_, hb, g2, g3⟩) hn
          exact (C.T.mem_born C.b0 q (by rw [C.len]; exact hq) _ _ _).2 ⟨hiq, rfl, rfl, by omega⟩
      have b1 := mark_bit (by omega) (hbit k _ (by omega) g1 hnk)
      have b2 := mark_bit (by omega) (hbit j _ (by omega) hi0j hnj)
      have : ((befs ops.toList []).getD j 0 &&& (befs ops.toList []).getD k 0).testBit i0 = true := by
        rw [Nat.testBit_and, b1, b2]; rfl
      rw [hz] at this
      simp at this
/-- A slot that the operation looks at. -/
theorem DInv.frame (C : DCtx P w0 callf ops n as st frm val ran bn) (I : DInv w0 ops as st frm val bn X0 a0 wS l X a w) (ho : ops[j]? = some o) (hun : l.getD j false = false)
    (hrd : ∀ e ∈ o.after, Region.binds .any e = true → l.getD e.on false = true) {t : Nat} (ht : t ∈ o.looksAt ops) : ∀ v, (frm j).get t = some v → relV (cut (st j).heap.length X) v (a.tmps.getD t undef) := by
  have hj : j < ops.size := (Array.getElem?_eq_some_iff.1 ho).1
  have hdst : ∀ (k : Nat) (m : AOper), (marks as ops)[k]? = some m → ∃ o', ops[k]? = some o' ∧ m.dst = o'.dst := fun k m hk => by
    obtain ⟨o', ao, e1, _, e3, rfl⟩ := C.inv hk
    exact ⟨o', e1, (compOper_op e3).2.1⟩
  have from0 : (∀ (k : Nat) (x : Oper), k < j → ops[k]? = some x → x.dst ≠ some t) → Mono.slot a t = Mono.slot a0 t → ∀ v, (frm j).get t = some v → relV (cut (st j).heap.length X) v (a.tmps.getD t undef) := fun h1 h2 v hv => by
    rw [C.T.get_not j (by rw [C.len]; omega) (fun k m hk hm => by
      obtain ⟨o', e1, e2⟩ := hdst k m hm
      rw [e2]; exact h1 k o' hk e1)] at hv
    have := (I.base t v hv).evo (cut_evo (C.mono (Nat.zero_le j) (by omega)) (Evo.refl X))
    show relV _ v (Mono.slot a t)
    rw [h2]; exact this
  by_cases hw : ∃ (k : Nat) (o' : Oper), ops[k]? = some o' ∧ o'.dst = some t ∧ k ≠ j
  · obtain ⟨k, o', hk, hd, hkj⟩ := hw
    rcases C.stt.bound j k o o' t ho hk (Ne.symm hkj) hd ht with ⟨e, he, hb, hon⟩ | ⟨e, he, hb, hon⟩
    · have hlk : l.getD k false = true := by rw [← hon]; exact hrd e he hb
      have hlt : k < j := by rw [← hon]; exact C.stt.back j o e ho he hb
      intro v hv
      obtain ⟨ao, e1, e2, e3⟩ := C.get hk
      rw [C.T.get_at e3 (t := t) (by rw [← hd]; exact (compOper_op e2).2.1) (fun i m hi hne => by
        obtain ⟨x, f1, f2⟩ := hdst i m hi
        rw [f2]; exact C.stt.one i k x o' t f1 hk hne hd) j hlt (by rw [C.len]; omega)] at hv
      cases hv
      exact (I.set k o' t hk hlk hd).evo (cut_evo (C.mono hlt (by omega)) (Evo.refl X))
    · have hlk : l.getD k false = false := by
        cases hc : l.getD k false with
        | false => rfl
        | true =>
          have := I.closed k o' e hk hc he hb
          rw [hon, hun] at this
          cases this
      have hjk : j < k := by rw [← hon]; exact C.stt.back k o' e hk he hb
      exact from0 (fun i x hi hx => C.stt.one i k x o' t hx hk (by omega) hd) (I.unset t fun k' x hk' hd' => by
        by_cases hkk : k' = k
        · subst hkk; exact hlk
        · exact absurd hd' (C.stt.one k' k x o' t hk' hk hkk hd))
  · have hno : ∀ (k : Nat) (o' : Oper), ops[k]? = some o' → k ≠ j → o'.dst ≠ some t := fun k o' hk hkj hd => hw ⟨k, o', hk, hd, hkj⟩
    exact from0 (fun i x hi hx => hno i x hx (by omega)) (I.unset t fun k x hk hd => by
      by_cases hkj : k = j
      · subst hkj; exact hun
      · exact absurd hd (hno k x hk hkj))

/-- The state in which the operation is run. -/
def tau (σ : St) (b : List (Nat × Nat × Nat)) (mo : AOper) : St := if memOp mo.op = true then lkOf σ b mo else { lkOf σ b mo with heap := List.replicate σ.heap.length (.map []) }
theorem tau_len (σ : St) (b : List (Nat × Nat × Nat)) (mo : AOper) : (tau σ b mo).heap.length = σ.heap.length := by unfold tau; split <;> simp [lkOf]
theorem tau_lock (σ : St) (b : List (Nat × Nat × Nat)) (mo : AOper) : (tau σ b mo).lock = lockD mo.wr (ownO mo) b σ.lock σ.heap.length := by unfold tau; split <;> rfl
theorem tau_hid (σ : St) (b : List (Nat × Nat × Nat)) (mo : AOper) : (tau σ b mo).hid = hiddenBy mo.bef b ++ σ.hid := by unfold tau; split <;> rfl
theorem DCtx.hidden_lt (C : DCtx P w0 callf ops n as st frm val ran bn) (hj : j ≤ ops.size) {bef id : Nat} (h : id ∈ hiddenBy bef (bn j)) : id < (st j).heap.length := by
  obtain ⟨i, lo, hi, h1, _, _, h4⟩ := mem_hidden.1 h
  obtain ⟨f1, f2, f3, f4⟩ := (C.T.mem_born C.b0 j (by rw [C.len]; exact hj) i lo hi).1 h1
  exact Nat.lt_of_lt_of_le (f3 ▸ h4) (C.mono f1 hj)
theorem DInv.sim_tau (C : DCtx P w0 callf ops n as st frm val ran bn) (I : DInv w0 ops as st frm val bn X0 a0 wS l X a w) (ho : ops[j]? = some o) (hun : l.getD j false = false)
    (hrd : ∀ e ∈ o.after, Region.binds .any e = true → l.getD e.on false = true) {mo : AOper} (hmo : (marks as ops)[j]? = some mo) : Sim w0 (cut (st j).heap.length X) (tau (st j) (bn j) mo) w where
  bel := I.bel
  dom := fun id bx h => by rw [tau_len]; exact (cut_some.1 h).1
  place := fun id bx h => I.place id bx (cut_some.1 h).2
  inj := fun i k bi bk h1 h2 => I.inj i k bi bk (cut_some.1 h1).2 (cut_some.1 h2).2
  zero := fun id bx h => I.zero id bx (cut_some.1 h).2
  lock := fun id bx h hl => by
    obtain ⟨h1, h2⟩ := cut_some.1 h
    refine I.lock id bx h2 ?_
    have hj : j < ops.size := (Array.getElem?_eq_some_iff.1 ho).1
    have h3 := C.stay (i := j) (by omega)
    have h4 := (lockD_le (wr := mo.wr) (own := ownO mo) (born := bn j) (L := (st j).lock) (n := (st j).heap.length) (by have := C.lk; omega)).1
    rw [tau_lock] at hl
    omega
  cell := fun id bx g pl cs h hh hb => by
    obtain ⟨h1, h2⟩ := cut_some.1 h
    have hj : j < ops.size := (Array.getElem?_eq_some_iff.1 ho).1
    by_cases hmem : memOp mo.op = true
    · simp only [tau_hid, List.mem_append, not_or, (C.stay (i := j) (by omega)).2.1] at hh
      obtain ⟨m, hcon, hm, hf⟩ := I.cell id bx h2 hh.2
      have hcon' : Con (marks as ops) st bn (fun k => l.getD k false = true) id j := by
        refine ⟨by rw [C.len]; omega, h1, fun k ok hk hwr hlt hnh hown => ?_⟩
        by_cases hkj : k = j
        · subst hkj; simp [hun]
        · exact I.order_vis C ho hun hrd hmo hmem hk hwr hkj hlt hnh hown h1 hh.1
      have hmj : m ≤ j := by
        rcases hm with rfl | ⟨k, ok, rfl, hk1, hk2, hk3⟩
        · omega
        · have hks : k < ops.size := by rw [← C.len]; exact (List.getElem?_eq_some_iff.1 hk2).1
          have early : (st k).heap.length ≤ id → k < j := fun hk3 => by
            rcases Nat.lt_or_ge k j with hh | hh
            · exact hh
            · have := C.mono hh (by omega); omega
          rcases hk3 with hk3 | ⟨hk3, hk4, hk5⟩
          · exact early hk3
          · have hkj : k ≠ j := fun e => by subst e; rw [hun] at hk1; cases hk1
            rcases Nat.lt_or_ge id (st k).heap.length with hlt | hlt
            · exact (I.order_vis C ho hun hrd hmo hmem hk2 hk3 hkj hlt hk4 hk5 h1 hh.1).1 hk1
            · exact early hlt
      have hsame := hcon.same C.hcf.ast C.T C.lk C.b0 hcon'
      have hb' : (st j).heap[id]? = some (.cells g pl cs) := by
        rw [← hb]; unfold tau; rw [if_pos hmem]; rfl
      rw [hsame] at hf
      exact hf.mono (cut_evo (C.mono hmj (by omega)) (Evo.refl X)) rfl g pl cs hb'
    · exfalso
      unfold tau at hb
      rw [if_neg hmem] at hb
      simp only [List.getElem?_replicate] at hb
      split at hb
      · cases hb
      · cases hb
theorem DCtx.tau_run (C : DCtx P w0 callf ops n as st frm val ran bn) {mo : AOper} (hmo : (marks as ops)[j]? = some mo) (hr : ran j = true) : ∃ τ', aop callf mo.op (frm j) (tau (st j) (bn j) mo) = some (val j, τ') ∧ τ'.heap.length = (st (j + 1)).heap.length ∧
    τ'.hid = (tau (st j) (bn j) mo).hid ∧ ∀ id, (st j).heap.length ≤ id ∨ mo.wr = true → τ'.heap[id]? = (st (j + 1)).heap[id]? := by
  obtain ⟨_, _, z1, _, _⟩ := C.T.zero j mo hmo
  obtain ⟨s', e1, e2⟩ := z1 hr
  have hj : j < ops.size := by rw [← C.len]; exact (List.getElem?_eq_some_iff.1 hmo).1
  have hlk : (lkOf (st j) (bn j) mo).lock ≤ (lkOf (st j) (bn j) mo).heap.length := by
    have := C.stay (i := j) (by omega)
    have := C.lk
    exact (lockD_le (by omega)).2
  by_cases hmem : memOp mo.op = true
  · refine ⟨s', by unfold tau; rw [if_pos hmem]; exact e1, by rw [e2], ?_, fun id _ => by rw [e2]⟩
    rw [tau_hid]; exact (aop_ast C.hcf.ast hlk e1).hid
  · have hm : memOp mo.op = false := by simpa using hmem
    obtain ⟨bl, f1, f2⟩ := nonmem_aop hm e1
    refine ⟨_, f2 _ (tau_len _ _ _), ?_, rfl, fun id hid => ?_⟩
    · rw [e2, f1]; simp [tau_len, lkOf]
    · rw [e2, f1]
      have hwr : mo.wr = false := by
        obtain ⟨_, ao, _, _, _, rfl⟩ := C.inv hmo
        have : memOp ao.op = false := hm
        simp [markOf, this]
      have hid : (st j).heap.length ≤ id := by
        rcases hid with h | h
        · exact h
        · rw [hwr] at h; cases h
      simp only []
      rw [List.getElem?_append_right (by rw [tau_len]; exact hid), List.getElem?_append_right (by simpa [lkOf] using hid), tau_len]
      rfl
end
end AM
end Go.Proofs.Ytpjjkmfidghkjaa
end
section
namespace Go.Proofs.Ytpjjkmfidghkjaa
namespace AM
open Go Go.RowKit

section
variable {P : Program} {w0 : World} {lo : Nat} {callf : CallF} {ops : Array Oper} {as : List AOper} {n : Nat} {st : Nat → St} {frm : Nat → Fr} {val : Nat → Value} {ran : Nat → Bool} {bn : Nat → List (Nat × Nat × Nat)}
variable {X0 X Y : Emb} {a0 a : Act} {wS w w' : World} {l : Array Bool} {j : Nat} {o : Oper} {u : Value} {τ' : St}

theorem DInv.next (C : DCtx P w0 callf ops n as st frm val ran bn) (I : DInv w0 ops as st frm val bn X0 a0 wS l X a w) (ho : ops[j]? = some o) (hun : l.getD j false = false)
    (hrd : ∀ e ∈ o.after, Region.binds .any e = true → l.getD e.on false = true) {mo : AOper} (hmo : (marks as ops)[j]? = some mo) (hdst : ∀ d, o.dst = some d → d < a.tmps.size)
    (hlen : τ'.heap.length = (st (j + 1)).heap.length) (hhid : τ'.hid = (tau (st j) (bn j) mo).hid) (hheap : ∀ id, (st j).heap.length ≤ id ∨ mo.wr = true → τ'.heap[id]? = (st (j + 1)).heap[id]?)
    (r : relV Y (val j) u) (S : Sim w0 Y τ' w') (s : Stp (cut (st j).heap.length X) (tau (st j) (bn j) mo) w Y w') :
    DInv w0 ops as st frm val bn X0 a0 wS (l.setIfInBounds j true) (glue (st (j + 1)).heap.length Y X) (a.put o.dst u) w' := by
  have hj : j < ops.size := (Array.getElem?_eq_some_iff.1 ho).1
  have hLL : (st j).heap.length ≤ (st (j + 1)).heap.length := C.mono (by omega) (by omega)
  have h0L : (st 0).heap.length ≤ (st j).heap.length := C.mono (by omega) (by omega)
  have hset : (l.setIfInBounds j true).getD j false = true := Mono.set_getD_same false (by rw [I.lsize]; exact hj)
  have hup : ∀ k, l.getD k false = true → (l.setIfInBounds j true).getD k false = true := fun k hk => by
    by_cases hkj : j = k
    · subst hkj; exact hset
    · rw [Mono.set_getD false hkj]; exact hk
  have hD : ∀ k, k ≠ j → ((l.setIfInBounds j true).getD k false = true ↔ l.getD k false = true) := fun k hk => by rw [Mono.set_getD false (Ne.symm hk)]
  have hst := C.stay (i := j) (by omega)
  have hlow : (st 0).lock ≤ (tau (st j) (bn j) mo).lock := by
    have h4 := (lockD_le (wr := mo.wr) (own := ownO mo) (born := bn j) (L := (st j).lock) (n := (st j).heap.length) (by have := C.lk; omega)).1
    rw [tau_lock]; omega
  have hYdom : ∀ id bx, Y id = some bx → id < (st (j + 1)).heap.length := fun id bx h => by rw [← hlen]; exact S.dom id bx h
  have hnone : ∀ id bx, X id = some bx → id < (st (j + 1)).heap.length → id < (st j).heap.length := fun id bx h hl => by
    rcases I.birth id bx h with h1 | ⟨i, h1, h2, h3, h4⟩
    · omega
    · have hij : i ≠ j := fun e => by subst e; rw [hun] at h2; cases h2
      rcases Nat.lt_or_ge i j with h5 | h5
      · have := C.mono (i := i + 1) (k := j) h5 (by omega); omega
      · have := C.mono (i := j + 1) (k := i) (by omega) (by omega); omega
  have hback : ∀ id bx, Y id = some bx → (∃ bx1, X id = some bx1 ∧ id < (st j).heap.length ∧ bx.own = bx1.own ∧ (bx.b = bx1.b ∨ w.heap.size ≤ bx.b)) ∨ (X id = none ∧ bx.own = true ∧ w.heap.size ≤ bx.b ∧ (st j).heap.length ≤ id) := fun id bx h => by
    rcases s.back id bx h with ⟨bx1, h1, h2⟩ | ⟨h1, h2, h3, h4⟩
    · obtain ⟨h5, h6⟩ := cut_some.1 h1
      exact .inl ⟨bx1, h6, h5, h2⟩
    · rw [tau_len] at h4
      refine .inr ⟨?_, h2, h3, h4⟩
      cases hx : X id with
      | none => rfl
      | some bx1 => have := hnone id bx1 hx (hYdom id bx h); omega
  have hevo : Evo X (glue (st (j + 1)).heap.length Y X) := Evo.mk' rfl fun id bx h => by
    rcases Nat.lt_or_ge id (st (j + 1)).heap.length with h1 | h1
    · rw [glue_lt h1]; exact s.evo.up id bx (cut_some.2 ⟨hnone id bx h h1, h⟩)
    · rw [glue_ge h1]; exact ⟨bx, h, .inl rfl⟩
  have hevoY : Evo Y (cut (st (j + 1)).heap.length (glue (st (j + 1)).heap.length Y X)) := Evo.mk' s.evo.y.symm fun id bx h => by
    have := hYdom id bx h
    exact ⟨bx, cut_some.2 ⟨this, by rw [glue_lt this]; exact h⟩, .inl rfl⟩
  -- what the operation did not write
  have hkeep : ∀ id bx, X id = some bx → ((st (j + 1)).heap.length ≤ id ∨ ((tau (st j) (bn j) mo).lock ≤ id → id ∈ (tau (st j) (bn j) mo).hid)) → glue (st (j + 1)).heap.length Y X id = some bx ∧ w'.heap[bx.b]? = w.heap[bx.b]? := by
    intro id bx h hk
    refine ⟨?_, ?_⟩
    · rcases Nat.lt_or_ge id (st (j + 1)).heap.length with h1 | h1
      · rw [glue_lt h1]
        have hc := cut_some.2 ⟨hnone id bx h h1, h⟩
        obtain ⟨bx', h2, h3⟩ := s.evo.up id bx hc
        rcases s.same id bx bx' hc h2 with h4 | ⟨h4, h5⟩
        · rw [h2, h4]
        · rcases hk with hk | hk
          · omega
          · exact absurd (hk h4) h5
      · rw [glue_ge h1]; exact h
    · have hp := I.place id bx h
      refine s.frame bx.b hp.1 fun id2 bx2 h2 hl2 hh2 ho2 e => ?_
      obtain ⟨h3, h4⟩ := cut_some.1 h2
      have hp2 := (I.place id2 bx2 h4).2
      rw [ho2] at hp2
      simp only [if_true] at hp2
      cases hown : bx.own with
      | false =>
        have := hp.2
        rw [hown] at this
        simp at this
        omega
      | true =>
        have := I.inj id2 id bx2 bx h4 h ho2 hown e
        subst this
        rcases hk with hk | hk
        · omega
        · exact hh2 (hk hl2)
  have hcon : ∀ id m, Con (marks as ops) st bn (fun k => l.getD k false = true) id m → (id < (st j).heap.length → mo.wr = true → id ∈ hiddenBy mo.bef (bn j) ∨ (ownO mo = true ∧ id < (st 0).heap.length)) → Con (marks as ops) st bn (fun k => (l.setIfInBounds j true).getD k false = true) id m := by
    intro id m hc hk
    refine ⟨hc.1, hc.2.1, fun k ok hok hwr hlt hnh hown => ?_⟩
    by_cases hkj : k = j
    · subst hkj
      rw [hmo] at hok
      cases hok
      rcases hk hlt hwr with h1 | ⟨h1, h2⟩
      · exact absurd h1 hnh
      · have := hown h1; omega
    · exact (hD k hkj).trans (hc.2.2 k ok hok hwr hlt hnh hown)
  refine ⟨by simp [I.lsize], fun k x e hk hl he hb => ?_, by rw [size_put, I.size], by rw [defers_put, I.defers], S.bel, ?_, fun id bx h => ?_, fun i k bi bk h1 h2 o1 o2 e => ?_, fun id bx h hl => ?_, fun id bx h => by
      rcases Nat.lt_or_ge id (st (j + 1)).heap.length with h4 | h4
      · rw [glue_lt h4] at h; exact S.zero id bx h
      · rw [glue_ge h4] at h; exact I.zero id bx h, fun id bx h => ?_, fun id bx h hh => ?_, ?_, fun k x d hk hl hd => ?_, fun t h => ?_⟩
  · by_cases hkj : k = j
    · subst hkj
      rw [ho] at hk; injection hk with hk; subst hk
      exact hup _ (hrd e he hb)
    · exact hup _ (I.closed k x e hk ((hD k hkj).1 hl) he hb)
  · -- the world's step
    refine ⟨Nat.le_trans I.stp.size s.size, s.os.trans I.stp.os, s.tape.trans I.stp.tape, s.output.trans I.stp.output, fun k hk hx => ?_, I.stp.evo.trans hevo, fun id bx bx' h h' => ?_, fun id bx' h => ?_⟩
    · rw [s.frame k (Nat.lt_of_lt_of_le hk I.stp.size) fun id bx h hl hh ho' e => ?_, I.stp.frame k hk hx]
      obtain ⟨h1, h2⟩ := cut_some.1 h
      have hl' : (st 0).lock ≤ id := Nat.le_trans hlow hl
      have hh' : id ∉ (st 0).hid := by
        rw [tau_hid, hst.2.1] at hh
        exact fun hm => hh (List.mem_append_right _ hm)
      rcases I.stp.back id bx h2 with ⟨bx0, e1, e2, e3⟩ | ⟨_, _, e3, _⟩
      · rcases e3 with e3 | e3
        · exact hx id bx0 e1 hl' hh' (by rw [← e2]; exact ho') (by rw [← e3]; exact e)
        · omega
      · omega
    · obtain ⟨bx1, h1, h2⟩ := I.stp.evo.up id bx h
      rcases I.stp.same id bx bx1 h h1 with h3 | h3
      · subst h3
        rcases Nat.lt_or_ge id (st (j + 1)).heap.length with h4 | h4
        · rw [glue_lt h4] at h'
          rcases s.same id bx1 bx' (cut_some.2 ⟨hnone id bx1 h1 h4, h1⟩) h' with h5 | ⟨h5, h6⟩
          · exact .inl h5
          · right
            refine ⟨?_, ?_⟩
            · exact Nat.le_trans hlow h5
            · rw [tau_hid, hst.2.1] at h6
              exact fun hm => h6 (List.mem_append_right _ hm)
        · rw [glue_ge h4, h1] at h'
          cases h'; exact .inl rfl
      · exact .inr h3
    · have comp : ∀ bx1, X id = some bx1 → bx'.own = bx1.own → (bx'.b = bx1.b ∨ w.heap.size ≤ bx'.b) → (∃ bx, X0 id = some bx ∧ bx'.own = bx.own ∧ (bx'.b = bx.b ∨ wS.heap.size ≤ bx'.b)) ∨ (X0 id = none ∧ bx'.own = true ∧ wS.heap.size ≤ bx'.b ∧ (st 0).heap.length ≤ id) := by
        intro bx1 h1 h2 h3
        have hs := I.stp.size
        rcases I.stp.back id bx1 h1 with ⟨bx0, e1, e2, e3⟩ | ⟨e1, e2, e3, e4⟩
        · refine .inl ⟨bx0, e1, h2.trans e2, ?_⟩
          rcases h3 with h3 | h3
          · rcases e3 with e3 | e3
            · exact .inl (h3.trans e3)
            · right; omega
          · right; omega
        · refine .inr ⟨e1, h2.trans e2, ?_, e4⟩
          rcases h3 with h3 | h3 <;> omega
      rcases Nat.lt_or_ge id (st (j + 1)).heap.length with h4 | h4
      · rw [glue_lt h4] at h
        rcases hback id bx' h with ⟨bx1, h1, _, h2, h3⟩ | ⟨h1, h2, h3, h5⟩
        · exact comp bx1 h1 h2 h3
        · refine .inr ⟨?_, h2, Nat.le_trans I.stp.size h3, by omega⟩
          cases hx : X0 id with
          | none => rfl
          | some bx0 =>
            obtain ⟨_, e, _⟩ := I.stp.evo.up id bx0 hx
            rw [h1] at e; cases e
      · rw [glue_ge h4] at h
        exact comp bx' h rfl (.inl rfl)
  · -- places
    rcases Nat.lt_or_ge id (st (j + 1)).heap.length with h4 | h4
    · rw [glue_lt h4] at h; exact S.place id bx h
    · rw [glue_ge h4] at h
      have := I.place id bx h
      exact ⟨Nat.lt_of_lt_of_le this.1 s.size, this.2⟩
  · -- one block, one place
    have mixed : ∀ i k bi bk, i < (st (j + 1)).heap.length → (st (j + 1)).heap.length ≤ k → Y i = some bi → X k = some bk → bi.own = true → bk.own = true → bi.b = bk.b → False := by
      intro i k bi bk hi hk h1 h2 o1 o2 e
      have hp := I.place k bk h2
      rcases hback i bi h1 with ⟨bx1, e1, e2, e3, e4⟩ | ⟨_, _, e3, _⟩
      · rcases e4 with e4 | e4
        · have := I.inj i k bx1 bk e1 h2 (by rw [← e3]; exact o1) o2 (by rw [← e4]; exact e)
          omega
        · omega
      · omega
    rcases Nat.lt_or_ge i (st (j + 1)).heap.length with h3 | h3 <;> rcases Nat.lt_or_ge k (st (j + 1)).heap.length with h4 | h4
    · rw [glue_lt h3] at h1; rw [glue_lt h4] at h2
      exact S.inj i k bi bk h1 h2 o1 o2 e
    · rw [glue_lt h3] at h1; rw [glue_ge h4] at h2
      exact (mixed i k bi bk h3 h4 h1 h2 o1 o2 e).elim
    · rw [glue_ge h3] at h1; rw [glue_lt h4] at h2
      exact (mixed k i bk bi h4 h3 h2 h1 o2 o1 e.symm).elim
    · rw [glue_ge h3] at h1; rw [glue_ge h4] at h2
      exact I.inj i k bi bk h1 h2 o1 o2 e
  · -- what may be written is the call's own
    rcases Nat.lt_or_ge id (st (j + 1)).heap.length with h4 | h4
    · rw [glue_lt h4] at h
      rcases hback id bx h with ⟨bx1, e1, e2, e3, e4⟩ | ⟨_, e2, _, _⟩
      · rw [e3]; exact I.lock id bx1 e1 hl
      · exact e2
    · rw [glue_ge h4] at h
      exact I.lock id bx h hl
  · -- births
    have up : (id < (st 0).heap.length ∨ ∃ i, i < ops.size ∧ l.getD i false = true ∧ (st i).heap.length ≤ id ∧ id < (st (i + 1)).heap.length) → (id < (st 0).heap.length ∨ ∃ i, i < ops.size ∧ (l.setIfInBounds j true).getD i false = true ∧ (st i).heap.length ≤ id ∧ id < (st (i + 1)).heap.length) := by
      rintro (h1 | ⟨i, h1, h2, h3⟩)
      · exact .inl h1
      · exact .inr ⟨i, h1, hup i h2, h3⟩
    rcases Nat.lt_or_ge id (st (j + 1)).heap.length with h4 | h4
    · rw [glue_lt h4] at h
      rcases hback id bx h with ⟨bx1, e1, _⟩ | ⟨_, _, _, e4⟩
      · exact up (I.birth id bx1 e1)
      · exact .inr ⟨j, hj, hset, e4, h4⟩
    · rw [glue_ge h4] at h
      exact up (I.birth id bx h)
  · -- cells
    have old : ∀ bx1, X id = some bx1 → ((st (j + 1)).heap.length ≤ id ∨ ((tau (st j) (bn j) mo).lock ≤ id → id ∈ (tau (st j) (bn j) mo).hid)) → (id < (st j).heap.length → mo.wr = true → id ∈ hiddenBy mo.bef (bn j) ∨ (ownO mo = true ∧ id < (st 0).heap.length)) → ∃ m, Con (marks as ops) st bn (fun k => (l.setIfInBounds j true).getD k false = true) id m ∧
        (m = 0 ∨ ∃ k o, m = k + 1 ∧ (l.setIfInBounds j true).getD k false = true ∧ (marks as ops)[k]? = some o ∧ ((st k).heap.length ≤ id ∨ (o.wr = true ∧ id ∉ hiddenBy o.bef (bn k) ∧ (ownO o = true → (st 0).heap.length ≤ id)))) ∧ Facts (cut (st m).heap.length (glue (st (j + 1)).heap.length Y X)) w' bx (st m).heap[id]? := by
      intro bx1 h1 h2 h3
      obtain ⟨e1, e2⟩ := hkeep id bx1 h1 h2
      rw [h] at e1
      cases e1
      obtain ⟨m, c1, c2, c3⟩ := I.cell id bx h1 hh
      refine ⟨m, hcon id m c1 h3, ?_, c3.mono (cut_evo (Nat.le_refl _) hevo) e2⟩
      rcases c2 with c2 | ⟨k, o, d1, d2, d3⟩
      · exact .inl c2
      · exact .inr ⟨k, o, d1, hup k d2, d3⟩
    have new : id < (st (j + 1)).heap.length → id ∉ (tau (st j) (bn j) mo).hid → ((st j).heap.length ≤ id ∨ (mo.wr = true ∧ id ∉ hiddenBy mo.bef (bn j) ∧ (ownO mo = true → (st 0).heap.length ≤ id))) → Con (marks as ops) st bn (fun k => (l.setIfInBounds j true).getD k false = true) id (j + 1) → ∃ m, Con (marks as ops) st bn (fun k => (l.setIfInBounds j true).getD k false = true) id m ∧
        (m = 0 ∨ ∃ k o, m = k + 1 ∧ (l.setIfInBounds j true).getD k false = true ∧ (marks as ops)[k]? = some o ∧ ((st k).heap.length ≤ id ∨ (o.wr = true ∧ id ∉ hiddenBy o.bef (bn k) ∧ (ownO o = true → (st 0).heap.length ≤ id)))) ∧ Facts (cut (st m).heap.length (glue (st (j + 1)).heap.length Y X)) w' bx (st m).heap[id]? := by
      intro h1 h2 h3 h4
      refine ⟨j + 1, h4, .inr ⟨j, mo, rfl, hset, hmo, h3⟩, ?_⟩
      rw [glue_lt h1] at h
      rw [← hheap id (h3.imp_right fun h => h.1)]
      exact (S.facts h (by rw [hhid]; exact h2)).mono hevoY rfl
    rcases Nat.lt_or_ge id (st (j + 1)).heap.length with h4 | h4
    · rcases Nat.lt_or_ge id (st j).heap.length with h5 | h5
      · have hold : ∃ bx1, X id = some bx1 := by
          have h' := h
          rw [glue_lt h4] at h'
          rcases hback id bx h' with ⟨bx1, e1, _⟩ | ⟨_, _, _, e4⟩
          · exact ⟨bx1, e1⟩
          · omega
        obtain ⟨bx1, hx1⟩ := hold
        by_cases hwr : mo.wr = true
        · by_cases hhd : id ∈ hiddenBy mo.bef (bn j)
          · exact old bx1 hx1 (.inr fun _ => by rw [tau_hid]; exact List.mem_append_left _ hhd) (fun _ _ => .inl hhd)
          · by_cases hob : ownO mo = true ∧ id < (st 0).heap.length
            · refine old bx1 hx1 (.inr fun h6 => ?_) (fun _ _ => .inr hob)
              have := C.T.own_lock C.hcf.ast C.lk C.b0 (i := j) (by rw [C.len]; omega) hob.1
              rw [tau_lock] at h6
              omega
            have hoo : ownO mo = true → (st 0).heap.length ≤ id := fun e => Nat.le_of_not_lt fun hlt => hob ⟨e, hlt⟩
            refine new h4 ?_ (.inr ⟨hwr, hhd, hoo⟩) ⟨by rw [C.len]; omega, h4, fun k ok hk hwk hlt hnh hown => ?_⟩
            · rw [tau_hid, hst.2.1, List.mem_append]
              rintro (h6 | h6)
              · exact hhd h6
              · exact hh h6
            · by_cases hkj : k = j
              · subst hkj; simp [hset]
              · refine (hD k hkj).trans ?_
                have hmem : memOp mo.op = true := by
                  obtain ⟨_, ao, _, _, _, rfl⟩ := C.inv hmo
                  have hwr2 : (memOp ao.op && (bound as (befs ops.toList []) j || ownJ as (befs ops.toList []) j ao)) = true := hwr
                  simp only [Bool.and_eq_true] at hwr2
                  exact hwr2.1
                have := I.order_vis C ho hun hrd hmo hmem hk hwk hkj hlt hnh hown h5 hhd
                constructor
                · intro h6; have := this.1 h6; omega
                · intro h6; exact this.2 (by omega)
        · refine old bx1 hx1 (.inr fun h6 => ?_) (fun _ h6 => absurd h6 hwr)
          have hwf : mo.wr = false := by simpa using hwr
          rw [tau_lock, hwf] at h6
          simp only [lockD, Bool.false_eq_true, if_false] at h6
          omega
      · refine new h4 ?_ (.inl h5) ⟨by rw [C.len]; omega, h4, fun k ok hk hwk hlt hnh hown => ?_⟩
        · rw [tau_hid, hst.2.1, List.mem_append]
          rintro (h6 | h6)
          · have := C.hidden_lt (by omega) h6; omega
          · exact hh h6
        · have hks : k < ops.size := by rw [← C.len]; exact (List.getElem?_eq_some_iff.1 hk).1
          have hkj : j < k := by
            rcases Nat.lt_or_ge j k with h6 | h6
            · exact h6
            · have := C.mono (i := k) (k := j) h6 (by omega); omega
          refine (hD k (by omega)).trans ?_
          constructor
          · intro hdone
            exfalso
            obtain ⟨ok', ao, e1, _, _, e3⟩ := C.inv hk
            have hbit : ok.bef.testBit j = true := by
              cases hb : ok.bef.testBit j with
              | true => rfl
              | false =>
                refine absurd (mem_hidden.2 ⟨j, (st j).heap.length, (st (j + 1)).heap.length, ?_, hb, h5, h4⟩) hnh
                exact (C.T.mem_born C.b0 k (by rw [C.len]; omega) _ _ _).2 ⟨hkj, rfl, rfl, by omega⟩
            rw [e3] at hbit
            have hbit := mark_bit (by have := C.len; simp [marked] at this; omega) hbit
            have := (I.bits C e1 (fun e he hb => I.closed k ok' e e1 hdone he hb) hbit).1
            rw [hun] at this; cases this
          · intro h6; omega
    · have h' := h
      rw [glue_ge h4] at h'
      exact old bx h' (.inl h4) (fun h5 => by omega)
  · exact I.base.evo (cut_evo (Nat.le_refl _) hevo)
  · by_cases hkj : k = j
    · subst hkj
      rw [ho] at hk; injection hk with hk; subst hk
      rw [hd, Mono.slot_put_same (hdst d hd)]
      exact r.evo hevoY
    · rw [Mono.slot_put_ne (C.stt.one j k o x d ho hk (Ne.symm hkj) hd)]
      exact (I.set k x d hk ((hD k hkj).1 hl) hd).evo (cut_evo (Nat.le_refl _) hevo)
  · have hne : o.dst ≠ some t := fun hd => by rw [h j o ho hd] at hset; cases hset
    rw [Mono.slot_put_ne hne]
    refine I.unset t fun k x hk hd => ?_
    have := h k x hk hd
    by_cases hkj : k = j
    · subst hkj; exact hun
    · rwa [Mono.set_getD false (Ne.symm hkj)] at this

theorem DCtx.tau_ok (C : DCtx P w0 callf ops n as st frm val ran bn) (hj : j ≤ ops.size) (mo : AOper) : (∀ t ∈ (tau (st j) (bn j) mo).hid, t < (tau (st j) (bn j) mo).heap.length) ∧ (tau (st j) (bn j) mo).lock ≤ (tau (st j) (bn j) mo).heap.length := by
  have h1 := C.stay (i := j) hj
  have h2 := C.lk
  refine ⟨fun t ht => ?_, ?_⟩
  · rw [tau_hid, List.mem_append] at ht
    rw [tau_len]
    rcases ht with ht | ht
    · exact C.hidden_lt hj ht
    · rw [h1.2.1] at ht
      exact Nat.lt_of_lt_of_le (C.hd t ht) h1.2.2
  · rw [tau_len, tau_lock]
    exact (lockD_le (by omega)).2
theorem ev1_rel {X : Emb} {fr : Fr} {a : Act} {x : Operand} (hf : ∀ t, x = .tmp t → ∀ v, fr.get t = some v → relV X v (a.tmps.getD t undef)) (hc : constOk x = true) {v : Value} (hv : ev fr x = some v) : relV X v (a.eval x) := by
  cases x with
  | tmp t => exact hf t rfl v hv
  | const q => simp only [AM.ev, Option.some.injEq] at hv; subst hv; exact relV_const hc
  | func f => simp only [AM.ev, Option.some.injEq] at hv; subst hv; exact (relV_sc rfl).2 rfl
  | global g => simp [AM.ev] at hv
theorem want_bits {ao : AOper} {b : Nat} {wr : Bool} {fr : Fr} : want { ao with bef := b, wr := wr } fr = want ao fr := rfl
theorem want_real1 {ops : Array Oper} {n : Nat} {o : Oper} {ao : AOper} {X : Emb} {fr : Fr} {a : Act} {b : Bool} (hc : compOper P ops n o = some ao) (hf : ∀ t ∈ o.looksAt ops, ∀ v, fr.get t = some v → relV X v (a.tmps.getD t undef)) (h : want ao fr = some b) : Region.wanted o (yielded ops a.tmps) = b := by
  obtain ⟨_, _, p, _, h2⟩ := compOper_inv hc
  rcases h2 with ⟨hg, rfl⟩ | ⟨g, b', s, hg, hs, hao⟩
  · simp only [want, Option.some.injEq] at h
    simp [Region.wanted, hg, h]
  · exact want_slot hg hs hao (fun v hv => hf s (by simp [Oper.looksAt, hg, hs]) v hv) h

theorem dops_sound {callf : CallF} {r : Option Nat} (hcf : CallOk P w0 AnyY callf) {ops : Array Oper} {n id : Nat} {as : List AOper} (hm : P.follows .mixedOrders = true) (hst : statB ops = true) (hc : compOpers P ops n ops.toList = some as)
    {fr fr' : Fr} {σ σ' : St} (h : dops callf [] 0 (marked as (befs ops.toList [])) fr σ = some (fr', σ')) {X : Emb} {a : Act} {w : World} (G : Good w0 lo n X σ fr a w) {Q : Exit → Act → World → Prop}
    (hQ : ∀ a' w', Post w0 lo n X σ w fr' σ' a' w' → Q .normal a' w') : (Code.region id ops true).wpIn (Mono.fw r) 0 P Q a w := by
  obtain ⟨st, frm, val, ran, bn, rfl, rfl, hb0, e4, e5, T⟩ := dops_trace _ _ _ _ _ _ _ h
  have C : DCtx P w0 callf ops n as st frm val ran bn := ⟨hcf, stat2_of hst, hc, T, hb0, G.lock, G.hid⟩
  have hlen := C.len
  rw [Nat.zero_add, hlen] at e4 e5
  have hz : ∀ k, (Array.replicate ops.size false).getD k false = false := fun k => by
    by_cases hk : k < ops.size <;> simp [hk]
  refine wpIn_region_any hm (drive (Q := Q) C.stt (fun j o ho => by obtain ⟨ao, _, hco, _⟩ := C.get ho; exact compOp_defer (compOper_op hco).1) (I := fun l a1 w1 => ∃ Y, DInv w0 ops as st frm val bn X a w l Y a1 w1) (fun l a w ⟨_, I⟩ => I.lsize) (fun l a1 w1 j o ⟨Y0, I⟩ ho hun hrd => ?_) (fun l a1 w1 ⟨Y0, I⟩ hall => ?_) ops.size _ a _ (by
        unfold Mono.left
        exact Nat.le_trans (List.length_filter_le _ _) (by simp)) ?_)
  · -- a step
    obtain ⟨ao, _, hco, hmo⟩ := C.get ho
    obtain ⟨c1, c2, c3, c4⟩ := compOper_op hco
    have hj : j < ops.size := (Array.getElem?_eq_some_iff.1 ho).1
    have hfr := fun t ht => I.frame C ho hun hrd (t := t) ht
    obtain ⟨z0, _, _, z2, _⟩ := C.T.zero j _ hmo
    have hw := want_real1 (ao := ao) hco hfr z0
    have hdst : ∀ d, o.dst = some d → d < a1.tmps.size := fun d hd => by rw [I.size]; exact Nat.lt_of_lt_of_le (c4 d hd) G.size
    rw [hw]
    have S := I.sim_tau C ho hun hrd hmo
    cases hr : ran j with
    | true =>
      simp only [if_true]
      obtain ⟨τ', t1, t2, t3, t4⟩ := C.tau_run hmo hr
      obtain ⟨hlt, hlk⟩ := C.tau_ok (j := j) (by omega) (markOf as (befs ops.toList []) j ao)
      have hrun := aop_runs (P := P) (a := a1) (o := o) hcf trivial c1 S hlt hlk (fun x hx v hv => ev1_rel (fun t e v' hv' => hfr t (by
        subst e
        exact List.mem_append_left _ (List.mem_filterMap.2 ⟨.tmp t, hx, rfl⟩)) v' hv') (c3 x hx) hv) t1
      exact Mono.gives_mono (fun u w' ⟨Y, r1, r2, r3⟩ => ⟨_, I.next C ho hun hrd hmo hdst t2 t3 t4 r1 r2 r3⟩) hrun
    | false =>
      obtain ⟨z3, z4⟩ := z2 hr
      simp only [Bool.false_eq_true, if_false]
      refine ⟨_, I.next C ho hun hrd hmo hdst (by rw [tau_len, z4]) rfl (fun id hid => ?_) (by rw [z3]; exact relV_undefv) S (Stp.refl _ _ _)⟩
      rw [z4]
      by_cases hmem : memOp ao.op = true
      · unfold tau; rw [if_pos (show memOp (markOf as (befs ops.toList []) j ao).op = true from hmem)]; rfl
      · have hlow : (st j).heap.length ≤ id := by
          rcases hid with h1 | h1
          · exact h1
          · have h2 : (memOp ao.op && (bound as (befs ops.toList []) j || ownJ as (befs ops.toList []) j ao)) = true := h1
            simp only [Bool.and_eq_true] at h2
            exact absurd h2.1 hmem
        rw [List.getElem?_eq_none (by rw [tau_len]; exact hlow), List.getElem?_eq_none hlow]
  · -- the end
    have hstay := C.stay (i := ops.size) (Nat.le_refl _)
    have hdom : ∀ id bx, Y0 id = some bx → id < (st ops.size).heap.length := fun id bx h => by
      rcases I.birth id bx h with h1 | ⟨i, h1, _, _, h4⟩
      · exact Nat.lt_of_lt_of_le h1 hstay.2.2
      · exact Nat.lt_of_lt_of_le h4 (C.mono h1 (Nat.le_refl _))
    have hlk := C.lk
    rw [← e4, ← e5] at hQ
    refine hQ a1 w1 ⟨Y0, ⟨⟨I.bel, hdom, I.place, fun id bx g pl cs h hh hb => ?_, I.inj, fun id bx h hl => I.lock id bx h (by rw [← hstay.1]; exact hl), I.zero⟩, fun t v hv => ?_, by rw [I.size]; exact G.size, (by rw [I.defers]; exact G.defers.step I.stp), fun t ht => ?_, by rw [hstay.1]; omega⟩, I.stp⟩
    · rw [hstay.2.1] at hh
      obtain ⟨m, hcon, _, hf⟩ := I.cell id bx h hh
      have hcon' : Con (marks as ops) st bn (fun k => l.getD k false = true) id ops.size := ⟨by rw [hlen]; exact Nat.le_refl _, hdom id bx h, fun k ok hk _ _ _ _ => by
        have hks : k < ops.size := by rw [← hlen]; exact (List.getElem?_eq_some_iff.1 hk).1
        exact ⟨fun _ => hks, fun _ => hall k hks⟩⟩
      rw [hcon.same C.hcf.ast C.T C.lk C.b0 hcon'] at hf
      exact hf.mono cut_all rfl g pl cs hb
    · have hdst : ∀ (k : Nat) (m : AOper), (marks as ops)[k]? = some m → ∃ o', ops[k]? = some o' ∧ m.dst = o'.dst := fun k m hk => by
        obtain ⟨o', ao, e1, _, e3, rfl⟩ := C.inv hk
        exact ⟨o', e1, (compOper_op e3).2.1⟩
      by_cases hw : ∃ (k : Nat) (o' : Oper), ops[k]? = some o' ∧ o'.dst = some t
      · obtain ⟨k, o', hk, hd⟩ := hw
        have hkl : k < ops.size := (Array.getElem?_eq_some_iff.1 hk).1
        obtain ⟨ao, _, e2, e3⟩ := C.get hk
        rw [C.T.get_at e3 (t := t) (by rw [← hd]; exact (compOper_op e2).2.1) (fun i m hi hne => by
          obtain ⟨x, f1, f2⟩ := hdst i m hi
          rw [f2]; exact C.stt.one i k x o' t f1 hk hne hd) ops.size hkl (by rw [hlen]; exact Nat.le_refl _)] at hv
        cases hv
        exact (I.set k o' t hk (hall k hkl) hd).evo cut_all
      · rw [C.T.get_not ops.size (by rw [hlen]; exact Nat.le_refl _) (fun k m _ hm hd => by
          obtain ⟨o', f1, f2⟩ := hdst k m hm
          exact hw ⟨k, o', f1, by rw [← f2]; exact hd⟩)] at hv
        have h1 := (I.base t v hv).evo (cut_all (X := Y0))
        have h2 := I.unset t fun k x hk hd => absurd ⟨k, x, hk, hd⟩ hw
        show relV _ v (Mono.slot a1 t)
        rw [h2]; exact h1
    · rw [hstay.2.1] at ht
      exact Nat.lt_of_lt_of_le (C.hd t ht) hstay.2.2
  · -- the start
    have S := G.sim
    refine ⟨X, by simp, fun k o e _ hk => ?_, rfl, rfl, ⟨S.bel.os, S.bel.tape, S.bel.output, S.bel.size, S.bel.block⟩, ?_, S.place, S.inj, S.lock, S.zero, fun id bx h => .inl (S.dom id bx h), fun id bx h hh => ⟨0, ⟨Nat.zero_le _, S.dom id bx h, fun k ok _ _ _ _ _ => ?_⟩, .inl rfl, ?_⟩, fun t v hv => ?_, fun k o d _ hk => ?_, fun _ _ => rfl⟩
    · rw [hz] at hk; cases hk
    · exact ⟨Nat.le_refl _, rfl, rfl, rfl, fun _ _ _ => rfl, Evo.refl X, fun id bx bx' h h' => (by rw [h] at h'; cases h'; exact .inl rfl), fun id bx' h => .inl ⟨bx', h, rfl, .inl rfl⟩⟩
    · simp only [hz]; simp
    · refine (S.facts h hh).mono (Evo.mk' rfl fun id bx h => ⟨bx, cut_some.2 ⟨S.dom id bx h, h⟩, .inl rfl⟩) rfl
    · exact (G.fr t v hv).evo <| Evo.mk' rfl fun id bx h => ⟨bx, cut_some.2 ⟨S.dom id bx h, h⟩, .inl rfl⟩
    · rw [hz] at hk; cases hk
end
end AM
end Go.Proofs.Ytpjjkmfidghkjaa
end
section
set_option linter.all false
namespace Go.Proofs.Ytpjjkmfidghkjaa
namespace AM
open Go Go.RowKit

/-! ### One operation -/
theorem Sim.dirty' {w0 : World} {X : Emb} {σ : St} {w : World} (S : Sim w0 X σ w) (d : List Nat) : Sim w0 X { σ with dirty := d } w := ⟨S.bel, S.dom, S.place, S.cell, S.inj, S.lock, S.zero⟩
theorem blk_local {σ τ : St} {a : Addr} (h1 : τ.hid = σ.hid) (h2 : τ.heap[a.block]? = σ.heap[a.block]?) : τ.blk a = σ.blk a := by
  unfold St.blk; rw [h1, h2]
theorem write_local {σ σ' : St} {a : Addr} {vs : List Value} (h : σ.write a vs = some σ') : σ'.lock = σ.lock ∧ σ'.hid = σ.hid ∧ σ'.heap.length = σ.heap.length ∧ (∀ id, id ≠ a.block → σ'.heap[id]? = σ.heap[id]?) ∧
    ∀ τ : St, τ.lock = σ.lock → τ.hid = σ.hid → τ.heap[a.block]? = σ.heap[a.block]? → ∃ τ', τ.write a vs = some τ' ∧ τ'.heap[a.block]? = σ'.heap[a.block]? := by
  unfold St.write at h
  split at h
  · cases h
  · rename_i hl
    simp only [Option.bind_eq_some_iff] at h
    obtain ⟨⟨pl, cs⟩, hb, h⟩ := h
    split at h
    · rename_i hc
      split at h
      · rename_i g p2 c2 hg
        cases h
        refine ⟨rfl, rfl, by simp, fun id hne => ?_, fun τ t1 t2 t3 => ?_⟩
        · simp only []
          rw [List.getElem?_set, if_neg (fun e => hne e.symm)]
        · unfold St.write
          rw [t1, if_neg hl, blk_local t2 t3, hb]
          simp only [Option.bind_some]
          rw [if_pos hc, t3, hg]
          refine ⟨_, rfl, ?_⟩
          have l1 : a.block < σ.heap.length := (List.getElem?_eq_some_iff.1 hg).1
          have l2 : a.block < τ.heap.length := (List.getElem?_eq_some_iff.1 (t3.trans hg)).1
          simp only []
          rw [List.getElem?_set_self l1, List.getElem?_set_self l2]
      · cases h
    · cases h
theorem pure_local {o : AOp} (hp : freeOp o = true) (fr : Fr) : ∀ τ : St, aop noCall o fr τ = (pval o fr).map fun v => (v, τ) := fun τ => by
  cases o <;> first
    | rfl
    | (simp [freeOp] at hp; done)
theorem tgt_free {o : AOp} {fr : Fr} {tg : List (Bool × Nat)} (ht : tgt fr o = some tg) : (freeOp o = true ∧ tg = []) ∨ (∃ n x, o = .load n x) ∨ ∃ n x y, o = .store n x y := by
  cases o <;> first
    | exact .inr (.inl ⟨_, _, rfl⟩)
    | exact .inr (.inr ⟨_, _, _, rfl⟩)
    | (simp only [tgt] at ht
       split at ht
       · rename_i hf
         simp only [Option.some.injEq] at ht
         exact .inl ⟨hf, ht.symm⟩
       · cases ht)
theorem tgt_local {o : AOp} {fr : Fr} {σ σ' : St} {v : Value} {tg : List (Bool × Nat)} (ht : tgt fr o = some tg) (h : aop noCall o fr σ = some (v, σ')) :
    σ'.lock = σ.lock ∧ σ'.hid = σ.hid ∧ σ'.heap.length = σ.heap.length ∧ (∀ id, (true, id) ∉ tg → σ'.heap[id]? = σ.heap[id]?) ∧
    ∀ τ : St, τ.lock = σ.lock → τ.hid = σ.hid → (∀ p ∈ tg, τ.heap[p.2]? = σ.heap[p.2]?) → ∃ τ', aop noCall o fr τ = some (v, τ') ∧ ∀ id, (true, id) ∈ tg → τ'.heap[id]? = σ'.heap[id]? := by
  rcases tgt_free ht with ⟨hf, rfl⟩ | ⟨n, x, rfl⟩ | ⟨n, x, y, rfl⟩
  · have hp := pure_local hf fr
    rw [hp, Option.map_eq_some_iff] at h
    obtain ⟨u, hu, h⟩ := h
    cases h
    exact ⟨rfl, rfl, rfl, fun _ _ => rfl, fun τ _ _ _ => ⟨τ, by rw [hp, hu]; rfl, fun id hid => by cases hid⟩⟩
  · simp only [tgt] at ht
    split at ht
    · rename_i a ha
      cases ht
      simp only [aop, ha, Option.bind_eq_some_iff, Option.map_eq_some_iff] at h ⊢
      obtain ⟨⟨pl, cs⟩, hb, u, hu, h⟩ := h
      cases h
      refine ⟨rfl, rfl, rfl, fun _ _ => rfl, fun τ t1 t2 t3 => ⟨τ, ⟨_, by rw [blk_local t2 (t3 (false, a.block) (by simp))]; exact hb, _, hu, rfl⟩, fun id hid => ?_⟩⟩
      simp at hid
    · cases ht
  · simp only [tgt] at ht
    split at ht
    · rename_i a ha
      cases ht
      simp only [aop, ha, Option.bind_eq_some_iff] at h ⊢
      obtain ⟨u, hu, h⟩ := h
      split at h
      · rename_i hn
        simp only [Option.map_eq_some_iff] at h
        obtain ⟨σ1, hw, h⟩ := h
        cases h
        obtain ⟨w1, w2, w3, w4, w5⟩ := write_local hw
        refine ⟨w1, w2, w3, fun id hid => w4 id fun e => hid (by simp [e]), fun τ t1 t2 t3 => ?_⟩
        obtain ⟨τ', k1, k2⟩ := w5 τ t1 t2 (t3 (true, a.block) (by simp))
        refine ⟨τ', ⟨u, hu, by rw [if_pos hn, k1]; rfl⟩, fun id hid => ?_⟩
        simp at hid
        subst hid
        exact k2
      · cases h
    · cases ht

/-! ### The run in the text's order, as functions of the place -/
structure MTr (callf : CallF) (m : Bool) (B : List Nat) (l : List AOper) (seen : List (Bool × Nat)) (st : Nat → St) (frm : Nat → Fr) (val : Nat → Value) (tg : Nat → List (Bool × Nat)) (ran : Nat → Bool) : Prop where
  want : ∀ (i : Nat) (o : AOper), l[i]? = some o → AM.want o (frm i) = some (ran i)
  free : ∀ (i : Nat) (o : AOper), l[i]? = some o → ran i = true → o.wr = false → AM.tgt (frm i) o.op = some (tg i) ∧ (m = true → ∀ p ∈ tg i, p.2 ∈ B) ∧ aop noCall o.op (frm i) (st i) = some (val i, st (i + 1))
  does : ∀ (i : Nat) (o : AOper), l[i]? = some o → ran i = true → o.wr = true → m = true ∧ ∃ s', aop callf o.op (frm i) { st i with hid := B ++ (st i).hid } = some (val i, s') ∧ st (i + 1) = { s' with hid := (st i).hid }
  skip : ∀ (i : Nat) (o : AOper), l[i]? = some o → ran i = false → val i = undefv ∧ st (i + 1) = st i
  none_ : ∀ (i : Nat) (o : AOper), l[i]? = some o → ran i = false ∨ o.wr = true → tg i = []
  frame : ∀ (i : Nat) (o : AOper), l[i]? = some o → frm (i + 1) = (frm i).put o.dst (val i)
  seen : ∀ (i : Nat), i < l.length → ∀ p ∈ tg i, ∀ q ∈ seen, p.1 = true ∨ q.1 = true → p.2 ≠ q.2
  apart : ∀ (i k : Nat), i < l.length → k < i → ∀ p ∈ tg i, ∀ q ∈ tg k, p.1 = true ∨ q.1 = true → p.2 ≠ q.2
def consF {α : Type} (x : α) (f : Nat → α) : Nat → α
  | 0 => x
  | i + 1 => f i
theorem apart_ne {tg seen : List (Bool × Nat)} (h : apart tg seen = true) : ∀ p ∈ tg, ∀ q ∈ seen, p.1 = true ∨ q.1 = true → p.2 ≠ q.2 := fun p hp q hq hpq => by
  unfold AM.apart at h
  rw [List.all_eq_true] at h
  have h1 := h p hp
  rw [List.all_eq_true] at h1
  have h2 := h1 q hq
  simp only [Bool.or_eq_true, Bool.and_eq_true, Bool.not_eq_true', bne_iff_ne] at h2
  rcases h2 with ⟨h3, h4⟩ | h2
  · rcases hpq with e | e <;> simp_all
  · exact h2
theorem MTr.cons {callf : CallF} {m : Bool} {B : List Nat} {o : AOper} {l : List AOper} {seen : List (Bool × Nat)} {st : Nat → St} {frm : Nat → Fr} {val : Nat → Value} {tg : Nat → List (Bool × Nat)} {ran : Nat → Bool} {fr : Fr} {σ : St} {v : Value} {b : Bool} {tg0 : List (Bool × Nat)}
    (T : MTr callf m B l (tg0 ++ seen) st frm val tg ran) (hw : AM.want o fr = some b)
    (hf : b = true → o.wr = false → AM.tgt fr o.op = some tg0 ∧ (m = true → ∀ p ∈ tg0, p.2 ∈ B) ∧ aop noCall o.op fr σ = some (v, st 0))
    (hd : b = true → o.wr = true → m = true ∧ ∃ s', aop callf o.op fr { σ with hid := B ++ σ.hid } = some (v, s') ∧ st 0 = { s' with hid := σ.hid })
    (hs : b = false → v = undefv ∧ st 0 = σ) (hn : b = false ∨ o.wr = true → tg0 = []) (he : frm 0 = fr.put o.dst v)
    (ha : ∀ p ∈ tg0, ∀ q ∈ seen, p.1 = true ∨ q.1 = true → p.2 ≠ q.2) : MTr callf m B (o :: l) seen (consF σ st) (consF fr frm) (consF v val) (consF tg0 tg) (consF b ran) where
  want := fun i o' ho => by
    cases i with
    | zero => simp at ho; subst ho; exact hw
    | succ i => exact T.want i o' (by simpa using ho)
  free := fun i o' ho => by
    cases i with
    | zero => simp at ho; subst ho; exact hf
    | succ i => exact T.free i o' (by simpa using ho)
  does := fun i o' ho => by
    cases i with
    | zero => simp at ho; subst ho; exact hd
    | succ i => exact T.does i o' (by simpa using ho)
  skip := fun i o' ho => by
    cases i with
    | zero => simp at ho; subst ho; exact hs
    | succ i => exact T.skip i o' (by simpa using ho)
  none_ := fun i o' ho => by
    cases i with
    | zero => simp at ho; subst ho; exact hn
    | succ i => exact T.none_ i o' (by simpa using ho)
  frame := fun i o' ho => by
    cases i with
    | zero => simp at ho; subst ho; exact he
    | succ i => exact T.frame i o' (by simpa using ho)
  seen := fun i hi p hp q hq => by
    cases i with
    | zero => exact ha p hp q hq
    | succ i => exact T.seen i (by simpa using hi) p hp q (List.mem_append_right _ hq)
  apart := fun i k hi hk p hp q hq => by
    cases i with
    | zero => omega
    | succ i =>
      cases k with
      | zero => exact T.seen i (by simpa using hi) p hp q (List.mem_append_left _ hq)
      | succ k => exact T.apart i k (by simpa using hi) (by omega) p hp q hq
theorem mops_trace {callf : CallF} {m : Bool} {B : List Nat} : ∀ (l : List AOper) (seen : List (Bool × Nat)) (fr : Fr) (σ : St) (fr' : Fr) (σ' : St), mops callf m B seen l fr σ = some (fr', σ') →
    ∃ (st : Nat → St) (frm : Nat → Fr) (val : Nat → Value) (tg : Nat → List (Bool × Nat)) (ran : Nat → Bool), st 0 = σ ∧ frm 0 = fr ∧ st l.length = σ' ∧ frm l.length = fr' ∧ MTr callf m B l seen st frm val tg ran
  | [], seen, fr, σ, fr', σ', h => by
    simp only [mops, Option.some.injEq, Prod.mk.injEq] at h
    refine ⟨fun _ => σ, fun _ => fr, fun _ => undefv, fun _ => [], fun _ => true, rfl, rfl, h.2, h.1, ⟨?_, ?_, ?_, ?_, ?_, ?_, ?_, ?_⟩⟩
    all_goals (first | (intro i o ho; simp at ho; done) | (intro i hi; simp at hi; done) | (intro i k hi; simp at hi; done))
  | o :: l, seen, fr, σ, fr', σ', h => by
    simp only [mops, Option.bind_eq_some_iff] at h
    obtain ⟨b, hw, h⟩ := h
    cases b with
    | false =>
      simp only [Bool.false_eq_true, if_false] at h
      obtain ⟨st, frm, val, tg, ran, e1, e2, e3, e4, T⟩ := mops_trace l _ _ _ _ _ h
      exact ⟨_, _, _, _, _, rfl, rfl, e3, e4, MTr.cons (tg0 := []) (v := undefv) T hw (fun h => by cases h) (fun h => by cases h) (fun _ => ⟨rfl, e1⟩) (fun _ => rfl) e2 (fun p hp => by cases hp)⟩
    | true =>
      simp only [if_true] at h
      split at h
      · rename_i hwr
        split at h
        · rename_i hm
          simp only [Option.bind_eq_some_iff] at h
          obtain ⟨⟨v, σ1⟩, h1, h2⟩ := h
          obtain ⟨st, frm, val, tg, ran, e1, e2, e3, e4, T⟩ := mops_trace l _ _ _ _ _ h2
          exact ⟨_, _, _, _, _, rfl, rfl, e3, e4, MTr.cons (tg0 := []) (v := v) T hw (fun _ h => by rw [hwr] at h; cases h) (fun _ _ => ⟨hm, _, h1, e1⟩) (fun h => by cases h) (fun _ => rfl) e2 (fun p hp => by cases hp)⟩
        · cases h
      · rename_i hwr
        simp only [Option.bind_eq_some_iff] at h
        obtain ⟨tg0, ht, h⟩ := h
        split at h
        · rename_i ha
          simp only [Option.bind_eq_some_iff] at h
          obtain ⟨⟨v, σ1⟩, h1, h2⟩ := h
          obtain ⟨st, frm, val, tg, ran, e1, e2, e3, e4, T⟩ := mops_trace l _ _ _ _ _ h2
          simp only [Bool.and_eq_true, Bool.or_eq_true, Bool.not_eq_true', List.all_eq_true] at ha
          refine ⟨_, _, _, _, _, rfl, rfl, e3, e4, MTr.cons (tg0 := tg0) (v := v) T hw (fun _ _ => ⟨ht, fun hm p hp => ?_, by rw [e1]; exact h1⟩) (fun _ h => absurd h hwr) (fun h => by cases h) (fun h => ?_) e2 (apart_ne ha.1)⟩
          · rcases ha.2 with h3 | h3
            · rw [hm] at h3; cases h3
            · simpa using h3 p hp
          · rcases h with h | h
            · cases h
            · exact absurd h hwr
        · cases h

section
variable {callf : CallF} {m : Bool} {B : List Nat} {l : List AOper} {seen : List (Bool × Nat)} {st : Nat → St} {frm : Nat → Fr} {val : Nat → Value} {tg : Nat → List (Bool × Nat)} {ran : Nat → Bool}
/-- A block that only free operations can write. -/
def InB (m : Bool) (B : List Nat) (id : Nat) : Prop := m = true → id ∈ B
theorem MTr.step (hcf : CallAst callf) (T : MTr callf m B l seen st frm val tg ran) {i : Nat} {o : AOper} (ho : l[i]? = some o) (hl : (st i).lock ≤ (st i).heap.length) :
    (st (i + 1)).lock = (st i).lock ∧ (st (i + 1)).hid = (st i).hid ∧ (st i).heap.length ≤ (st (i + 1)).heap.length ∧ (o.wr = false → (st (i + 1)).heap.length = (st i).heap.length) ∧
    (∀ id, id < (st i).heap.length → InB m B id → (true, id) ∉ tg i → (st (i + 1)).heap[id]? = (st i).heap[id]?) ∧ (o.wr = false → ∀ id, (true, id) ∉ tg i → (st (i + 1)).heap[id]? = (st i).heap[id]?) ∧ (m = false → (st (i + 1)).heap.length = (st i).heap.length) := by
  cases hr : ran i with
  | false =>
    rw [(T.skip i o ho hr).2]
    exact ⟨rfl, rfl, Nat.le_refl _, fun _ => rfl, fun _ _ _ _ => rfl, fun _ _ _ => rfl, fun _ => rfl⟩
  | true =>
    cases hw : o.wr with
    | false =>
      obtain ⟨h1, h2, h3⟩ := T.free i o ho hr hw
      obtain ⟨k1, k2, k3, k4, _⟩ := tgt_local h1 h3
      exact ⟨k1, k2, by omega, fun _ => k3, fun id _ _ hid => k4 id hid, fun _ id hid => k4 id hid, fun _ => k3⟩
    | true =>
      obtain ⟨hm, s', h1, h2⟩ := T.does i o ho hr hw
      have a := aop_ast hcf (σ := { st i with hid := B ++ (st i).hid }) hl h1
      rw [h2]
      refine ⟨a.lock, rfl, a.len, fun h => (by cases h), fun id hlt hib _ => a.fix id hlt (.inr ?_), fun h => (by cases h), fun h => (by rw [hm] at h; cases h)⟩
      exact List.mem_append_left _ (hib hm)
theorem MTr.loc (hcf : CallAst callf) (T : MTr callf m B l seen st frm val tg ran) (hl : (st 0).lock ≤ (st 0).heap.length) : ∀ i, i ≤ l.length → (st i).lock = (st 0).lock ∧ (st i).hid = (st 0).hid ∧ (st 0).heap.length ≤ (st i).heap.length ∧ (m = false → (st i).heap.length = (st 0).heap.length)
  | 0, _ => ⟨rfl, rfl, Nat.le_refl _, fun _ => rfl⟩
  | i + 1, hi => by
    have ho : l[i]? = some (l[i]'(by omega)) := List.getElem?_eq_getElem _
    obtain ⟨h1, h2, h3, h4⟩ := MTr.loc hcf T hl i (by omega)
    obtain ⟨k1, k2, k3, _, _, _, k4⟩ := T.step hcf ho (by omega)
    exact ⟨k1.trans h1, k2.trans h2, by omega, fun hm => (k4 hm).trans (h4 hm)⟩
theorem MTr.keep (hcf : CallAst callf) (T : MTr callf m B l seen st frm val tg ran) (hl : (st 0).lock ≤ (st 0).heap.length) {id : Nat} (hib : InB m B id) (hlt : id < (st 0).heap.length) : ∀ i, i ≤ l.length → (∀ k, k < i → (true, id) ∉ tg k) → (st i).heap[id]? = (st 0).heap[id]?
  | 0, _, _ => rfl
  | i + 1, hi, h => by
    have ho : l[i]? = some (l[i]'(by omega)) := List.getElem?_eq_getElem _
    obtain ⟨h1, h2, h3, _⟩ := T.loc hcf hl i (by omega)
    obtain ⟨_, _, _, _, k5, _⟩ := T.step hcf ho (by omega)
    rw [k5 id (by omega) hib (h i (by omega)), MTr.keep hcf T hl hib hlt i (by omega) fun k hk => h k (by omega)]
theorem MTr.done (hcf : CallAst callf) (T : MTr callf m B l seen st frm val tg ran) (hl : (st 0).lock ≤ (st 0).heap.length) {id k : Nat} (hib : InB m B id) (hlt : id < (st 0).heap.length) (hm : (true, id) ∈ tg k) : ∀ i, k < i → i ≤ l.length → (st i).heap[id]? = (st (k + 1)).heap[id]?
  | 0, h, _ => by omega
  | i + 1, hk, hi => by
    by_cases e : i = k
    · subst e; rfl
    · have ho : l[i]? = some (l[i]'(by omega)) := List.getElem?_eq_getElem _
      obtain ⟨h1, h2, h3, _⟩ := T.loc hcf hl i (by omega)
      obtain ⟨_, _, _, _, k5, _⟩ := T.step hcf ho (by omega)
      rw [k5 id (by omega) hib (fun hi2 => T.apart i k (by omega) (by omega) _ hi2 _ hm (.inl rfl) rfl), MTr.done hcf T hl hib hlt hm i (by omega) (by omega)]
/-- Between two places without others than free operations. -/
theorem MTr.calm (hcf : CallAst callf) (T : MTr callf m B l seen st frm val tg ran) (hl : (st 0).lock ≤ (st 0).heap.length) {p : Nat} : ∀ d, p + d ≤ l.length → (∀ k o, p ≤ k → k < p + d → l[k]? = some o → o.wr = false) → (st (p + d)).heap.length = (st p).heap.length ∧ ∀ id, ¬ InB m B id → (st (p + d)).heap[id]? = (st p).heap[id]?
  | 0, _, _ => ⟨rfl, fun _ _ => rfl⟩
  | d + 1, hi, h => by
    have ho : l[p + d]? = some (l[p + d]'(by omega)) := List.getElem?_eq_getElem _
    obtain ⟨h1, h2⟩ := MTr.calm hcf T hl d (by omega) fun k o h1 h2 => h k o h1 (by omega)
    obtain ⟨l1, l2, l3, _⟩ := T.loc hcf hl (p + d) (by omega)
    have hw := h (p + d) _ (by omega) (by omega) ho
    obtain ⟨_, _, _, k4, _, k6, _⟩ := T.step hcf ho (by omega)
    refine ⟨(k4 hw).trans h1, fun id hid => ?_⟩
    rw [show p + (d + 1) = p + d + 1 by omega, k6 hw id (fun hm2 => hid fun hm => ?_), h2 id hid]
    cases hr : ran (p + d) with
    | false => rw [T.none_ _ _ ho (.inl hr)] at hm2; cases hm2
    | true => exact (T.free _ _ ho hr hw).2.1 hm _ hm2
theorem MTr.get_not (T : MTr callf m B l seen st frm val tg ran) {t : Nat} : ∀ j, j ≤ l.length → (∀ k o, k < j → l[k]? = some o → o.dst ≠ some t) → (frm j).get t = (frm 0).get t
  | 0, _, _ => rfl
  | j + 1, hj, h => by
    have ho : l[j]? = some (l[j]'(by omega)) := List.getElem?_eq_getElem _
    rw [T.frame j _ ho, ← MTr.get_not T j (by omega) fun k o hk => h k o (by omega)]
    have hne := h j _ (by omega) ho
    unfold Fr.put
    split
    · rename_i d hd
      have : ¬ d = t := fun e => hne (by rw [hd, e])
      simp [Fr.get, this]
    · rfl
theorem MTr.get_at (T : MTr callf m B l seen st frm val tg ran) {t k : Nat} {o : AOper} (hk : l[k]? = some o) (hd : o.dst = some t) (hu : ∀ i o', l[i]? = some o' → i ≠ k → o'.dst ≠ some t) : ∀ j, k < j → j ≤ l.length → (frm j).get t = some (val k)
  | 0, h, _ => by omega
  | j + 1, hkj, hj => by
    have ho : l[j]? = some (l[j]'(by omega)) := List.getElem?_eq_getElem _
    rw [T.frame j _ ho]
    by_cases hjk : j = k
    · subst hjk
      rw [ho] at hk
      cases hk
      rw [hd]
      simp [Fr.put, Fr.get]
    · rw [← MTr.get_at T hk hd hu j (by omega) (by omega)]
      have hne := hu j _ ho hjk
      unfold Fr.put
      split
      · rename_i d hd'
        have : ¬ d = t := fun e => hne (by rw [hd', e])
        simp [Fr.get, this]
      · rfl
end

/-! ### Any order -/
section
variable {P : Program} {w0 : World} {lo : Nat}
theorem noCall_ok : CallOk P w0 AnyY noCall := ⟨noCall_ast, anyY_stable, fun g args σ v σ' h => by simp [noCall] at h⟩
theorem boxes_lt {n : Nat} {X : Emb} {σ : St} {fr : Fr} {a : Act} {w : World} (G : Good w0 lo n X σ fr a w) : ∀ {xs B : List Nat}, boxes fr xs = some B → ∀ id ∈ B, id < σ.heap.length
  | [], B, h, id, hid => by simp only [boxes, Option.some.injEq] at h; subst h; cases hid
  | x :: xs, B, h, id, hid => by
    simp only [boxes] at h
    split at h
    · rename_i p hp
      simp only [Option.map_eq_some_iff] at h
      obtain ⟨B', hB', rfl⟩ := h
      rcases List.mem_cons.1 hid with rfl | h1
      · obtain ⟨ra, _, hra⟩ := relV_ptr (G.fr x _ hp)
        obtain ⟨bx, hbx, _⟩ := hra
        exact G.sim.dom _ bx hbx
      · exact boxes_lt G hB' id h1
    · rename_i p n e hp
      simp only [Option.map_eq_some_iff] at h
      obtain ⟨B', hB', rfl⟩ := h
      rcases List.mem_cons.1 hid with rfl | h1
      · obtain ⟨ra, c, _, _, _, bx, hbx, _⟩ := (G.fr x _ hp : relV X (.slice (some p) n e) _)
        exact G.sim.dom _ bx hbx
      · exact boxes_lt G hB' id h1
    · cases h
theorem mixMark_get {as : List AOper} {j : Nat} {ao : AOper} (h : as[j]? = some ao) : (mixMark as)[j]? = some { ao with bef := 0, wr := isM as ao } := by simp [mixMark, h]
theorem boundM_of {as : List AOper} {bs : List Nat} (h : mixB as bs = true) {i j : Nat} {a b : AOper} (hi : as[i]? = some a) (hj : as[j]? = some b) (hij : i ≠ j) (ha : isM as a = true) (hb : isM as b = true) : (bs.getD j 0).testBit i = true ∨ (bs.getD i 0).testBit j = true := by
  unfold mixB at h
  rw [Bool.and_eq_true] at h
  have h := h.2
  unfold boundM at h
  rw [List.all_eq_true] at h
  have h := h i (List.mem_range.2 (List.getElem?_eq_some_iff.1 hi).1)
  rw [List.all_eq_true] at h
  have h := h j (List.mem_range.2 (List.getElem?_eq_some_iff.1 hj).1)
  have hn : (i == j) = false := by simpa using hij
  rw [hn, hi, hj] at h
  simpa [ha, hb] using h
/-- A world stands for every state that is alike where it can be seen. -/
theorem Sim.agree {X : Emb} {σ τ : St} {w : World} (S : Sim w0 X σ w) (hl : τ.lock = σ.lock) (hlen : σ.heap.length = τ.heap.length) (hc : ∀ id, id ∉ τ.hid → id ∉ σ.hid ∧ τ.heap[id]? = σ.heap[id]?) : Sim w0 X τ w :=
  ⟨S.bel, fun id bx h => by rw [← hlen]; exact S.dom id bx h, S.place, fun id bx g pl cs h hh hb => by
    obtain ⟨h1, h2⟩ := hc id hh
    exact S.cell id bx g pl cs h h1 (by rw [← h2]; exact hb), S.inj, fun id bx h hk => S.lock id bx h (by rw [← hl]; exact hk), S.zero⟩
theorem Stp.wide {X Y : Emb} {σ τ : St} {w w' : World} (s : Stp X σ w Y w') (hl : τ.lock = σ.lock) (hlen : τ.heap.length = σ.heap.length) (hh : ∀ id, id ∈ τ.hid → id ∈ σ.hid) : Stp X τ w Y w' where
  size := s.size
  os := s.os
  tape := s.tape
  output := s.output
  frame := fun k hk h => s.frame k hk fun id bx hx h1 h2 ho => h id bx hx (by rw [hl]; exact h1) (fun h3 => h2 (hh id h3)) ho
  evo := s.evo
  same := fun id bx bx' h h' => by
    rcases s.same id bx bx' h h' with h1 | ⟨h1, h2⟩
    · exact .inl h1
    · exact .inr ⟨by rw [hl]; exact h1, fun h3 => h2 (hh id h3)⟩
  back := fun id bx' h => by
    rcases s.back id bx' h with h1 | ⟨h1, h2, h3, h4⟩
    · exact .inl h1
    · exact .inr ⟨h1, h2, h3, by rw [hlen]; exact h4⟩
/-- One list of blocks in the places B, another elsewhere. -/
def mixH (B : List Nat) (a b : List Blk) : List Blk := b.mapIdx fun i x => if B.contains i then a.getD i x else x
theorem mixH_length (B : List Nat) (a b : List Blk) : (mixH B a b).length = b.length := by simp [mixH]
theorem mixH_in {B : List Nat} {a b : List Blk} {i : Nat} (h : i ∈ B) (ha : i < a.length) (hb : i < b.length) : (mixH B a b)[i]? = a[i]? := by
  have hc : B.contains i = true := by simpa using h
  unfold mixH
  rw [List.getElem?_mapIdx, List.getElem?_eq_getElem hb, Option.map_some, hc, if_pos rfl, List.getD_eq_getElem?_getD, List.getElem?_eq_getElem ha]
  rfl
theorem mixH_out {B : List Nat} {a b : List Blk} {i : Nat} (h : i ∉ B) : (mixH B a b)[i]? = b[i]? := by
  have hc : B.contains i = false := by simpa using h
  unfold mixH
  rw [List.getElem?_mapIdx, hc]
  simp

structure MInv (w0 : World) (m : Bool) (B : List Nat) (ops : Array Oper) (as : List AOper) (st : Nat → St) (frm : Nat → Fr) (val : Nat → Value) (tg : Nat → List (Bool × Nat)) (X0 : Emb) (a0 : Act) (wS : World) (l : Array Bool) (Y : Emb) (a : Act) (w : World) (τ : St) (p : Nat) : Prop where
  lsize : l.size = ops.size
  closed : ∀ (k : Nat) (o : Oper) (e : Edge), ops[k]? = some o → l.getD k false = true → e ∈ o.after → Region.binds .any e = true → l.getD e.on false = true
  size : a.tmps.size = a0.tmps.size
  defers : a.defers = a0.defers
  stp : Stp X0 (st 0) wS Y w
  lock : τ.lock = (st 0).lock
  hid : τ.hid = (st 0).hid
  sim : Sim w0 Y τ w
  ple : p ≤ ops.size
  pos : ∀ (k : Nat) (o : AOper), as[k]? = some o → isM as o = true → (l.getD k false = true ↔ k < p)
  len : τ.heap.length = (st p).heap.length
  agree : ∀ id, ¬ InB m B id → τ.heap[id]? = (st p).heap[id]?
  keep : ∀ id, InB m B id → id < (st 0).heap.length → (∀ k, k < ops.size → l.getD k false = true → (true, id) ∉ tg k) → τ.heap[id]? = (st 0).heap[id]?
  done : ∀ k id, InB m B id → id < (st 0).heap.length → k < ops.size → l.getD k false = true → (true, id) ∈ tg k → τ.heap[id]? = (st (k + 1)).heap[id]?
  base : FrR Y (frm 0) a0
  set : ∀ (k : Nat) (o : Oper) (d : Nat), ops[k]? = some o → l.getD k false = true → o.dst = some d → relV Y (val k) (Mono.slot a d)
  unset : ∀ (t : Nat), (∀ (k : Nat) (o : Oper), ops[k]? = some o → o.dst = some t → l.getD k false = false) → Mono.slot a t = Mono.slot a0 t

theorem mops_sound {callf : CallF} {r : Option Nat} (hcf : CallOk P w0 AnyY callf) {m : Bool} {B : List Nat} {ops : Array Oper} {n id : Nat} {as : List AOper} (hm : P.follows .mixedOrders = true) (hst : statB ops = true)
    (hbd : ∀ {i j : Nat} {a b : AOper}, as[i]? = some a → as[j]? = some b → i ≠ j → isM as a = true → isM as b = true → ((befs ops.toList []).getD j 0).testBit i = true ∨ ((befs ops.toList []).getD i 0).testBit j = true)
    (hc : compOpers P ops n ops.toList = some as)
    {fr fr' : Fr} {σ σ' : St} (hB : ∀ id ∈ B, id < σ.heap.length) (h : mops callf m B [] (mixMark as) fr σ = some (fr', σ')) {X : Emb} {a : Act} {w : World} (G : Good w0 lo n X σ fr a w) {Q : Exit → Act → World → Prop}
    (hQ : ∀ a' w', Post w0 lo n X σ w fr' σ' a' w' → Q .normal a' w') : (Code.region id ops true).wpIn (Mono.fw r) 0 P Q a w := by
  obtain ⟨st, frm, val, tg, ran, rfl, rfl, e3, e4, T⟩ := mops_trace _ _ _ _ _ _ h
  have stt := stat2_of hst
  obtain ⟨hlen0, hget⟩ := compOpers_get hc
  have hlen0 : as.length = ops.size := by simpa using hlen0
  have hlen : (mixMark as).length = ops.size := by simp [mixMark, hlen0]
  rw [hlen] at e3 e4
  have hG0 := G.lock
  have get : ∀ (j : Nat) (o : Oper), ops[j]? = some o → ∃ ao, as[j]? = some ao ∧ compOper P ops n o = some ao := fun j o ho => hget j o (by simpa using ho)
  have hdst : ∀ (k : Nat) (m : AOper), (mixMark as)[k]? = some m → ∃ o', ops[k]? = some o' ∧ m.dst = o'.dst := fun k m hk => by
    have hlt : k < ops.size := by rw [← hlen]; exact (List.getElem?_eq_some_iff.1 hk).1
    obtain ⟨ao, e1, e2⟩ := get k ops[k] (Array.getElem?_eq_getElem hlt)
    rw [mixMark_get e1] at hk
    cases hk
    exact ⟨_, Array.getElem?_eq_getElem hlt, (compOper_op e2).2.1⟩
  have hz : ∀ k, (Array.replicate ops.size false).getD k false = false := fun k => by
    by_cases hk : k < ops.size <;> simp [hk]
  -- what a done operation touches lies in B
  have hin : ∀ k id, k < ops.size → ∀ q, (q, id) ∈ tg k → InB m B id := fun k id hk q hq hmm => by
    obtain ⟨ao, e1, e2⟩ := get k ops[k] (Array.getElem?_eq_getElem hk)
    have hmk := mixMark_get e1
    cases hr : ran k with
    | false => rw [T.none_ k _ hmk (.inl hr)] at hq; cases hq
    | true =>
      cases hw : isM as ao with
      | true => rw [T.none_ k _ hmk (.inr hw)] at hq; cases hq
      | false => exact (T.free k _ hmk hr hw).2.1 hmm _ hq
  refine wpIn_region_any hm (drive (Q := Q) stt (fun j o ho => by obtain ⟨ao, _, hco⟩ := get j o ho; exact compOp_defer (compOper_op hco).1) (I := fun l a1 w1 => ∃ Y τ p, MInv w0 m B ops as st frm val tg X a w l Y a1 w1 τ p) (fun l a w ⟨_, _, _, I⟩ => I.lsize) (fun l a1 w1 j o ⟨Y, τ, p, I⟩ ho hun hrd => ?_) (fun l a1 w1 ⟨Y, τ, p, I⟩ hall => ?_) ops.size _ a _ (by
        unfold Mono.left
        exact Nat.le_trans (List.length_filter_le _ _) (by simp)) ?_)
  · -- a step
    obtain ⟨ao, hao, hco⟩ := get j o ho
    obtain ⟨c1, c2, c3, c4⟩ := compOper_op hco
    have hj : j < ops.size := (Array.getElem?_eq_some_iff.1 ho).1
    have hmj := mixMark_get hao
    -- the slots that it looks at
    have hfr : ∀ t ∈ o.looksAt ops, ∀ v, (frm j).get t = some v → relV Y v (a1.tmps.getD t undef) := by
      intro t ht
      have from0 : (∀ (k : Nat) (x : Oper), k < j → ops[k]? = some x → x.dst ≠ some t) → Mono.slot a1 t = Mono.slot a t → ∀ v, (frm j).get t = some v → relV Y v (a1.tmps.getD t undef) := fun h1 h2 v hv => by
        rw [T.get_not j (by omega) (fun k m hk hm => by
          obtain ⟨o', e1, e2⟩ := hdst k m hm
          rw [e2]; exact h1 k o' hk e1)] at hv
        show relV _ v (Mono.slot a1 t)
        rw [h2]; exact I.base t v hv
      by_cases hw : ∃ (k : Nat) (o' : Oper), ops[k]? = some o' ∧ o'.dst = some t ∧ k ≠ j
      · obtain ⟨k, o', hk, hd, hkj⟩ := hw
        rcases stt.bound j k o o' t ho hk (Ne.symm hkj) hd ht with ⟨e, he, hb, hon⟩ | ⟨e, he, hb, hon⟩
        · have hlk : l.getD k false = true := by rw [← hon]; exact hrd e he hb
          have hlt : k < j := by rw [← hon]; exact stt.back j o e ho he hb
          intro v hv
          obtain ⟨ao', e1, e2⟩ := get k o' hk
          rw [T.get_at (mixMark_get e1) (t := t) (by rw [← hd]; exact (compOper_op e2).2.1) (fun i m hi hne => by
            obtain ⟨x, f1, f2⟩ := hdst i m hi
            rw [f2]; exact stt.one i k x o' t f1 hk hne hd) j hlt (by omega)] at hv
          cases hv
          exact I.set k o' t hk hlk hd
        · have hlk : l.getD k false = false := by
            cases hc : l.getD k false with
            | false => rfl
            | true =>
              have := I.closed k o' e hk hc he hb
              rw [hon, hun] at this
              cases this
          have hjk : j < k := by rw [← hon]; exact stt.back k o' e hk he hb
          refine from0 (fun i x hi hx hxd => ?_) (I.unset t fun i x hx hxd => ?_)
          · exact stt.one i k x o' t hx hk (by omega) hd hxd
          · by_cases hik : i = k
            · subst hik; exact hlk
            · exact absurd hxd (stt.one i k x o' t hx hk hik hd)
      · refine from0 (fun i x hi hx hxd => hw ⟨i, x, hx, hxd, by omega⟩) (I.unset t fun i x hx hxd => ?_)
        by_cases hij : i = j
        · subst hij; exact hun
        · exact absurd ⟨i, x, hx, hxd, hij⟩ hw
    have hw := want_real1 (ao := ao) hco hfr (b := ran j) (by have h1 := T.want j _ hmj; exact h1)
    rw [hw]
    have hds : ∀ d, o.dst = some d → d < a1.tmps.size := fun d hd => by rw [I.size]; exact Nat.lt_of_lt_of_le (c4 d hd) G.size
    have hset : (l.setIfInBounds j true).getD j false = true := Mono.set_getD_same false (by rw [I.lsize]; exact hj)
    have hD : ∀ k, k ≠ j → ((l.setIfInBounds j true).getD k false = true ↔ l.getD k false = true) := fun k hk => by rw [Mono.set_getD false (Ne.symm hk)]
    have hloc := T.loc hcf.ast hG0 j (by omega)
    have hlocp := T.loc hcf.ast hG0 p (by rw [hlen]; exact I.ple)
    have hlk : τ.lock ≤ τ.heap.length := by rw [I.lock, I.len]; omega
    have hhid : ∀ t ∈ τ.hid, t < τ.heap.length := fun t ht => by rw [I.hid] at ht; have := G.hid t ht; rw [I.len]; omega
    -- where the next one that is not free stands
    have hbit : ∀ k t, k < ops.size → ((befs ops.toList []).getD k 0).testBit t = true → t < k := fun k t hk h =>
      (bits_done stt (D := fun _ => True) (fun _ _ _ _ _ _ _ => trivial) k _ (Array.getElem?_eq_getElem hk) (fun _ _ _ => trivial) t h).2
    have hord : isM as ao = true → ∀ (k : Nat) (o' : AOper), as[k]? = some o' → isM as o' = true → k ≠ j → (l.getD k false = true ↔ k < j) := fun hM k o' hk hM' hkj => by
      have hks : k < ops.size := by rw [← hlen0]; exact (List.getElem?_eq_some_iff.1 hk).1
      rcases hbd hk hao hkj hM' hM with h1 | h1
      · have := bits_done stt (D := fun k => l.getD k false = true) (fun k x e hk hl he hb => I.closed k x e hk hl he hb) j o ho hrd k h1
        exact ⟨fun _ => this.2, fun _ => this.1⟩
      · have hlt := hbit k j hks h1
        refine ⟨fun hd => ?_, fun hh => by omega⟩
        have := (bits_done stt (D := fun k => l.getD k false = true) (fun k x e hk hl he hb => I.closed k x e hk hl he hb) k _ (Array.getElem?_eq_getElem hks) (fun e he hb => I.closed k _ e (Array.getElem?_eq_getElem hks) hd he hb) j h1).1
        rw [hun] at this; cases this
    -- what is common to all steps
    have hclosed : ∀ (k : Nat) (x : Oper) (e : Edge), ops[k]? = some x → (l.setIfInBounds j true).getD k false = true → e ∈ x.after → Region.binds .any e = true → (l.setIfInBounds j true).getD e.on false = true := fun k x e hk hl he hb => by
      have old : l.getD e.on false = true → (l.setIfInBounds j true).getD e.on false = true := fun h => by
        by_cases hej : e.on = j
        · rw [hej]; exact hset
        · exact (hD _ hej).2 h
      by_cases hkj : k = j
      · subst hkj
        rw [ho] at hk; cases hk
        exact old (hrd e he hb)
      · exact old (I.closed k x e hk ((hD k hkj).1 hl) he hb)
    have hunset : ∀ u (t : Nat), (∀ (k : Nat) (x : Oper), ops[k]? = some x → x.dst = some t → (l.setIfInBounds j true).getD k false = false) → Mono.slot (a1.put o.dst u) t = Mono.slot a t := fun u t ht => by
      have hne : o.dst ≠ some t := fun hd => by rw [ht j o ho hd] at hset; cases hset
      rw [Mono.slot_put_ne hne]
      refine I.unset t fun k x hk hd => ?_
      have := ht k x hk hd
      by_cases hkj : k = j
      · subst hkj; exact hun
      · rwa [Mono.set_getD false (Ne.symm hkj)] at this
    have hsetv : ∀ (Y' : Emb) u, Evo Y Y' → relV Y' (val j) u → ∀ (k : Nat) (x : Oper) (d : Nat), ops[k]? = some x → (l.setIfInBounds j true).getD k false = true → x.dst = some d → relV Y' (val k) (Mono.slot (a1.put o.dst u) d) := fun Y' u he r1 k x d hk hl hd => by
      by_cases hkj : k = j
      · subst hkj
        rw [ho] at hk; injection hk with hk; subst hk
        rw [hd, Mono.slot_put_same (hds d hd)]
        exact r1
      · rw [Mono.slot_put_ne (stt.one j k o x d ho hk (Ne.symm hkj) hd)]
        exact (I.set k x d hk ((hD k hkj).1 hl) hd).evo he
    cases hr : ran j with
    | false =>
      simp only [Bool.false_eq_true, if_false]
      obtain ⟨z1, z2⟩ := T.skip j _ hmj hr
      have hnil : tg j = [] := T.none_ j _ hmj (.inl hr)
      by_cases hM : isM as ao = true
      · -- not free, and not wanted
        have hpj : p ≤ j := by
          rcases Nat.lt_or_ge j p with h1 | h1
          · have := (I.pos j ao hao hM).2 h1; rw [hun] at this; cases this
          · exact h1
        have hcalm := T.calm hcf.ast hG0 (p := p) (j - p) (by omega) fun k o' h1 h2 hk => by
          have hks : k < as.length := by have := (List.getElem?_eq_some_iff.1 hk).1; omega
          have hk1 := mixMark_get (List.getElem?_eq_getElem hks)
          rw [hk] at hk1
          cases hk1
          cases hk2 : isM as as[k] with
          | false => rfl
          | true =>
            have h3 := (I.pos k _ (List.getElem?_eq_getElem hks) hk2)
            have h4 := (hord hM k _ (List.getElem?_eq_getElem hks) hk2 (by omega)).2 (by omega)
            have := h3.1 h4
            omega
        rw [show p + (j - p) = j by omega] at hcalm
        refine ⟨Y, τ, j + 1, by simp [I.lsize], hclosed, by rw [size_put]; exact I.size, by rw [defers_put]; exact I.defers, I.stp, I.lock, I.hid, I.sim, by omega, fun k o' hk hM' => ?_, ?_, fun id hid => ?_, fun id hib hlt h => ?_, fun k id hib hlt hk hl hmem => ?_, I.base, hsetv Y undef (Evo.refl Y) (by rw [z1]; exact relV_undefv), hunset _⟩
        · by_cases hkj : k = j
          · subst hkj; exact ⟨fun _ => by omega, fun _ => hset⟩
          · rw [hD k hkj]
            have := hord hM k o' hk hM' hkj
            exact ⟨fun h => by have := this.1 h; omega, fun h => this.2 (by omega)⟩
        · rw [z2, I.len, hcalm.1]
        · rw [z2, I.agree id hid, hcalm.2 id hid]
        · refine I.keep id hib hlt fun k hk hl => h k hk ?_
          by_cases hkj : k = j
          · rw [hkj]; exact hset
          · exact (hD k hkj).2 hl
        · by_cases hkj : k = j
          · subst hkj; rw [hnil] at hmem; cases hmem
          · exact I.done k id hib hlt hk ((hD k hkj).1 hl) hmem
      · -- free, and not wanted
        refine ⟨Y, τ, p, by simp [I.lsize], hclosed, by rw [size_put]; exact I.size, by rw [defers_put]; exact I.defers, I.stp, I.lock, I.hid, I.sim, I.ple, fun k o' hk hM' => ?_, I.len, I.agree, fun id hib hlt h => ?_, fun k id hib hlt hk hl hmem => ?_, I.base, hsetv Y undef (Evo.refl Y) (by rw [z1]; exact relV_undefv), hunset _⟩
        · have hkj : k ≠ j := fun e => by subst e; rw [hao] at hk; cases hk; exact hM hM'
          rw [hD k hkj]
          exact I.pos k o' hk hM'
        · refine I.keep id hib hlt fun k hk hl => h k hk ?_
          by_cases hkj : k = j
          · rw [hkj]; exact hset
          · exact (hD k hkj).2 hl
        · by_cases hkj : k = j
          · subst hkj; rw [hnil] at hmem; cases hmem
          · exact I.done k id hib hlt hk ((hD k hkj).1 hl) hmem
    | true =>
      simp only [if_true]
      cases hM : isM as ao with
      | false =>
        obtain ⟨t0, tB, tR⟩ := T.free j _ hmj hr hM
        -- what it touches is as in the text's order
        have hlt0 : ∀ q ∈ tg j, m = true → q.2 < (st 0).heap.length := fun q hq hmm => hB q.2 (tB hmm q hq)
        obtain ⟨_, _, _, _, hmv⟩ := tgt_local t0 tR
        have hsame : ∀ q ∈ tg j, τ.heap[q.2]? = (st j).heap[q.2]? := fun q hq => by
          have hib : InB m B q.2 := hin j q.2 hj q.1 hq
          by_cases hlt : q.2 < (st 0).heap.length
          · rw [T.keep hcf.ast hG0 hib hlt j (by omega) (fun k hk hm => T.apart j k (by omega) hk q hq _ hm (.inr rfl) rfl)]
            refine I.keep q.2 hib hlt fun k hk hdn hm => ?_
            rcases Nat.lt_trichotomy k j with h1 | h1 | h1
            · exact T.apart j k (by omega) h1 q hq _ hm (.inr rfl) rfl
            · subst h1; rw [hun] at hdn; cases hdn
            · exact T.apart k j (by omega) h1 _ hm q hq (.inl rfl) rfl
          · have hmf : m = false := by
              cases hmm : m with
              | false => rfl
              | true => exact absurd (hlt0 q hq hmm) hlt
            rw [List.getElem?_eq_none (by rw [I.len, hlocp.2.2.2 hmf]; omega), List.getElem?_eq_none (by rw [hloc.2.2.2 hmf]; omega)]
        obtain ⟨τ', t1, t2⟩ := hmv τ (I.lock.trans hloc.1.symm) (I.hid.trans hloc.2.1.symm) hsame
        obtain ⟨l1, l2, l3, l4, _⟩ := tgt_local t0 t1
        have hrun := aop_runs (P := P) (a := a1) (o := o) (noCall_ok (w0 := w0)) trivial c1 I.sim hhid hlk (fun x hx v hv => ev1_rel (fun t e v' hv' => hfr t (by
            subst e
            exact List.mem_append_left _ (List.mem_filterMap.2 ⟨.tmp t, hx, rfl⟩)) v' hv') (c3 x hx) hv) t1
        refine Mono.gives_mono (fun u w' ⟨Y', r1, r2, r3⟩ => ⟨Y', τ', p, ?_⟩) hrun
        refine ⟨by simp [I.lsize], hclosed, by rw [size_put]; exact I.size, by rw [defers_put]; exact I.defers, I.stp.trans' I.lock I.hid (by rw [I.len]; exact hlocp.2.2.1) r3, l1.trans I.lock, l2.trans I.hid, r2, I.ple, fun k o' hk hM' => ?_, l3.trans I.len, fun id hid => ?_, fun id hib hlt hid => ?_, fun k id hib hlt hk hl hmem => ?_, I.base.evo r3.evo, hsetv Y' u r3.evo r1, hunset u⟩
        · have hkj : k ≠ j := fun e => by subst e; rw [hao] at hk; cases hk; rw [hM] at hM'; cases hM'
          rw [hD k hkj]
          exact I.pos k o' hk hM'
        · rw [l4 id (fun hm2 => hid (hin j id hj true hm2)), I.agree id hid]
        · rw [l4 id (hid j hj hset)]
          refine I.keep id hib hlt fun k hk hl => hid k hk ?_
          by_cases hkj : k = j
          · rw [hkj]; exact hset
          · exact (hD k hkj).2 hl
        · by_cases hkj : k = j
          · subst hkj; exact t2 id hmem
          · have hl' := (hD k hkj).1 hl
            rw [l4 id (fun hm2 => ?_), I.done k id hib hlt hk hl' hmem]
            rcases Nat.lt_or_ge k j with h1 | h1
            · exact T.apart j k (by omega) h1 _ hm2 _ hmem (.inl rfl) rfl
            · exact T.apart k j (by omega) (by omega) _ hmem _ hm2 (.inl rfl) rfl
      | true =>
        obtain ⟨hmt, s', t1, t2⟩ := T.does j _ hmj hr hM
        have hnil : tg j = [] := T.none_ j _ hmj (.inr hM)
        have hpj : p ≤ j := by
          rcases Nat.lt_or_ge j p with h1 | h1
          · have := (I.pos j ao hao hM).2 h1; rw [hun] at this; cases this
          · exact h1
        have hcalm := T.calm hcf.ast hG0 (p := p) (j - p) (by omega) fun k o' h1 h2 hk => by
          have hks : k < as.length := by have := (List.getElem?_eq_some_iff.1 hk).1; omega
          have hk1 := mixMark_get (List.getElem?_eq_getElem hks)
          rw [hk] at hk1
          cases hk1
          cases hk2 : isM as as[k] with
          | false => rfl
          | true =>
            have h3 := (I.pos k _ (List.getElem?_eq_getElem hks) hk2)
            have h4 := (hord hM k _ (List.getElem?_eq_getElem hks) hk2 (by omega)).2 (by omega)
            have := h3.1 h4
            omega
        rw [show p + (j - p) = j by omega] at hcalm
        have hnb : ∀ id, id ∉ B → ¬ InB m B id := fun id h1 h2 => h1 (h2 hmt)
        have hlenj : τ.heap.length = (st j).heap.length := by rw [I.len, hcalm.1]
        have Sj : Sim w0 Y { st j with hid := B ++ (st j).hid } w1 := I.sim.agree (hloc.1.trans I.lock.symm) hlenj fun id hid => by
          simp only [List.mem_append, not_or] at hid
          refine ⟨by rw [I.hid, ← hloc.2.1]; exact hid.2, ?_⟩
          rw [I.agree id (hnb id hid.1), hcalm.2 id (hnb id hid.1)]
        have hhj : ∀ t ∈ ({ st j with hid := B ++ (st j).hid } : St).hid, t < ({ st j with hid := B ++ (st j).hid } : St).heap.length := fun t ht => by
          simp only [List.mem_append] at ht
          show t < (st j).heap.length
          rcases ht with h1 | h1
          · have := hB t h1; omega
          · rw [hloc.2.1] at h1; have := G.hid t h1; omega
        have hlj : ({ st j with hid := B ++ (st j).hid } : St).lock ≤ ({ st j with hid := B ++ (st j).hid } : St).heap.length := by
          show (st j).lock ≤ (st j).heap.length
          rw [hloc.1]; omega
        have ast := aop_ast hcf.ast hlj t1
        have hrun := aop_runs (P := P) (a := a1) (o := o) hcf trivial c1 Sj hhj hlj (fun x hx v hv => ev1_rel (fun t e v' hv' => hfr t (by
            subst e
            exact List.mem_append_left _ (List.mem_filterMap.2 ⟨.tmp t, hx, rfl⟩)) v' hv') (c3 x hx) hv) t1
        have hlen' : (st j).heap.length ≤ s'.heap.length := ast.len
        refine Mono.gives_mono (fun u w' ⟨Y', r1, r2, r3⟩ => ⟨Y', { s' with hid := (st 0).hid, heap := mixH B τ.heap s'.heap }, j + 1, ?_⟩) hrun
        have hBt : ∀ id ∈ B, id < τ.heap.length := fun id h1 => by have := hB id h1; rw [hlenj]; omega
        have hmin : ∀ id ∈ B, (mixH B τ.heap s'.heap)[id]? = τ.heap[id]? := fun id h1 => mixH_in h1 (hBt id h1) (by have := hBt id h1; omega)
        have S' : Sim w0 Y' { s' with hid := (st 0).hid, heap := mixH B τ.heap s'.heap } w' := by
          refine ⟨r2.bel, fun id bx h => by show id < (mixH B τ.heap s'.heap).length; rw [mixH_length]; exact r2.dom id bx h, r2.place, fun id bx g pl cs h hh hb => ?_, r2.inj, r2.lock, r2.zero⟩
          by_cases hib : id ∈ B
          · have hb2 : τ.heap[id]? = some (.cells g pl cs) := by rw [← hmin id hib]; exact hb
            rcases r3.back id bx h with ⟨bx1, h1, h2, h3⟩ | ⟨h1, h2, h3, h4⟩
            · have he : bx = bx1 := by
                rcases r3.same id bx1 bx h1 h with h5 | ⟨_, h5⟩
                · exact h5
                · exact absurd (List.mem_append_left _ hib) h5
              subst he
              have hpl := I.sim.place id bx h1
              have hw' : w'.heap[bx.b]? = w1.heap[bx.b]? := by
                refine r3.frame bx.b hpl.1 fun id2 bx2 g2 gl2 gh2 go2 e => ?_
                have hp2 := (I.sim.place id2 bx2 g2).2
                rw [go2] at hp2
                simp only [if_true] at hp2
                cases hown : bx.own with
                | false =>
                  have := hpl.2
                  rw [hown] at this
                  simp at this
                  omega
                | true =>
                  have := I.sim.inj id2 id bx2 bx g2 h1 go2 hown e
                  subst this
                  exact gh2 (List.mem_append_left _ hib)
              exact ((I.sim.facts h1 (by rw [I.hid]; exact hh)).mono r3.evo hw') g pl cs hb2
            · have : (st j).heap.length ≤ id := h4
              have := hB id hib
              omega
          · have hb2 : s'.heap[id]? = some (.cells g pl cs) := by rw [← mixH_out (a := τ.heap) hib]; exact hb
            refine r2.cell id bx g pl cs h ?_ hb2
            rw [ast.hid]
            simp only [List.mem_append, not_or]
            exact ⟨hib, by rw [hloc.2.1]; exact hh⟩
        refine ⟨by simp [I.lsize], hclosed, by rw [size_put]; exact I.size, by rw [defers_put]; exact I.defers, I.stp.trans' I.lock I.hid (by rw [I.len]; exact hlocp.2.2.1) (r3.wide (τ := τ) (I.lock.trans hloc.1.symm) hlenj (fun id hid => ?_)), ast.lock.trans hloc.1, rfl, S', by omega, fun k o' hk hM' => ?_, ?_, fun id hid => ?_, fun id hib hlt hid => ?_, fun k id hib hlt hk hl hmem => ?_, I.base.evo r3.evo, hsetv Y' u r3.evo r1, hunset u⟩
        · exact List.mem_append_right _ (by rw [hloc.2.1, ← I.hid]; exact hid)
        · by_cases hkj : k = j
          · subst hkj; exact ⟨fun _ => by omega, fun _ => hset⟩
          · rw [hD k hkj]
            have := hord hM k o' hk hM' hkj
            exact ⟨fun h => by have := this.1 h; omega, fun h => this.2 (by omega)⟩
        · show (mixH B τ.heap s'.heap).length = _
          rw [mixH_length, t2]
        · show (mixH B τ.heap s'.heap)[id]? = _
          rw [mixH_out (fun h1 => hid fun _ => h1), t2]
        · show (mixH B τ.heap s'.heap)[id]? = _
          rw [hmin id (hib hmt)]
          refine I.keep id hib hlt fun k hk hl => hid k hk ?_
          by_cases hkj : k = j
          · rw [hkj]; exact hset
          · exact (hD k hkj).2 hl
        · show (mixH B τ.heap s'.heap)[id]? = _
          rw [hmin id (hib hmt)]
          by_cases hkj : k = j
          · subst hkj; rw [hnil] at hmem; cases hmem
          · exact I.done k id hib hlt hk ((hD k hkj).1 hl) hmem
  · -- the end
    have hloc := T.loc hcf.ast hG0 ops.size (by omega)
    have hlocp := T.loc hcf.ast hG0 p (by rw [hlen]; exact I.ple)
    have hcalm := T.calm hcf.ast hG0 (p := p) (ops.size - p) (by have := I.ple; omega) fun k o' h1 h2 hk => by
      have hks : k < as.length := by have := (List.getElem?_eq_some_iff.1 hk).1; omega
      have hk1 := mixMark_get (List.getElem?_eq_getElem hks)
      rw [hk] at hk1
      cases hk1
      cases hk2 : isM as as[k] with
      | false => rfl
      | true =>
        have := (I.pos k _ (List.getElem?_eq_getElem hks) hk2).1 (hall k (by omega))
        omega
    rw [show p + (ops.size - p) = ops.size by have := I.ple; omega] at hcalm
    have hheap : τ.heap = (st ops.size).heap := by
      apply List.ext_getElem?
      intro id
      by_cases hib : InB m B id
      · by_cases hlt : id < (st 0).heap.length
        · by_cases hid : ∃ k, k < ops.size ∧ (true, id) ∈ tg k
          · obtain ⟨k, h1, h2⟩ := hid
            rw [I.done k id hib hlt h1 (hall k h1) h2, T.done hcf.ast hG0 hib hlt h2 ops.size h1 (by omega)]
          · rw [I.keep id hib hlt (fun k hk _ hm => hid ⟨k, hk, hm⟩), T.keep hcf.ast hG0 hib hlt ops.size (by omega) (fun k hk hm => hid ⟨k, by omega, hm⟩)]
        · have hmf : m = false := by
            cases hmm : m with
            | false => rfl
            | true => exact absurd (hB id (hib hmm)) hlt
          rw [List.getElem?_eq_none (by rw [I.len, hlocp.2.2.2 hmf]; omega), List.getElem?_eq_none (by rw [hloc.2.2.2 hmf]; omega)]
      · rw [I.agree id hib, hcalm.2 id hib]
    have S : Sim w0 Y (st ops.size) w1 := by
      have e : st ops.size = { τ with dirty := (st ops.size).dirty } := by
        have h1 := I.lock.trans hloc.1.symm
        have h2 := I.hid.trans hloc.2.1.symm
        generalize st ops.size = q at *
        obtain ⟨q1, q2, q3, q4⟩ := q
        simp only at hheap h1 h2 ⊢
        rw [← hheap, ← h1, ← h2]
      rw [e]
      exact I.sim.dirty' _
    rw [← e3, ← e4] at hQ
    refine hQ a1 w1 ⟨Y, ⟨S, fun t v hv => ?_, by rw [I.size]; exact G.size, (by rw [I.defers]; exact G.defers.step I.stp), fun t ht => ?_, by rw [hloc.1]; omega⟩, I.stp⟩
    · by_cases hw : ∃ (k : Nat) (o' : Oper), ops[k]? = some o' ∧ o'.dst = some t
      · obtain ⟨k, o', hk, hd⟩ := hw
        have hkl : k < ops.size := (Array.getElem?_eq_some_iff.1 hk).1
        obtain ⟨ao, e1, e2⟩ := get k o' hk
        rw [T.get_at (mixMark_get e1) (t := t) (by rw [← hd]; exact (compOper_op e2).2.1) (fun i m hi hne => by
          obtain ⟨x, f1, f2⟩ := hdst i m hi
          rw [f2]; exact stt.one i k x o' t f1 hk hne hd) ops.size hkl (by omega)] at hv
        cases hv
        exact I.set k o' t hk (hall k hkl) hd
      · rw [T.get_not ops.size (by omega) (fun k m _ hm hd => by
          obtain ⟨o', f1, f2⟩ := hdst k m hm
          exact hw ⟨k, o', f1, by rw [← f2]; exact hd⟩)] at hv
        have h1 := I.base t v hv
        have h2 := I.unset t fun k x hk hd => absurd ⟨k, x, hk, hd⟩ hw
        show relV _ v (Mono.slot a1 t)
        rw [h2]; exact h1
    · rw [hloc.2.1] at ht
      have := G.hid t ht
      omega
  · -- the start
    have S := G.sim
    refine ⟨X, st 0, 0, by simp, fun k o e _ hk => ?_, rfl, rfl, ⟨Nat.le_refl _, rfl, rfl, rfl, fun _ _ _ => rfl, Evo.refl X, fun id bx bx' h h' => (by rw [h] at h'; cases h'; exact .inl rfl), fun id bx' h => .inl ⟨bx', h, rfl, .inl rfl⟩⟩, rfl, rfl, ⟨⟨S.bel.os, S.bel.tape, S.bel.output, S.bel.size, S.bel.block⟩, S.dom, S.place, S.cell, S.inj, S.lock, S.zero⟩, Nat.zero_le _, fun k o' _ _ => ?_, rfl, fun _ _ => rfl, fun _ _ _ _ => rfl, fun k id _ _ _ hk => ?_, G.fr, fun k o d _ hk => ?_, fun _ _ => rfl⟩
    · rw [hz] at hk; cases hk
    · rw [hz]; simp
    · rw [hz] at hk; cases hk
    · rw [hz] at hk; cases hk
end
end AM
end Go.Proofs.Ytpjjkmfidghkjaa
end
