/-
  REGIONS WHOSE ORDER IS DRAWN: the static facts, and what stays of a block between two writers. Conditions: none.
-/
import Derived.Test.YtfefeikkjebfoaaADrawn
namespace Go.Proofs.Ytfefeikkjebfoaa
namespace AM
open Go Go.RowKit

section
variable {P : Program}

structure Stat2 (ops : Array Oper) : Prop where
  nosel : ∀ (j : Nat) (o : Oper) cs b, ops[j]? = some o → o.op ≠ .select cs b
  back : ∀ (j : Nat) (o : Oper) (e : Edge), ops[j]? = some o → e ∈ o.after → Region.binds .any e = true → e.on < j
  one : ∀ (j k : Nat) (o o' : Oper) d, ops[j]? = some o → ops[k]? = some o' → j ≠ k → o'.dst = some d → o.dst ≠ some d
  bound : ∀ (j k : Nat) (o o' : Oper) d, ops[j]? = some o → ops[k]? = some o' → j ≠ k → o'.dst = some d → d ∈ o.looksAt ops →
    (∃ e ∈ o.after, Region.binds .any e = true ∧ e.on = k) ∨ (∃ e ∈ o'.after, Region.binds .any e = true ∧ e.on = j)
theorem stat2_of {ops : Array Oper} (h : statB ops = true) : Stat2 ops := by
  unfold statB at h
  rw [List.all_eq_true] at h
  have hlt : ∀ {j : Nat} {o : Oper}, ops[j]? = some o → j < ops.size := fun ho => (Array.getElem?_eq_some_iff.1 ho).1
  refine ⟨fun j o cs b ho => ?_, fun j o e ho he hb => ?_, fun j k o o' d ho hk hjk hd => ?_, fun j k o o' d ho hk hjk hd hm => ?_⟩
  all_goals
    have hj := h j (List.mem_range.2 (hlt ho))
    simp only [ho, Bool.and_eq_true] at hj
    obtain ⟨⟨h1, h3⟩, h4⟩ := hj
  · intro he; simp [he] at h1
  · rw [List.all_eq_true] at h3
    have := h3 e (by simpa using he)
    rw [hb] at this
    simpa using this
  · rw [List.all_eq_true] at h4
    have := h4 k (List.mem_range.2 (hlt hk))
    simp only [hk, hd, Bool.or_eq_true, beq_iff_eq, hjk, false_or, Bool.and_eq_true] at this
    simpa using this.1
  · rw [List.all_eq_true] at h4
    have := h4 k (List.mem_range.2 (hlt hk))
    simp only [hk, hd, Bool.or_eq_true, beq_iff_eq, hjk, false_or, Bool.and_eq_true] at this
    rcases this.2 with (h5 | h5) | h5
    · simp at h5; exact absurd hm h5
    · rw [List.any_eq_true] at h5
      obtain ⟨e, he, hb⟩ := h5
      simp only [Bool.and_eq_true, beq_iff_eq] at hb
      exact .inl ⟨e, by simpa using he, hb.1, hb.2⟩
    · rw [List.any_eq_true] at h5
      obtain ⟨e, he, hb⟩ := h5
      simp only [Bool.and_eq_true, beq_iff_eq] at hb
      exact .inr ⟨e, by simpa using he, hb.1, hb.2⟩
theorem compOpers_get {ops : Array Oper} {n : Nat} : ∀ {l : List Oper} {as : List AOper}, compOpers P ops n l = some as → as.length = l.length ∧ ∀ (j : Nat) (o : Oper), l[j]? = some o → ∃ ao, as[j]? = some ao ∧ compOper P ops n o = some ao
  | [], as, h => by simp only [compOpers, Option.some.injEq] at h; subst h; simp
  | o :: l, as, h => by
    simp only [compOpers, Option.bind_eq_some_iff, Option.map_eq_some_iff] at h
    obtain ⟨ao, hao, as', has', rfl⟩ := h
    obtain ⟨h1, h2⟩ := compOpers_get has'
    refine ⟨by simp [h1], fun j o' hj => ?_⟩
    cases j with
    | zero => simp at hj; subst hj; exact ⟨ao, rfl, hao⟩
    | succ j => obtain ⟨a, e1, e2⟩ := h2 j o' (by simpa using hj); exact ⟨a, by simpa using e1, e2⟩
theorem marked_get {as : List AOper} {bs : List Nat} {j : Nat} {ao : AOper} (h : as[j]? = some ao) : (marked as bs)[j]? = some { ao with bef := bs.getD j 0, wr := memOp ao.op && bound as bs j } := by
  simp [marked, List.getElem?_map, List.getElem?_zipIdx, h]
theorem foldl_bits {q : Edge → Bool} {g : Edge → Nat} {t : Nat} : ∀ (l : List Edge) (s : Nat), (l.foldl (fun s e => if q e then s ||| g e else s) s).testBit t = true → s.testBit t = true ∨ ∃ e ∈ l, q e = true ∧ (g e).testBit t = true
  | [], s, h => .inl h
  | e :: l, s, h => by
    simp only [List.foldl_cons] at h
    rcases foldl_bits l _ h with h | ⟨e', h1, h2⟩
    · split at h
      · rename_i hq
        rw [Nat.testBit_or, Bool.or_eq_true] at h
        rcases h with h | h
        · exact .inl h
        · exact .inr ⟨e, by simp, hq, h⟩
      · exact .inl h
    · exact .inr ⟨e', by simp [h1], h2⟩
theorem befs_spec : ∀ (l : List Oper) (acc : List Nat), (∀ k, k < acc.length → (befs l acc).getD k 0 = acc.getD k 0) ∧
    ∀ i o, l[i]? = some o → ∀ t, ((befs l acc).getD (acc.length + i) 0).testBit t = true → ∃ e ∈ o.after.toList, Region.binds .any e = true ∧ (t = e.on ∨ (e.on < acc.length + i ∧ ((befs l acc).getD e.on 0).testBit t = true))
  | [], acc => ⟨fun _ _ => rfl, fun i o h => by simp at h⟩
  | o :: l, acc => by
    let b := o.after.toList.foldl (fun s e => if Region.binds .any e then s ||| (2 ^ e.on ||| acc.getD e.on 0) else s) 0
    obtain ⟨h1, h2⟩ := befs_spec l (acc ++ [b])
    have hacc : ∀ k, k < acc.length → (befs (o :: l) acc).getD k 0 = acc.getD k 0 := fun k hk => by
      show (befs l (acc ++ [b])).getD k 0 = _
      rw [h1 k (by simp; omega)]
      simp [List.getElem?_append_left hk]
    refine ⟨hacc, fun i o' hi t ht => ?_⟩
    cases i with
    | zero =>
      simp at hi
      subst hi
      have hb : (befs (o :: l) acc).getD (acc.length + 0) 0 = b := by
        show (befs l (acc ++ [b])).getD (acc.length + 0) 0 = _
        rw [h1 _ (by simp)]
        simp
      rw [hb] at ht
      rcases foldl_bits _ _ ht with h | ⟨e, e1, e2, e3⟩
      · simp at h
      · refine ⟨e, e1, e2, ?_⟩
        rw [Nat.testBit_or, Bool.or_eq_true] at e3
        rcases e3 with e3 | e3
        · left
          rw [Nat.testBit_two_pow] at e3
          exact (by simpa using e3 : e.on = t).symm
        · right
          have hlt : e.on < acc.length := by
            rcases Nat.lt_or_ge e.on acc.length with h | h
            · exact h
            · rw [List.getD_eq_getElem?_getD, List.getElem?_eq_none h] at e3; simp at e3
          exact ⟨by omega, by rw [hacc _ hlt]; exact e3⟩
    | succ i =>
      have hl : acc.length + (i + 1) = (acc ++ [b]).length + i := by simp; omega
      rw [hl] at ht ⊢
      exact h2 i o' (by simpa using hi) t ht

/-- What every order does before: it is done when the operation is ready. -/
theorem bits_done {ops : Array Oper} (st : Stat2 ops) {D : Nat → Prop} (hcl : ∀ (k : Nat) (o : Oper) (e : Edge), ops[k]? = some o → D k → e ∈ o.after → Region.binds .any e = true → D e.on) :
    ∀ (j : Nat) (o : Oper), ops[j]? = some o → (∀ e ∈ o.after, Region.binds .any e = true → D e.on) → ∀ t, ((befs ops.toList []).getD j 0).testBit t = true → D t ∧ t < j := by
  intro j
  induction j using Nat.strongRecOn with
  | _ j ih =>
    intro o ho hr t ht
    have hb := (befs_spec ops.toList []).2 j o (by simpa using ho) t (by simpa using ht)
    obtain ⟨e, e1, e2, e3⟩ := hb
    have e1' : e ∈ o.after := by simpa using e1
    have hlt := st.back j o e ho e1' e2
    have hd := hr e e1' e2
    rcases e3 with rfl | ⟨_, e3⟩
    · exact ⟨hd, hlt⟩
    · have hj : j < ops.size := (Array.getElem?_eq_some_iff.1 ho).1
      have ho2 : ops[e.on]? = some (ops[e.on]'(by omega)) := Array.getElem?_eq_getElem (by omega)
      obtain ⟨r1, r2⟩ := ih e.on hlt _ ho2 (fun e' he' hb' => hcl e.on _ e' ho2 hd he' hb') t e3
      exact ⟨r1, by omega⟩

theorem mem_hidden {bef : Nat} {id : Nat} : ∀ {bn : List (Nat × Nat × Nat)}, id ∈ hiddenBy bef bn ↔ ∃ i lo hi, (i, lo, hi) ∈ bn ∧ bef.testBit i = false ∧ lo ≤ id ∧ id < hi
  | [] => by simp [hiddenBy]
  | (i, lo, hi) :: l => by
    unfold hiddenBy
    split
    · rename_i hb
      rw [mem_hidden]
      constructor
      · rintro ⟨i', lo', hi', h1, h2⟩; exact ⟨i', lo', hi', by simp [h1], h2⟩
      · rintro ⟨i', lo', hi', h1, h2, h3⟩
        rcases List.mem_cons.1 h1 with h1 | h1
        · cases h1; rw [hb] at h2; cases h2
        · exact ⟨i', lo', hi', h1, h2, h3⟩
    · rename_i hb
      rw [List.mem_append, mem_hidden, List.mem_range'_1]
      constructor
      · rintro (h | ⟨i', lo', hi', h1, h2⟩)
        · exact ⟨i, lo, hi, by simp, by simpa using hb, by omega, by omega⟩
        · exact ⟨i', lo', hi', by simp [h1], h2⟩
      · rintro ⟨i', lo', hi', h1, h2, h3⟩
        rcases List.mem_cons.1 h1 with h1 | h1
        · cases h1; left; omega
        · exact .inr ⟨i', lo', hi', h1, h2, h3⟩

section
variable {callf : CallF} {as : List AOper} {st : Nat → St} {frm : Nat → Fr} {val : Nat → Value} {ran : Nat → Bool} {bn : Nat → List (Nat × Nat × Nat)}

theorem Trace.zero (T : Trace callf as 0 st frm val ran bn) : ∀ i o, as[i]? = some o → AM.want o (frm i) = some (ran i) ∧ frm (i + 1) = (frm i).put o.dst (val i) ∧
    (ran i = true → ∃ s', aop callf o.op (frm i) (lkOf (st i) (bn i) o) = some (val i, s') ∧ st (i + 1) = { s' with lock := (st i).lock, hid := (st i).hid }) ∧ (ran i = false → val i = undefv ∧ st (i + 1) = st i) ∧
    bn (i + 1) = if (st i).heap.length < (st (i + 1)).heap.length then (i, (st i).heap.length, (st (i + 1)).heap.length) :: bn i else bn i := fun i o ho => by
  have h1 := T.want i o ho
  have h2 := T.frame i o ho
  have h3 := T.does i o ho
  have h4 := T.skips i o ho
  have h5 := T.born i o ho
  simp only [Nat.zero_add] at h1 h2 h3 h4 h5
  exact ⟨h1, h2, h3, h4, h5⟩
/-- What one place does to the state. -/
theorem Trace.ast (hcf : CallAst callf) (T : Trace callf as 0 st frm val ran bn) (hl : (st 0).lock ≤ (st 0).heap.length) : ∀ i, i ≤ as.length → (st i).lock = (st 0).lock ∧ (st i).hid = (st 0).hid ∧ (st 0).heap.length ≤ (st i).heap.length ∧ Ast (st 0) (st i)
  | 0, _ => ⟨rfl, rfl, Nat.le_refl _, Ast.refl _⟩
  | i + 1, hi => by
    obtain ⟨h1, h2, h3, h4⟩ := Trace.ast hcf T hl i (by omega)
    obtain ⟨_, _, z1, z2, _⟩ := T.zero i (as[i]'(by omega)) (List.getElem?_eq_getElem (by omega))
    cases hr : ran i with
    | false => rw [(z2 hr).2]; exact ⟨h1, h2, h3, h4⟩
    | true =>
      obtain ⟨s', e1, e2⟩ := z1 hr
      have hli : (st i).lock ≤ (st i).heap.length := by omega
      have a0 := aop_ast hcf (by simp only [lkOf]; split <;> omega) e1
      have a1 : Ast (st i) (st (i + 1)) := by rw [e2]; exact Ast.unlock hli (by split <;> simp) a0
      exact ⟨a1.lock.trans h1, a1.hid.trans h2, Nat.le_trans h3 a1.len, h4.trans a1⟩
theorem Trace.len_succ (hcf : CallAst callf) (T : Trace callf as 0 st frm val ran bn) (hl : (st 0).lock ≤ (st 0).heap.length) (i : Nat) (o : AOper) (ho : as[i]? = some o) : (st i).heap.length ≤ (st (i + 1)).heap.length ∧
    ∀ id, id < (st i).heap.length → o.wr = false ∨ id ∈ hiddenBy o.bef (bn i) → (st (i + 1)).heap[id]? = (st i).heap[id]? := by
  have hi : i < as.length := (List.getElem?_eq_some_iff.1 ho).1
  obtain ⟨h1, h2, h3, h4⟩ := T.ast hcf hl i (by omega)
  obtain ⟨_, _, z1, z2, _⟩ := T.zero i o ho
  cases hr : ran i with
  | false => rw [(z2 hr).2]; exact ⟨Nat.le_refl _, fun _ _ _ => rfl⟩
  | true =>
    obtain ⟨s', e1, e2⟩ := z1 hr
    have a0 := aop_ast hcf (by simp only [lkOf]; split <;> omega) e1
    rw [e2]
    refine ⟨a0.len, fun id hid hk => ?_⟩
    refine a0.fix id hid ?_
    rcases hk with hk | hk
    · left; simp only [lkOf, hk]; simpa using hid
    · right; simp only [lkOf, List.mem_append]; exact .inl hk
theorem Trace.len_mono (hcf : CallAst callf) (T : Trace callf as 0 st frm val ran bn) (hl : (st 0).lock ≤ (st 0).heap.length) (i : Nat) : ∀ d, i + d ≤ as.length → (st i).heap.length ≤ (st (i + d)).heap.length
  | 0, _ => Nat.le_refl _
  | d + 1, h => Nat.le_trans (Trace.len_mono hcf T hl i d (by omega)) (T.len_succ hcf hl (i + d) (as[i + d]'(by omega)) (List.getElem?_eq_getElem (by omega))).1
theorem Trace.len_le (hcf : CallAst callf) (T : Trace callf as 0 st frm val ran bn) (hl : (st 0).lock ≤ (st 0).heap.length) {i k : Nat} (hik : i ≤ k) (hk : k ≤ as.length) : (st i).heap.length ≤ (st k).heap.length := by
  have := T.len_mono hcf hl i (k - i) (by omega)
  rwa [show i + (k - i) = k by omega] at this
/-- Which blocks have been born where. -/
theorem Trace.mem_born (hb0 : bn 0 = []) (T : Trace callf as 0 st frm val ran bn) : ∀ j, j ≤ as.length → ∀ i lo hi, (i, lo, hi) ∈ bn j ↔ i < j ∧ lo = (st i).heap.length ∧ hi = (st (i + 1)).heap.length ∧ lo < hi
  | 0, _, i, lo, hi => by rw [hb0]; simp
  | j + 1, hj, i, lo, hi => by
    obtain ⟨_, _, _, _, z⟩ := T.zero j (as[j]'(by omega)) (List.getElem?_eq_getElem (by omega))
    have ih := Trace.mem_born hb0 T j (by omega) i lo hi
    rw [z]
    split
    · rename_i hlt
      rw [List.mem_cons, ih]
      constructor
      · rintro (h | h)
        · cases h; exact ⟨by omega, rfl, rfl, hlt⟩
        · exact ⟨by omega, h.2⟩
      · rintro ⟨h1, h2, h3, h4⟩
        by_cases hij : i = j
        · subst hij; left; rw [h2, h3]
        · right; exact ⟨by omega, h2, h3, h4⟩
    · rename_i hlt
      rw [ih]
      constructor
      · rintro ⟨h1, h2⟩; exact ⟨by omega, h2⟩
      · rintro ⟨h1, h2, h3, h4⟩
        by_cases hij : i = j
        · subst hij; omega
        · exact ⟨by omega, h2, h3, h4⟩
/-- Where the content of a block has got to, when the operations in D are done. -/
def Con (as : List AOper) (st : Nat → St) (bn : Nat → List (Nat × Nat × Nat)) (D : Nat → Prop) (id m : Nat) : Prop :=
  m ≤ as.length ∧ id < (st m).heap.length ∧ ∀ k o, as[k]? = some o → o.wr = true → id < (st k).heap.length → id ∉ hiddenBy o.bef (bn k) → (D k ↔ k < m)
theorem Con.same (hcf : CallAst callf) (T : Trace callf as 0 st frm val ran bn) (hl : (st 0).lock ≤ (st 0).heap.length) {D : Nat → Prop} {id m m' : Nat} (h : Con as st bn D id m) (h' : Con as st bn D id m') : (st m).heap[id]? = (st m').heap[id]? := by
  have key : ∀ {m m' : Nat}, m ≤ m' → Con as st bn D id m → Con as st bn D id m' → (st m).heap[id]? = (st m').heap[id]? := by
    intro m m' hmm h h'
    have : ∀ d, m + d ≤ m' → (st (m + d)).heap[id]? = (st m).heap[id]? := by
      intro d
      induction d with
      | zero => intro _; rfl
      | succ d ih =>
        intro hd
        have ho : as[m + d]? = some (as[m + d]'(by have := h'.1; omega)) := List.getElem?_eq_getElem _
        have hid : id < (st (m + d)).heap.length := Nat.lt_of_lt_of_le h.2.1 (T.len_le hcf hl (by omega) (by have := h'.1; omega))
        have hs := (T.len_succ hcf hl (m + d) _ ho).2 id hid
        rw [show m + (d + 1) = m + d + 1 by omega, ← ih (by omega)]
        refine hs ?_
        cases hw : (as[m + d]'(by have := h'.1; omega)).wr with
        | false => exact .inl rfl
        | true =>
          right
          by_cases hh : id ∈ hiddenBy (as[m + d]'(by have := h'.1; omega)).bef (bn (m + d))
          · exact hh
          · have h1 := h.2.2 _ _ ho hw hid hh
            have h2 := h'.2.2 _ _ ho hw hid hh
            exfalso
            have := h2.2 (by omega)
            have := h1.1 this
            omega
    have := this (m' - m) (by omega)
    rw [show m + (m' - m) = m' by omega] at this
    exact this.symm
  rcases Nat.le_total m m' with hmm | hmm
  · exact key hmm h h'
  · exact (key hmm h' h).symm
/-- A frame on the way. -/
theorem Trace.get_not (T : Trace callf as 0 st frm val ran bn) {t : Nat} : ∀ j, j ≤ as.length → (∀ k o, k < j → as[k]? = some o → o.dst ≠ some t) → (frm j).get t = (frm 0).get t
  | 0, _, _ => rfl
  | j + 1, hj, h => by
    have ho : as[j]? = some (as[j]'(by omega)) := List.getElem?_eq_getElem _
    obtain ⟨_, z, _⟩ := T.zero j _ ho
    rw [z, ← Trace.get_not T j (by omega) fun k o hk => h k o (by omega)]
    have hne := h j _ (by omega) ho
    unfold Fr.put
    split
    · rename_i d hd
      have : ¬ d = t := fun e => hne (by rw [hd, e])
      simp [Fr.get, this]
    · rfl
theorem Trace.get_at (T : Trace callf as 0 st frm val ran bn) {t k : Nat} {o : AOper} (hk : as[k]? = some o) (hd : o.dst = some t) (hu : ∀ i o', as[i]? = some o' → i ≠ k → o'.dst ≠ some t) : ∀ j, k < j → j ≤ as.length → (frm j).get t = some (val k)
  | 0, h, _ => by omega
  | j + 1, hkj, hj => by
    have ho : as[j]? = some (as[j]'(by omega)) := List.getElem?_eq_getElem _
    obtain ⟨_, z, _⟩ := T.zero j _ ho
    rw [z]
    by_cases hjk : j = k
    · subst hjk
      rw [ho] at hk
      cases hk
      rw [hd]
      simp [Fr.put, Fr.get]
    · rw [← Trace.get_at T hk hd hu j (by omega) (by omega)]
      have hne := hu j _ ho hjk
      unfold Fr.put
      split
      · rename_i d hd'
        have : ¬ d = t := fun e => hne (by rw [hd', e])
        simp [Fr.get, this]
      · rfl
end
end
end AM
end Go.Proofs.Ytfefeikkjebfoaa
