/-
  THE ABSTRACT MACHINE's STATES AND THE PROGRAM's WORLDS: what it means that the one stands for the other; how it is carried along. Conditions: none.
-/
import Derived.Test.YtfefeikkjebfoaaAComp
import Derived.Test.YtfefeikkjebfoaaMem
namespace Go.Proofs.Ytfefeikkjebfoaa
namespace AM
open Go Go.RowKit

/-- Where an abstract block lies: the block, the offset of its first cell, whether the call made it, its stamp, how many cells are known, how many there are. -/
structure Bx where
  b : Nat
  o : Nat
  own : Bool
  gen : Nat
  known : Nat
  size : Nat
abbrev Emb := Nat → Option Bx

def rel2 (R : Value → Value → Prop) (l m : List Value) : Prop := l.length = m.length ∧ ∀ (i : Nat) (v u : Value), l[i]? = some v → m[i]? = some u → R v u
theorem rel2.get {R : Value → Value → Prop} {l m : List Value} (h : rel2 R l m) {i : Nat} {v : Value} (hv : l[i]? = some v) : ∃ u, m[i]? = some u ∧ R v u := by
  have hi : i < l.length := (List.getElem?_eq_some_iff.1 hv).1
  have hm : i < m.length := by rw [← h.1]; exact hi
  exact ⟨m[i], List.getElem?_eq_getElem hm, h.2 i v _ hv (List.getElem?_eq_getElem hm)⟩
theorem rel2.mono {R R' : Value → Value → Prop} {l m : List Value} (h : rel2 R l m) (f : ∀ v ∈ l, ∀ u, R v u → R' v u) : rel2 R' l m :=
  ⟨h.1, fun i v u hv hu => f v (List.mem_of_getElem? hv) u (h.2 i v u hv hu)⟩
theorem rel2.nil {R : Value → Value → Prop} : rel2 R [] [] := ⟨rfl, fun i v u h => by simp at h⟩
theorem rel2.cons {R : Value → Value → Prop} {v u : Value} {l m : List Value} (h : R v u) (hl : rel2 R l m) : rel2 R (v :: l) (u :: m) :=
  ⟨by simp [hl.1], fun i a b ha hb => by
    cases i with
    | zero => simp at ha hb; subst ha; subst hb; exact h
    | succ i => exact hl.2 i a b (by simpa using ha) (by simpa using hb)⟩
theorem rel2.head {R : Value → Value → Prop} {v : Value} {l m : List Value} (h : rel2 R (v :: l) m) : ∃ u m', m = u :: m' ∧ R v u ∧ rel2 R l m' := by
  cases m with
  | nil => have := h.1; simp at this
  | cons u m' => exact ⟨u, m', rfl, h.2 0 v u rfl rfl, by have := h.1; simpa using this, fun i a b ha hb => h.2 (i + 1) a b (by simpa using ha) (by simpa using hb)⟩
theorem rel2.nil' {R : Value → Value → Prop} {m : List Value} (h : rel2 R [] m) : m = [] := List.eq_nil_of_length_eq_zero (by have := h.1; simpa using this.symm)
theorem rel2.append {R : Value → Value → Prop} {l m l' m' : List Value} (h : rel2 R l m) (h' : rel2 R l' m') : rel2 R (l ++ l') (m ++ m') := by
  refine ⟨by simp [h.1, h'.1], fun i v u hv hu => ?_⟩
  rcases Nat.lt_or_ge i l.length with hi | hi
  · rw [List.getElem?_append_left hi] at hv
    rw [List.getElem?_append_left (by rw [← h.1]; exact hi)] at hu
    exact h.2 i v u hv hu
  · rw [List.getElem?_append_right hi] at hv
    rw [List.getElem?_append_right (by rw [← h.1]; exact hi), ← h.1] at hu
    exact h'.2 _ v u hv hu
theorem rel2.take {R : Value → Value → Prop} {l m : List Value} (h : rel2 R l m) (n : Nat) : rel2 R (l.take n) (m.take n) :=
  ⟨by simp [h.1], fun i v u hv hu => by
    rw [List.getElem?_take] at hv hu
    split at hv
    · rename_i hi
      simp only [hi, if_true] at hu
      exact h.2 i v u hv hu
    · cases hv⟩
theorem rel2.drop {R : Value → Value → Prop} {l m : List Value} (h : rel2 R l m) (n : Nat) : rel2 R (l.drop n) (m.drop n) :=
  ⟨by simp [h.1], fun i v u hv hu => by
    rw [List.getElem?_drop] at hv hu
    exact h.2 _ v u hv hu⟩
theorem rel2.set {R : Value → Value → Prop} {l m : List Value} (h : rel2 R l m) (i : Nat) {v u : Value} (hv : R v u) : rel2 R (l.set i v) (m.set i u) :=
  ⟨by simp [h.1], fun j a b ha hb => by
    rw [List.getElem?_set] at ha hb
    split at ha
    · rename_i hij
      subst hij
      split at ha
      · rename_i hl
        rw [if_pos rfl, if_pos (by rw [← h.1]; exact hl)] at hb
        cases ha; cases hb; exact hv
      · cases ha
    · rename_i hij
      rw [if_neg hij] at hb
      exact h.2 j a b ha hb⟩
theorem rel2.putAt {R : Value → Value → Prop} : ∀ {vs us : List Value} {l m : List Value} (off : Nat), rel2 R l m → rel2 R vs us → rel2 R (putAt l off vs) (AM.putAt m off us)
  | [], us, l, m, off, h, h' => by rw [h'.nil']; exact h
  | v :: vs, us, l, m, off, h, h' => by
    obtain ⟨u, us', rfl, hu, ht⟩ := h'.head
    exact rel2.putAt (off + 1) (h.set off hu) ht
theorem rel2.flat {R : Value → Value → Prop} {z u : List Value} (h : rel2 R z u) : ∀ n, rel2 R (List.replicate n z).flatten (List.replicate n u).flatten
  | 0 => rel2.nil
  | n + 1 => by simp only [List.replicate_succ, List.flatten_cons]; exact h.append (rel2.flat h n)
theorem rel2.refl {R : Value → Value → Prop} {l : List Value} (h : ∀ v ∈ l, R v v) : rel2 R l l :=
  ⟨rfl, fun i v u hv hu => by rw [hv] at hu; cases hu; exact h v (List.mem_of_getElem? hv)⟩

def relA (X : Emb) (a ra : Addr) : Prop := ∃ bx, X a.block = some bx ∧ ∃ s, a.spot = some s ∧ s ≤ bx.gen ∧ (s = bx.gen → ra = ⟨bx.b, bx.o + a.off, none⟩)
def relSl (X : Emb) (a : Addr) (n e : Nat) (ra : Addr) (c : Nat) : Prop :=
  n ≤ c ∧ c ≤ maxLen ∧ ∃ bx, X a.block = some bx ∧ ∃ s, a.spot = some s ∧ s ≤ bx.gen ∧
    (s = bx.gen → ((0 < n ∨ a.off = 0) → ra = ⟨bx.b, bx.o + a.off, none⟩) ∧ (0 < e → bx.known ≤ a.off + c * e ∧ a.off + c * e ≤ bx.size))
def relC (X : Emb) (v u : Value) : Prop :=
  match v with
  | .pointer (some a) => ∃ ra, u = .pointer (some ra) ∧ relA X a ra
  | .slice (some a) n e => ∃ ra c, u = .slice (some ra) n c ∧ relSl X a n e ra c
  | v => sc v = true ∧ u = v
def relF (X : Emb) (v u : Value) : Prop :=
  match v with
  | .agg cs => ∃ rs, u = .agg rs ∧ rel2 (relC X) cs.toList rs.toList
  | .func g fi ca => ∃ rf rc, u = .func g rf rc ∧ rel2 (relC X) fi.toList rf.toList ∧ rel2 (relC X) ca.toList rc.toList
  | v => relC X v u
def relV (X : Emb) (v u : Value) : Prop :=
  match v with
  | .tuple vs => ∃ rs, u = .tuple rs ∧ rel2 (relF X) vs.toList rs.toList
  | v => relF X v u

/-- Blocks stay where they are, or have been made longer. -/
def Evo (X X' : Emb) : Prop := ∀ id bx, X id = some bx → ∃ bx', X' id = some bx' ∧ (bx' = bx ∨ bx.gen < bx'.gen)
theorem Evo.refl (X : Emb) : Evo X X := fun _ bx h => ⟨bx, h, .inl rfl⟩
theorem Evo.trans {X Y Z : Emb} (h : Evo X Y) (k : Evo Y Z) : Evo X Z := fun id bx hx => by
  obtain ⟨by', hy, e⟩ := h id bx hx
  obtain ⟨bz, hz, e'⟩ := k id by' hy
  refine ⟨bz, hz, ?_⟩
  rcases e with rfl | e <;> rcases e' with rfl | e'
  · exact .inl rfl
  · exact .inr e'
  · exact .inr e
  · exact .inr (by omega)
theorem relA.evo {X X' : Emb} {a ra : Addr} (h : relA X a ra) (e : Evo X X') : relA X' a ra := by
  obtain ⟨bx, hx, s, hs, hl, hr⟩ := h
  obtain ⟨bx', hx', e'⟩ := e _ _ hx
  refine ⟨bx', hx', s, hs, ?_⟩
  rcases e' with rfl | e'
  · exact ⟨hl, hr⟩
  · exact ⟨by omega, fun h => by omega⟩
theorem relSl.evo {X X' : Emb} {a ra : Addr} {n e c : Nat} (h : relSl X a n e ra c) (ev : Evo X X') : relSl X' a n e ra c := by
  obtain ⟨hn, hm, bx, hx, s, hs, hl, hr⟩ := h
  obtain ⟨bx', hx', e'⟩ := ev _ _ hx
  refine ⟨hn, hm, bx', hx', s, hs, ?_⟩
  rcases e' with rfl | e'
  · exact ⟨hl, hr⟩
  · exact ⟨by omega, fun h => by omega⟩
theorem relC_sc {X : Emb} {v u : Value} (h : sc v = true) : relC X v u ↔ u = v := by
  unfold relC
  split
  · simp [sc] at h
  · simp [sc] at h
  · simp [h]
theorem relC.evo {X X' : Emb} {v u : Value} (h : relC X v u) (e : Evo X X') : relC X' v u := by
  unfold relC at *
  split
  · obtain ⟨ra, h1, h2⟩ := h; exact ⟨ra, h1, h2.evo e⟩
  · obtain ⟨ra, c, h1, h2⟩ := h; exact ⟨ra, c, h1, h2.evo e⟩
  · rename_i h1 h2
    split at h
    · exact absurd rfl (h1 _)
    · exact absurd rfl (h2 _ _ _)
    · exact h
theorem relF.evo {X X' : Emb} {v u : Value} (h : relF X v u) (e : Evo X X') : relF X' v u := by
  cases v <;> simp only [relF] at * <;> first
    | exact relC.evo h e
    | (obtain ⟨rs, h1, h2⟩ := h; exact ⟨rs, h1, h2.mono fun _ _ _ h => relC.evo h e⟩)
    | (obtain ⟨rf, rc, h1, h2, h3⟩ := h; exact ⟨rf, rc, h1, h2.mono fun _ _ _ h => relC.evo h e, h3.mono fun _ _ _ h => relC.evo h e⟩)
theorem relV.evo {X X' : Emb} {v u : Value} (h : relV X v u) (e : Evo X X') : relV X' v u := by
  cases v <;> simp only [relV] at * <;> first
    | exact relF.evo h e
    | (obtain ⟨rs, h1, h2⟩ := h; exact ⟨rs, h1, h2.mono fun _ _ _ h => relF.evo h e⟩)

/-- One cell's value, as a value. -/
theorem relF_of_relC {X : Emb} {v u : Value} (h : relC X v u) : relF X v u := by
  cases v <;> simp only [relF] <;> try exact h
  · rename_i g fi ca
    simp only [relC, sc] at h
    obtain ⟨h1, rfl⟩ := h
    cases g <;> simp at h1
    obtain ⟨rfl, rfl⟩ := h1
    exact ⟨#[], #[], rfl, rel2.nil, rel2.nil⟩
  · simp [relC, sc] at h
theorem relV_of_relF {X : Emb} {v u : Value} (h : relF X v u) : relV X v u := by
  cases v <;> simp only [relV] <;> try exact h
  simp [relF, relC, sc] at h
theorem relV_of_relC {X : Emb} {v u : Value} (h : relC X v u) : relV X v u := relV_of_relF (relF_of_relC h)
theorem relC_of_relF {X : Emb} {v u : Value} (h : relF X v u) (hc : cellv v = true) : relC X v u := by
  cases v <;> simp only [relF] at h <;> try exact h
  · rename_i g fi ca
    obtain ⟨rf, rc, rfl, h1, h2⟩ := h
    cases g <;> simp [cellv, sc] at hc
    obtain ⟨rfl, rfl⟩ := hc
    have e1 := h1.nil'
    have e2 := h2.nil'
    simp at e1 e2
    subst e1; subst e2
    exact ⟨rfl, rfl⟩
  · simp [cellv, sc] at hc
theorem relC_of_relV {X : Emb} {v u : Value} (h : relV X v u) (hc : cellv v = true) : relC X v u := by
  cases v <;> simp only [relV] at h <;> try exact relC_of_relF h hc
  simp [cellv, sc] at hc
theorem relC_cellv {X : Emb} {v u : Value} (h : relC X v u) : cellv v = true := by
  unfold relC at h
  split at h
  · rfl
  · rfl
  · have := h.1
    unfold cellv
    split <;> first | rfl | exact this
theorem relV_sc {X : Emb} {v u : Value} (h : sc v = true) : relV X v u ↔ u = v := by
  refine ⟨fun hr => (relC_sc h).1 (relC_of_relV hr ?_), fun e => relV_of_relC ((relC_sc h).2 e)⟩
  unfold cellv; split <;> first | rfl | exact h
theorem sc_one {v : Value} (h : sc v = true) : v.oneCell' = true := by cases v <;> first | rfl | simp [sc] at h
theorem relC_one {X : Emb} {v u : Value} (h : relC X v u) : u.oneCell' = true := by
  unfold relC at h
  split at h
  · obtain ⟨ra, rfl, _⟩ := h; rfl
  · obtain ⟨ra, c, rfl, _⟩ := h; rfl
  · rw [h.2]; exact sc_one h.1

/-- The cells of a value. -/
theorem rel_cells {X : Emb} {v u : Value} (h : relV X v u) (hc : (cellsOf v).all cellv = true) : rel2 (relC X) (cellsOf v) u.cells.toList := by
  cases v <;> simp only [relV] at h <;> (try (simp only [cellsOf, List.all_cons, List.all_nil, Bool.and_true] at hc; have hr := relC_of_relF h hc; have h1 := relC_one hr; have e : u.cells.toList = [u] := by cases u <;> first | rfl | simp [Value.oneCell'] at h1)) <;> try (simp only [cellsOf]; rw [e]; exact rel2.nil.cons hr |> fun h => h)
  · simp only [relF] at h
    obtain ⟨rs, rfl, h2⟩ := h
    exact h2
  · simp only [cellsOf, List.all_cons, List.all_nil, Bool.and_true] at hc
    simp [cellv, sc] at hc

/-- The state stands for the world. -/
structure Sim (w0 : World) (X : Emb) (σ : St) (w : World) : Prop where
  bel : Below w0.heap.size w0 w
  dom : ∀ id bx, X id = some bx → id < σ.heap.length
  place : ∀ id bx, X id = some bx → bx.b < w.heap.size ∧ (if bx.own then w0.heap.size ≤ bx.b else bx.b < w0.heap.size)
  cell : ∀ id bx g pl cs, X id = some bx → id ∉ σ.hid → σ.heap[id]? = some (.cells g pl cs) →
    g = bx.gen ∧ cs.length = bx.known ∧ g ≤ cs.length ∧ (pl = true → cs.all sc = true) ∧
    (∀ j v, cs[j]? = some v → ∃ u, w.cell? ⟨bx.b, bx.o + j, none⟩ = some u ∧ relC X v u) ∧
    (bx.own = true → bx.o = 0 ∧ ∃ rs ty lo hi, w.heap[bx.b]? = some (.cells rs ty (lo, hi)) ∧ rs.size = bx.size ∧ bx.known ≤ bx.size ∧ (hi = lo ∨ bx.size ≤ lo))
  inj : ∀ i j bi bj, X i = some bi → X j = some bj → bi.own = true → bj.own = true → bi.b = bj.b → i = j
  lock : ∀ id bx, X id = some bx → σ.lock ≤ id → bx.own = true
  zero : ∀ id bx, X id = some bx → bx.known = 0 → bx.size = 0

/-- What a step may do to the world. -/
structure Stp (X : Emb) (σ : St) (w : World) (X' : Emb) (w' : World) : Prop where
  size : w.heap.size ≤ w'.heap.size
  os : w'.os = w.os
  tape : w'.tape = w.tape
  output : w'.output = w.output
  frame : ∀ k, k < w.heap.size → (∀ id bx, X id = some bx → σ.lock ≤ id → id ∉ σ.hid → bx.own = true → bx.b ≠ k) → w'.heap[k]? = w.heap[k]?
  evo : Evo X X'
  same : ∀ id bx bx', X id = some bx → X' id = some bx' → bx' = bx ∨ (σ.lock ≤ id ∧ id ∉ σ.hid)
  back : ∀ id bx', X' id = some bx' → (∃ bx, X id = some bx ∧ bx'.own = bx.own ∧ (bx'.b = bx.b ∨ w.heap.size ≤ bx'.b)) ∨ (X id = none ∧ bx'.own = true ∧ w.heap.size ≤ bx'.b ∧ σ.heap.length ≤ id)

/-- What a step may do to the state. -/
structure Ast (σ σ' : St) : Prop where
  len : σ.heap.length ≤ σ'.heap.length
  lock : σ'.lock = σ.lock
  hid : σ'.hid = σ.hid
  dirty : ∀ t, t ∈ σ.dirty → t ∈ σ'.dirty
  refs : ∀ id, id < σ.heap.length → id ∉ σ'.dirty → ∀ r, r ∈ refsAt σ'.heap id → r ∈ refsAt σ.heap id
  fix : ∀ id, id < σ.heap.length → id < σ.lock ∨ id ∈ σ.hid → σ'.heap[id]? = σ.heap[id]?
  dlow : ∀ t, t ∈ σ'.dirty → t ∈ σ.dirty ∨ (σ.lock ≤ t ∧ t ∉ σ.hid)

theorem Ast.refl (σ : St) : Ast σ σ := ⟨Nat.le_refl _, rfl, rfl, fun _ h => h, fun _ _ _ _ h => h, fun _ _ _ => rfl, fun _ h => .inl h⟩
theorem Ast.trans {a b c : St} (h : Ast a b) (k : Ast b c) : Ast a c where
  len := Nat.le_trans h.len k.len
  lock := k.lock.trans h.lock
  hid := k.hid.trans h.hid
  dirty := fun t ht => k.dirty t (h.dirty t ht)
  refs := fun id hi hd r hr => h.refs id hi (fun hb => hd (k.dirty id hb)) r (k.refs id (Nat.lt_of_lt_of_le hi h.len) hd r hr)
  fix := fun id hi hl => by rw [k.fix id (Nat.lt_of_lt_of_le hi h.len) (by rw [h.lock, h.hid]; exact hl), h.fix id hi hl]
  dlow := fun t ht => by
    rcases k.dlow t ht with h1 | h1
    · exact h.dlow t h1
    · rw [h.lock, h.hid] at h1; exact .inr h1

theorem Stp.refl (X : Emb) (σ : St) (w : World) : Stp X σ w X w where
  size := Nat.le_refl _
  os := rfl
  tape := rfl
  output := rfl
  frame := fun _ _ _ => rfl
  evo := Evo.refl X
  same := fun id bx bx' h h' => by rw [h] at h'; cases h'; exact .inl rfl
  back := fun id bx' h => .inl ⟨bx', h, rfl, .inl rfl⟩
theorem Stp.trans {X Y Z : Emb} {σ τ : St} {u v w : World} (h : Stp X σ u Y v) (a : Ast σ τ) (k : Stp Y τ v Z w) : Stp X σ u Z w where
  size := Nat.le_trans h.size k.size
  os := k.os.trans h.os
  tape := k.tape.trans h.tape
  output := k.output.trans h.output
  frame := fun b hb hx => by
    rw [k.frame b (Nat.lt_of_lt_of_le hb h.size) fun id bx' hy hl hh ho e => ?_, h.frame b hb hx]
    rw [a.lock] at hl
    rw [a.hid] at hh
    rcases h.back id bx' hy with ⟨bx, h1, h2, h3⟩ | ⟨_, _, h3, _⟩
    · rcases h3 with h3 | h3
      · exact hx id bx h1 hl hh (by rw [← h2]; exact ho) (by rw [← h3]; exact e)
      · omega
    · omega
  evo := h.evo.trans k.evo
  same := fun id bx bz hx hz => by
    obtain ⟨by', hy, _⟩ := h.evo id bx hx
    rcases h.same id bx by' hx hy with rfl | h1
    · rcases k.same id by' bz hy hz with rfl | h2
      · exact .inl rfl
      · rw [a.lock, a.hid] at h2; exact .inr h2
    · exact .inr h1
  back := fun id bz hz => by
    rcases k.back id bz hz with ⟨by', h1, h2, h3⟩ | ⟨h1, h2, h3, h4⟩
    · rcases h.back id by' h1 with ⟨bx, g1, g2, g3⟩ | ⟨g1, g2, g3, g4⟩
      · refine .inl ⟨bx, g1, h2.trans g2, ?_⟩
        rcases h3 with h3 | h3
        · rw [h3]; exact g3
        · exact .inr (Nat.le_trans h.size h3)
      · refine .inr ⟨g1, h2.trans g2, ?_, g4⟩
        rcases h3 with h3 | h3
        · rw [h3]; exact g3
        · exact Nat.le_trans h.size h3
    · cases hx : X id with
      | none => exact .inr ⟨rfl, h2, Nat.le_trans h.size h3, Nat.le_trans a.len h4⟩
      | some bx =>
        obtain ⟨by', hy, _⟩ := h.evo id bx hx
        rw [hy] at h1; cases h1

end AM
end Go.Proofs.Ytfefeikkjebfoaa
