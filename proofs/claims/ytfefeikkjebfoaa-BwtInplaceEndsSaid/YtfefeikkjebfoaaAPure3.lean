/-
  THE ABSTRACT MACHINE's PURE OPERATIONS: literals, lengths, least and greatest. Conditions: none.
-/
import Derived.Test.YtfefeikkjebfoaaAEq
namespace Go.Proofs.Ytfefeikkjebfoaa
namespace AM
open Go Go.RowKit

section
variable {P : Program} {X : Emb} {fr : Fr} {a : Act} {o : Oper} {v : Value}

theorem foldl_zipIdx (off : Nat) : ∀ (l : List Value) (k : Nat) (cs : Array Value), ((l.zipIdx k).foldl (fun cs (p : Value × Nat) => cs.setIfInBounds (off + p.2) p.1) cs).toList = putAt cs.toList (off + k) l
  | [], k, cs => rfl
  | x :: l, k, cs => by
    simp only [List.zipIdx_cons, List.foldl_cons, putAt]
    rw [foldl_zipIdx off l (k + 1)]
    simp [Nat.add_assoc]
theorem foldl_cells (off : Nat) (l cs : Array Value) : (l.zipIdx.foldl (fun cs (p : Value × Nat) => cs.setIfInBounds (off + p.2) p.1) cs).toList = putAt cs.toList off l.toList := by
  have := foldl_zipIdx off l.toList 0 cs
  rw [← Array.toList_zipIdx, Array.foldl_toList] at this
  simpa using this
theorem putAt_length : ∀ (vs cs : List Value) (off : Nat), (putAt cs off vs).length = cs.length
  | [], _, _ => rfl
  | v :: vs, cs, off => by rw [putAt, putAt_length]; simp

theorem fill_rel {pl place : Nat → Option (Nat × Nat)} (hp : ∀ i q, pl i = some q → place i = some q) : ∀ (ps : List (Nat × Operand)) (ps' : List (Nat × Nat × Operand)) (vals : List (Nat × Nat × Value)) (cs0 cs : List Value) (rs0 : Array Value),
    (∀ q ∈ ps, ∀ v, ev fr q.2 = some v → relV X v (a.eval q.2)) → compPs pl ps = some ps' → evps fr ps' = some vals → fill cs0 vals = some cs → rel2 (relC X) cs0 rs0.toList →
    ∃ rs, Instr.fill place rs0 (ps.map fun q => (q.1, a.eval q.2)) = some rs ∧ rel2 (relC X) cs rs.toList
  | [], ps', vals, cs0, cs, rs0, _, h1, h2, h3, hr => by
    simp only [compPs, Option.some.injEq] at h1
    subst h1
    simp only [evps, Option.some.injEq] at h2
    subst h2
    simp only [fill, Option.some.injEq] at h3
    subst h3
    exact ⟨rs0, rfl, hr⟩
  | (i, x) :: ps, ps', vals, cs0, cs, rs0, hx, h1, h2, h3, hr => by
    simp only [compPs, Option.bind_eq_some_iff, Option.map_eq_some_iff] at h1
    obtain ⟨⟨off, size⟩, hq, r, hr1, rfl⟩ := h1
    simp only [evps, Option.bind_eq_some_iff, Option.map_eq_some_iff] at h2
    obtain ⟨v, hv, vs, hvs, rfl⟩ := h2
    simp only [fill] at h3
    split at h3
    · rename_i hc
      simp only [Bool.and_eq_true, decide_eq_true_eq] at hc
      have hrel := hx (i, x) (by simp) v hv
      have hcells := rel_cells hrel hc.2
      have hl : (a.eval x).cells.size = size := by rw [← hc.1.1, hcells.1]; simp
      have hput : rel2 (relC X) (putAt cs0 off (cellsOf v)) ((a.eval x).cells.zipIdx.foldl (fun cs (p : Value × Nat) => cs.setIfInBounds (off + p.2) p.1) rs0).toList := by
        rw [foldl_cells]
        exact hr.putAt off hcells
      obtain ⟨rs, e1, e2⟩ := fill_rel hp ps r vs _ cs _ (fun q hq => hx q (by simp [hq])) hr1 hvs h3 hput
      refine ⟨rs, ?_, e2⟩
      have hle : rs0.size = cs0.length := by rw [hr.1]; simp
      simp only [List.map_cons, Instr.fill, hp _ _ hq]
      rw [if_neg (by simp [hl]; omega)]
      exact e1
    · cases h3
theorem run_zero {t : TypeId} {zs : List Value} (h : zeroTy P t = some zs) (w : World) : ∃ z, (zeroValue t).run P w = .ok z w ∧ z.cells.toList = zs ∧ (∀ v ∈ zs, sc v = true) ∧ sizeTy P t = some zs.length := by
  unfold zeroTy at h
  cases hi : P.info? t with
  | none => rw [hi] at h; cases h
  | some i =>
    rw [hi] at h
    cases hz : i.zero with
    | none => simp [hz] at h
    | some z =>
      simp only [hz] at h
      split at h
      · rename_i hc
        cases h
        simp only [Bool.and_eq_true, decide_eq_true_eq] at hc
        exact ⟨z, by simp [zeroValue, typeInfo, hi, hz], rfl, fun v hv => List.all_eq_true.1 hc.2 v hv, by simp [sizeTy, hi, hc.1]⟩
      · cases h
theorem rel2_sc_refl {xs : List Value} (h : ∀ v ∈ xs, sc v = true) : rel2 (relC X) xs xs := rel2.refl fun v hv => (relC_sc (h v hv)).2 rfl

theorem run_mapM_list {α : Type} {f : α → Sem (Nat × Nat)} {g : α → Nat × Nat} {w : World} : ∀ (l : List α), (∀ x ∈ l, (f x).run P w = .ok (g x) w) → (l.mapM f).run P w = .ok (l.map g) w
  | [], _ => by simp
  | x :: l, h => by
    rw [List.mapM_cons]
    simp [h x (by simp), run_mapM_list l fun y hy => h y (by simp [hy])]
theorem build_gives {t : TypeId} {ps : Array (Nat × Operand)} {zs : List Value} {pl : Nat → Option (Nat × Nat)} {ps' : List (Nat × Nat × Operand)} (ho : o.op = .build t ps) (hz : zeroTy P t = some zs) (hpl : placesTy P t = some pl) (hps : compPs pl ps.toList = some ps')
    (hx : ∀ q ∈ ps.toList, ∀ v, ev fr q.2 = some v → relV X v (a.eval q.2)) (h : pval (.build zs ps') fr = some v) (w : World) : Gives P o a w X v := by
  simp only [pval, Option.bind_eq_some_iff, Option.map_eq_some_iff] at h
  obtain ⟨vals, hv, cs, hc, rfl⟩ := h
  obtain ⟨z, hz1, hz2, hz3, _⟩ := run_zero hz w
  have hfill := fun place hp => fill_rel (X := X) (a := a) (place := place) hp ps.toList ps' vals zs cs z.cells hx hps hv hc (by rw [hz2]; exact rel2_sc_refl hz3)
  unfold placesTy at hpl
  split at hpl
  · rename_i fs ht
    split at hpl
    · rename_i hall
      cases hpl
      have hmap : (fs.mapM fun f => (do pure (f.offset, ← sizeOf f.type) : Sem (Nat × Nat))).run P w = .ok (fs.map fun f => (f.offset, (sizeTy P f.type).getD 0)) w := by
        rw [Array.mapM_eq_mapM_toList]
        have := run_mapM_list (P := P) (w := w) (f := fun f => (do pure (f.offset, ← sizeOf f.type) : Sem (Nat × Nat))) (g := fun f : Field => (f.offset, (sizeTy P f.type).getD 0)) fs.toList (fun f hf => by
          have hs := List.all_eq_true.1 hall f hf
          obtain ⟨s, hs⟩ := Option.isSome_iff_exists.1 hs
          simp [run_size hs, hs])
        rw [map_eq_pure_bind, Sem.run_bind, this]
        simp only [Result.andThen_ok, Sem.run_pure]
        congr 1
        apply Array.toList_inj.1
        simp
      obtain ⟨rs, e1, e2⟩ := hfill ((fs.map fun f => (f.offset, (sizeTy P f.type).getD 0))[·]?) (fun i q hq => by
        simp only [Option.bind_eq_some_iff, Option.map_eq_some_iff] at hq
        obtain ⟨f, hf, s, hs, rfl⟩ := hq
        simp [hf, hs])
      refine ⟨.agg rs, ?_, ⟨rs, rfl, e2⟩⟩
      have e1' : Instr.fill (fun x => (fs.map fun f => (f.offset, (sizeTy P f.type).getD 0))[x]?) z.cells (ps.map fun x => (x.1, a.eval x.2)).toList = some rs := by simpa using e1
      simp only [execOp, ho, Instr.build, Sem.run_bind, hz1, Result.andThen_ok, run_under ht, hmap, e1', Sem.run_pure]
    · cases hpl
  · rename_i n e ht
    simp only [Option.map_eq_some_iff] at hpl
    obtain ⟨s, hs, rfl⟩ := hpl
    obtain ⟨rs, e1, e2⟩ := hfill (fun i => some (i * s, s)) (fun i q hq => hq)
    refine ⟨.agg rs, ?_, ⟨rs, rfl, e2⟩⟩
    have e1' : Instr.fill (fun i => some (i * s, s)) z.cells (ps.map fun x => (x.1, a.eval x.2)).toList = some rs := by simpa using e1
    simp only [execOp, ho, Instr.build, Sem.run_bind, hz1, Result.andThen_ok, run_under ht, run_size hs, e1', Sem.run_pure]
  · cases hpl

theorem run_builtin {c : Call} {b : Builtin} (ho : o.op = .call c) (hb : c.callee = .builtin b) (w : World) :
    ∃ cs, (execOp a.eval o).run P w = (builtin b c.argTypes o.type cs (c.args.map a.eval)).run P w := by
  simp only [execOp, ho, resolve, hb, Sem.run_bind, Sem.run_pure, Result.andThen_ok, invoke]
  exact ⟨_, rfl⟩
theorem args_one {c : Call} {x : Operand} (h : c.args.toList = [x]) : c.args = #[x] := by apply Array.toList_inj.1; simpa using h
theorem args_two {c : Call} {x y : Operand} (h : c.args.toList = [x, y]) : c.args = #[x, y] := by apply Array.toList_inj.1; simpa using h
theorem types_one {c : Call} {x : TypeId} (h : c.argTypes.toList = [x]) : c.argTypes = #[x] := by apply Array.toList_inj.1; simpa using h
theorem types_two {c : Call} {x y : TypeId} (h : c.argTypes.toList = [x, y]) : c.argTypes = #[x, y] := by apply Array.toList_inj.1; simpa using h
theorem len_gives {c : Call} {x : Operand} {t e : TypeId} (ho : o.op = .call c) (hb : c.callee = .builtin .len) (hc : c.args.toList = [x]) (ht : c.argTypes.toList = [t]) (hu : P.underlying t = some (.slice e))
    (hx : ∀ v, ev fr x = some v → relV X v (a.eval x)) (h : pval (.len x) fr = some v) (w : World) : Gives P o a w X v := by
  simp only [pval] at h
  unfold Gives
  obtain ⟨ks, hks⟩ := run_builtin (P := P) (a := a) ho hb w
  rw [hks, args_one hc, types_one ht]
  split at h
  · rename_i p n e he
    cases h
    have hr := hx _ he
    obtain ⟨q, c', e1⟩ : ∃ q c', a.eval x = .slice q n c' := by
      cases p with
      | none => have hr' : relC X (.slice none n e) (a.eval x) := hr; exact ⟨none, e, hr'.2⟩
      | some b => obtain ⟨ra, c', e1, _⟩ := relV_slice hr; exact ⟨_, _, e1⟩
    exact ⟨.int .i64 n, by simp [builtin, Builtin.len_, e1, run_under hu, goInt], relV_int_mk _ _⟩
  · cases h
theorem lens_gives {c : Call} {x : Operand} {t : TypeId} (ho : o.op = .call c) (hb : c.callee = .builtin .len) (hc : c.args.toList = [x]) (ht : c.argTypes.toList = [t]) (hu : P.underlying t = some .string)
    (hx : ∀ v, ev fr x = some v → relV X v (a.eval x)) (h : pval (.lens x) fr = some v) (w : World) : Gives P o a w X v := by
  simp only [pval] at h
  unfold Gives
  obtain ⟨ks, hks⟩ := run_builtin (P := P) (a := a) ho hb w
  rw [hks, args_one hc, types_one ht]
  split at h
  · rename_i s he
    cases h
    have e1 := relV_string (hx _ he)
    exact ⟨.int .i64 s.size, by simp [builtin, Builtin.len_, e1, run_under hu, goInt], relV_int_mk _ _⟩
  · cases h
theorem lena_gives {c : Call} {x : Operand} {t e : TypeId} {n : Nat} (ho : o.op = .call c) (hb : c.callee = .builtin .len) (hc : c.args.toList = [x]) (ht : c.argTypes.toList = [t]) (hu : P.underlying t = some (.array n e))
    (h : pval (.lena n) fr = some v) (w : World) : Gives P o a w X v := by
  simp only [pval, Option.some.injEq] at h
  subst h
  unfold Gives
  obtain ⟨ks, hks⟩ := run_builtin (P := P) (a := a) ho hb w
  rw [hks, args_one hc, types_one ht]
  refine ⟨.int .i64 n, ?_, relV_int_mk _ _⟩
  simp only [List.map_toArray, List.map_cons, List.map_nil, builtin, Builtin.len_]
  simp only [Sem.run_bind, List.getElem?_toArray, List.getElem?_cons_zero, run_under hu, Result.andThen_ok]
  generalize a.eval x = q
  cases q <;> rfl
theorem cap_gives {c : Call} {x : Operand} {t e : TypeId} (ho : o.op = .call c) (hb : c.callee = .builtin .cap) (hc : c.args.toList = [x]) (ht : c.argTypes.toList = [t]) (hu : P.underlying t = some (.slice e))
    (hx : ∀ v, ev fr x = some v → relV X v (a.eval x)) (h : pval (.cap x) fr = some v) (w : World) : Gives P o a w X v := by
  simp only [pval] at h
  unfold Gives
  obtain ⟨ks, hks⟩ := run_builtin (P := P) (a := a) ho hb w
  rw [hks, args_one hc, types_one ht]
  split at h
  · rename_i he
    cases h
    have e1 := relV_nilslice (hx _ he)
    exact ⟨.int .i64 0, by simp [builtin, Builtin.cap_, e1, run_under hu, goInt], relV_int_mk _ _⟩
  · cases h
theorem mm2_int {mx : Bool} {p q r : Value} (h : mm2 mx p q = some r) : ∃ k n, p = .int k n ∧ ∃ m, q = .int k m ∧ ∃ l, r = .int k l := by
  unfold mm2 at h
  split at h
  · split at h
    · rename_i hk
      subst hk
      cases h
      exact ⟨_, _, rfl, _, rfl, _, rfl⟩
    · cases h
  · cases h
theorem mm2_run {mx : Bool} {p q r : Value} (h : mm2 mx p q = some r) (w : World) : (if mx then Builtin.max2 p q else Builtin.min2 p q).run P w = .ok r w := by
  unfold mm2 at h
  split at h
  · split at h
    · rename_i hk
      subst hk
      cases h
      cases mx <;> simp [Builtin.max2, Builtin.min2]
    · cases h
  · cases h
theorem mmf_run {mx : Bool} : ∀ (l : List Value) (p r : Value), mmf mx p l = some r → ∀ w, (l.foldlM (if mx then Builtin.max2 else Builtin.min2) p).run P w = .ok r w
  | [], p, r, h, w => by simp only [mmf, Option.some.injEq] at h; subst h; simp
  | q :: l, p, r, h, w => by
    simp only [mmf, Option.bind_eq_some_iff] at h
    obtain ⟨u, hu, h⟩ := h
    have h1 := mm2_run (P := P) hu w
    have h2 := mmf_run l u r h w
    rw [List.foldlM_cons]
    cases mx <;> simp_all
theorem mmf_int {mx : Bool} : ∀ (l : List Value) (p r : Value), mmf mx p l = some r → l ≠ [] → (∃ k n, p = .int k n) ∧ (∀ q ∈ l, ∃ k n, q = .int k n) ∧ ∃ k n, r = .int k n
  | [], p, r, _, h0 => absurd rfl h0
  | q :: l, p, r, h, _ => by
    simp only [mmf, Option.bind_eq_some_iff] at h
    obtain ⟨u, hu, h⟩ := h
    obtain ⟨k, n, rfl, m, rfl, j, rfl⟩ := mm2_int hu
    refine ⟨⟨_, _, rfl⟩, fun q hq => ?_, ?_⟩
    · rcases List.mem_cons.1 hq with rfl | hq
      · exact ⟨_, _, rfl⟩
      · cases l with
        | nil => cases hq
        | cons y l => exact (mmf_int (y :: l) _ r h (by simp)).2.1 q hq
    · cases l with
      | nil => simp only [mmf, Option.some.injEq] at h; exact ⟨k, j, h.symm⟩
      | cons y l => exact (mmf_int (y :: l) _ r h (by simp)).2.2
theorem evs_ints : ∀ {xs : List Operand} {vs : List Value}, (∀ x ∈ xs, ∀ v, ev fr x = some v → relV X v (a.eval x)) → evs fr xs = some vs → (∀ q ∈ vs, ∃ k n, q = Value.int k n) → xs.map a.eval = vs := by
  intro xs vs hx h hi
  have hr := evs_rel hx h
  clear h hx
  induction xs generalizing vs with
  | nil => have := hr.1; simp at this; simp [this]
  | cons x xs ih =>
    cases vs with
    | nil => have := hr.1; simp at this
    | cons q vs =>
      simp only [List.map_cons] at hr ⊢
      obtain ⟨u, m, e, h1, h2⟩ := hr.head
      cases e
      obtain ⟨k, n, rfl⟩ := hi q (by simp)
      rw [relV_int h1, ih (fun q hq => hi q (by simp [hq])) h2]
theorem mm_gives {c : Call} {mx : Bool} (ho : o.op = .call c) (hb : c.callee = .builtin (if mx then .max else .min))
    (hx : ∀ x ∈ c.args.toList, ∀ v, ev fr x = some v → relV X v (a.eval x)) (h : pval (.mm mx c.args.toList) fr = some v) (w : World) : Gives P o a w X v := by
  simp only [pval, Option.bind_eq_some_iff] at h
  obtain ⟨vs, hv, h⟩ := h
  unfold Gives
  obtain ⟨ks, hks⟩ := run_builtin (P := P) (a := a) ho hb w
  rw [hks]
  cases vs with
  | nil => cases h
  | cons p l =>
    have hall : l ≠ [] → (∃ k n, v = Value.int k n) ∧ c.args.toList.map a.eval = p :: l := fun h0 => by
      obtain ⟨g1, g2, g3⟩ := mmf_int l p v h h0
      exact ⟨g3, evs_ints hx hv fun q hq => by
        rcases List.mem_cons.1 hq with rfl | hq
        · exact g1
        · exact g2 q hq⟩
    cases l with
    | nil =>
      simp only [mmf, Option.some.injEq] at h
      subst h
      have hr := evs_rel hx hv
      obtain ⟨u, m, e1, h1, h2⟩ := hr.head
      have := h2.nil'
      subst this
      refine ⟨u, ?_, h1⟩
      cases mx <;> simp [builtin, Builtin.max_, Builtin.min_, e1]
    | cons y l =>
      obtain ⟨⟨k, n, rfl⟩, e⟩ := hall (by simp)
      refine ⟨.int k n, ?_, relV_int_mk _ _⟩
      have hrun := mmf_run (P := P) (y :: l) p _ h w
      cases mx <;> (simp only [if_true, Bool.false_eq_true, if_false] at hrun; simp only [builtin, Builtin.max_, Builtin.min_, Array.toList_map, e, Sem.run_bind, Bool.false_eq_true, if_false, if_true, hrun, Result.andThen_ok, Sem.run_pure])
end
end AM
end Go.Proofs.Ytfefeikkjebfoaa
