/-
  COLLECTING: blocks that nobody can see any more are left out of the state; it goes on standing for the world. Conditions: what is not marked as written holds no new references.
-/
import Derived.Test.YtfefeikkjebfoaaAOps
namespace Go.Proofs.Ytfefeikkjebfoaa
namespace AM
open Go Go.RowKit

theorem nodupB_iff : ∀ {l : List Nat}, nodupB l = true → l.Nodup
  | [], _ => List.nodup_nil
  | r :: l, h => by
    simp only [nodupB, Bool.and_eq_true, Bool.not_eq_true', List.contains_eq_mem, decide_eq_false_iff_not] at h
    exact List.nodup_cons.2 ⟨h.1, nodupB_iff h.2⟩
theorem renAll_length (f : Nat → Nat) : ∀ (l : List Nat) (h : List Blk), (renAll f l h).length = h.length
  | [], _ => rfl
  | t :: l, h => by rw [renAll, renAll_length]; simp
theorem renAll_not (f : Nat → Nat) : ∀ (l : List Nat) (h : List Blk) (i : Nat), i ∉ l → (renAll f l h)[i]? = h[i]?
  | [], _, _, _ => rfl
  | t :: l, h, i, hi => by
    simp only [List.mem_cons, not_or] at hi
    rw [renAll, renAll_not f l _ i hi.2, List.getElem?_modify]
    have : ¬ t = i := fun e => hi.1 e.symm
    simp [this]
theorem renAll_mem (f : Nat → Nat) : ∀ (l : List Nat) (h : List Blk) (i : Nat), l.Nodup → i ∈ l → (renAll f l h)[i]? = h[i]?.map (renB f)
  | [], _, _, _, hi => by cases hi
  | t :: l, h, i, hn, hi => by
    obtain ⟨h1, h2⟩ := List.nodup_cons.1 hn
    rcases List.mem_cons.1 hi with rfl | hi
    · rw [renAll, renAll_not f l _ i h1, List.getElem?_modify]
      simp
    · rw [renAll, renAll_mem f l _ i h2 hi, List.getElem?_modify]
      have : ¬ t = i := fun e => h1 (by rw [e]; exact hi)
      simp [this]

section
variable {X : Emb} {base : Nat} {keep : List Nat}
def renF' (base : Nat) (keep : List Nat) (id : Nat) : Nat := if id < base then id else base + keep.idxOf id
def renX (X : Emb) (base : Nat) (keep : List Nat) : Emb := fun id => if id < base then X id else (keep[id - base]?).bind X
def okR (base : Nat) (keep : List Nat) (r : Nat) : Prop := r < base ∨ r ∈ keep
theorem renX_ok {r : Nat} (h : okR base keep r) : renX X base keep (renF' base keep r) = X r := by
  unfold renX renF'
  by_cases hr : r < base
  · simp [hr]
  · have hk := h.resolve_left hr
    have hi := List.idxOf_lt_length_of_mem hk
    rw [if_neg hr, if_neg (by omega), Nat.add_sub_cancel_left, List.getElem?_eq_getElem hi]
    simp
theorem renC_sc {f : Nat → Nat} {v : Value} (h : sc v = true) : renC f v = v := by
  unfold renC
  split <;> first | rfl | simp [sc] at h
theorem relC_ren {v u : Value} (h : relC X v u) (ho : ∀ r ∈ refsC v, okR base keep r) : relC (renX X base keep) (renC (renF' base keep) v) u := by
  unfold relC at h
  split at h
  · rename_i a
    obtain ⟨ra, h1, bx, h2, h3⟩ := h
    exact ⟨ra, h1, bx, (renX_ok (ho a.block (by simp [refsC]))).trans h2, h3⟩
  · rename_i a n e
    obtain ⟨ra, c, h1, h2, h3, bx, h4, h5⟩ := h
    exact ⟨ra, c, h1, h2, h3, bx, (renX_ok (ho a.block (by simp [refsC]))).trans h4, h5⟩
  · obtain ⟨h1, rfl⟩ := h
    rw [renC_sc h1]
    exact (relC_sc h1).2 rfl
theorem rel2_ren {l m : List Value} (h : rel2 (relC X) l m) (ho : ∀ r ∈ l.flatMap refsC, okR base keep r) : rel2 (relC (renX X base keep)) (l.map (renC (renF' base keep))) m :=
  ⟨by simp [h.1], fun i v u hv hu => by
    rw [List.getElem?_map, Option.map_eq_some_iff] at hv
    obtain ⟨q, hq, rfl⟩ := hv
    exact relC_ren (h.2 i q u hq hu) fun r hr => ho r (List.mem_flatMap.2 ⟨q, List.mem_of_getElem? hq, hr⟩)⟩
theorem relF_ren {v u : Value} (h : relF X v u) (ho : ∀ r ∈ refsF v, okR base keep r) : relF (renX X base keep) (renF (renF' base keep) v) u := by
  cases v <;> simp only [relF] at h <;> first
    | (have hr := relC_ren h ho
       exact relF_of_relC hr)
    | (obtain ⟨rs, rfl, h2⟩ := h; exact ⟨rs, rfl, rel2_ren h2 ho⟩)
    | (obtain ⟨rf, rc, rfl, h2, h3⟩ := h
       exact ⟨rf, rc, rfl, rel2_ren h2 (fun r hr => ho r (List.mem_append.2 (.inl hr))), rel2_ren h3 (fun r hr => ho r (List.mem_append.2 (.inr hr)))⟩)
theorem relV_ren {v u : Value} (h : relV X v u) (ho : ∀ r ∈ refs v, okR base keep r) : relV (renX X base keep) (ren (renF' base keep) v) u := by
  cases v <;> simp only [relV] at h <;> first
    | (have hr := relF_ren h ho
       exact relV_of_relF hr)
    | (obtain ⟨rs, rfl, h2⟩ := h
       refine ⟨rs, rfl, by simpa using h2.1, fun i q u hq hu => ?_⟩
       rw [List.getElem?_map, Option.map_eq_some_iff] at hq
       obtain ⟨p, hp, rfl⟩ := hq
       exact relF_ren (h2.2 i p u hp hu) fun r hr => ho r (List.mem_flatMap.2 ⟨p, List.mem_of_getElem? hp, hr⟩))
/-- What refers only to old blocks stays as it is. -/
theorem relC_old {v u : Value} (h : relC X v u) (ho : ∀ r ∈ refsC v, r < base) : relC (renX X base keep) v u := by
  have h1 := relC_ren (keep := keep) h fun r hr => .inl (ho r hr)
  have : renC (renF' base keep) v = v := by
    unfold renC
    split
    · rename_i a; simp [renF', ho a.block (by simp [refsC])]
    · rename_i a n e; simp [renF', ho a.block (by simp [refsC])]
    · rename_i r; simp [renF', ho r (by simp [refsC])]
    · rfl
  rwa [this] at h1
end

/-- What collecting leaves. -/
structure Gcd (w0 : World) (base : Nat) (X : Emb) (σ : St) (w : World) (vs vs' : List Value) (σ' : St) (X' : Emb) : Prop where
  sim : Sim w0 X' σ' w
  low : ∀ id, id < base → X' id = X id
  high : ∀ id bx, base ≤ id → X' id = some bx → ∃ id0, base ≤ id0 ∧ X id0 = some bx
  vals : vs'.length = vs.length ∧ ∀ (i : Nat) (v v' u : Value), vs[i]? = some v → vs'[i]? = some v' → relV X v u → relV X' v' u
  lock : σ'.lock = σ.lock
  hid : σ'.hid = σ.hid
  len : base ≤ σ.heap.length → base ≤ σ'.heap.length
  dirty : ∀ t, t < base → (t ∈ σ'.dirty ↔ t ∈ σ.dirty)
  dlow : ∀ t, t ∈ σ'.dirty → t ∈ σ.dirty
  keep : ∀ id, id < base → id ∉ σ.dirty → σ'.heap[id]? = σ.heap[id]?

theorem gc_sound {w0 w : World} {X : Emb} {σ σ' : St} {base : Nat} {vs vs' : List Value} (S : Sim w0 X σ w) (hh : ∀ t ∈ σ.hid, t < base) (hlk : σ.lock ≤ base) (hD : ∀ id bx, id < base → X id = some bx → id ∉ σ.hid → id ∉ σ.dirty → ∀ r ∈ refsAt σ.heap id, r < base)
    (h : gc base vs σ = some (vs', σ')) : ∃ X', Gcd w0 base X σ w vs vs' σ' X' := by
  have key : ∀ keep : List Nat, base < σ.heap.length → keep.Nodup → (∀ r ∈ keep, base ≤ r ∧ r < σ.heap.length ∧ ∀ q ∈ refsAt σ.heap r, okR base keep q) → (σ.dirty.filter (· < base)).Nodup → (∀ t ∈ σ.dirty.filter (· < base), ∀ q ∈ refsAt σ.heap t, okR base keep q) →
      ∀ h' : List Blk, (∀ i, i < base → h'[i]? = if i ∈ σ.dirty then (σ.heap[i]?).map (renB (renF' base keep)) else σ.heap[i]?) → (∀ i, base ≤ i → h'[i]? = (keep[i - base]?).map fun r => renB (renF' base keep) (σ.heap.getD r default)) →
      Sim w0 (renX X base keep) { σ with heap := h', dirty := σ.dirty.filter (· < base) } w := by
    intro keep hlt hnd hk hnd2 hok h' hlow hhigh
    have hX : ∀ id bx, renX X base keep id = some bx → (id < base ∧ X id = some bx) ∨ (base ≤ id ∧ ∃ r, keep[id - base]? = some r ∧ X r = some bx) := by
      intro id bx hx
      unfold renX at hx
      split at hx
      · rename_i hi; exact .inl ⟨hi, hx⟩
      · rename_i hi
        simp only [Option.bind_eq_some_iff] at hx
        obtain ⟨r, h1, h2⟩ := hx
        exact .inr ⟨by omega, r, h1, h2⟩
    refine ⟨S.bel, ?_, ?_, ?_, ?_, ?_, fun id bx hx => by
      rcases hX id bx hx with ⟨_, hx⟩ | ⟨_, r, _, hx⟩
      · exact S.zero id bx hx
      · exact S.zero r bx hx⟩
    · intro id bx hx
      rcases Nat.lt_or_ge id h'.length with h1 | h1
      · exact h1
      · exfalso
        have hn := List.getElem?_eq_none h1
        rcases hX id bx hx with ⟨hi, hx⟩ | ⟨hi, r, hr, hx⟩
        · rw [hlow id hi, List.getElem?_eq_getElem (S.dom id bx hx)] at hn
          split at hn <;> simp at hn
        · rw [hhigh id hi, hr] at hn; simp at hn
    · intro id bx hx
      rcases hX id bx hx with ⟨hi, hx⟩ | ⟨hi, r, hr, hx⟩
      · exact S.place id bx hx
      · exact S.place r bx hx
    · intro id bx g pl cs hx hhid hc
      simp only at hhid hc
      rcases hX id bx hx with ⟨hi, hx⟩ | ⟨hi, r, hr, hx⟩
      · rw [hlow id hi] at hc
        by_cases hdt : id ∈ σ.dirty
        · rw [if_pos hdt, Option.map_eq_some_iff] at hc
          obtain ⟨b, hb, hbe⟩ := hc
          have hrefs := hok id (by simp [hdt, hi])
          cases b with
          | map es => simp [renB] at hbe
          | cells g0 pl0 cs0 =>
            obtain ⟨c1, c2, c3, c4, c5, c6⟩ := S.cell id bx g0 pl0 cs0 hx hhid hb
            cases pl0 with
            | true =>
              simp only [renB, Blk.cells.injEq] at hbe
              obtain ⟨rfl, rfl, rfl⟩ := hbe
              refine ⟨c1, c2, c3, c4, fun j v hv => ?_, c6⟩
              obtain ⟨u, hu, hr⟩ := c5 j v hv
              have hs := List.all_eq_true.1 (c4 rfl) v (List.mem_of_getElem? hv)
              exact ⟨u, hu, (relC_sc hs).2 ((relC_sc hs).1 hr)⟩
            | false =>
              simp only [renB, Blk.cells.injEq] at hbe
              obtain ⟨rfl, rfl, rfl⟩ := hbe
              refine ⟨c1, by simpa using c2, by simpa using c3, fun e => by simp at e, fun j v hv => ?_, c6⟩
              rw [List.getElem?_map, Option.map_eq_some_iff] at hv
              obtain ⟨q, hq, rfl⟩ := hv
              obtain ⟨u, hu, hr⟩ := c5 j q hq
              refine ⟨u, hu, relC_ren hr fun r hr' => hrefs r ?_⟩
              simp only [refsAt, hb, refsB]
              exact List.mem_flatMap.2 ⟨q, List.mem_of_getElem? hq, hr'⟩
        · rw [if_neg hdt] at hc
          have hrefs := hD id bx hi hx hhid hdt
          obtain ⟨c1, c2, c3, c4, c5, c6⟩ := S.cell id bx g pl cs hx hhid hc
          refine ⟨c1, c2, c3, c4, fun j v hv => ?_, c6⟩
          obtain ⟨u, hu, hr⟩ := c5 j v hv
          refine ⟨u, hu, ?_⟩
          cases pl with
          | true =>
            have hs := List.all_eq_true.1 (c4 rfl) v (List.mem_of_getElem? hv)
            exact (relC_sc hs).2 ((relC_sc hs).1 hr)
          | false =>
            refine relC_old hr fun r hr' => hrefs r ?_
            simp only [refsAt, hc, refsB]
            exact List.mem_flatMap.2 ⟨v, List.mem_of_getElem? hv, hr'⟩
      · rw [hhigh id hi, hr] at hc
        simp only [Option.map_some, Option.some.injEq] at hc
        obtain ⟨k1, k2, k3⟩ := hk r (List.mem_of_getElem? hr)
        have hrh : r ∉ σ.hid := fun e => by have := hh r e; omega
        have hg : σ.heap[r]? = some (σ.heap.getD r default) := by
          rw [List.getElem?_eq_getElem k2]; simp [List.getElem?_eq_getElem k2]
        generalize σ.heap.getD r default = b at *
        cases b with
        | map es => simp [renB] at hc
        | cells g0 pl0 cs0 =>
          obtain ⟨c1, c2, c3, c4, c5, c6⟩ := S.cell r bx g0 pl0 cs0 hx hrh hg
          cases pl0 with
          | true =>
            simp only [renB, Blk.cells.injEq] at hc
            obtain ⟨rfl, rfl, rfl⟩ := hc
            refine ⟨c1, c2, c3, c4, fun j v hv => ?_, c6⟩
            obtain ⟨u, hu, hr⟩ := c5 j v hv
            have hs := List.all_eq_true.1 (c4 rfl) v (List.mem_of_getElem? hv)
            exact ⟨u, hu, (relC_sc hs).2 ((relC_sc hs).1 hr)⟩
          | false =>
            simp only [renB, Blk.cells.injEq] at hc
            obtain ⟨rfl, rfl, rfl⟩ := hc
            refine ⟨c1, by simpa using c2, by simpa using c3, fun e => by simp at e, fun j v hv => ?_, c6⟩
            rw [List.getElem?_map, Option.map_eq_some_iff] at hv
            obtain ⟨q, hq, rfl⟩ := hv
            obtain ⟨u, hu, hr⟩ := c5 j q hq
            refine ⟨u, hu, relC_ren hr fun r' hr' => k3 r' ?_⟩
            simp only [refsAt, hg, refsB]
            exact List.mem_flatMap.2 ⟨q, List.mem_of_getElem? hq, hr'⟩
    · intro i j bi bj hi hj oi oj e
      rcases hX i bi hi with ⟨hi', hi⟩ | ⟨hi', r, hr, hi⟩ <;> rcases hX j bj hj with ⟨hj', hj⟩ | ⟨hj', q, hq, hj⟩
      · exact S.inj i j bi bj hi hj oi oj e
      · have := S.inj i q bi bj hi hj oi oj e
        have := (hk q (List.mem_of_getElem? hq)).1
        omega
      · have := S.inj r j bi bj hi hj oi oj e
        have := (hk r (List.mem_of_getElem? hr)).1
        omega
      · have hrq := S.inj r q bi bj hi hj oi oj e
        subst hrq
        have h1 := (List.getElem?_eq_some_iff.1 hr)
        have h2 := (List.getElem?_eq_some_iff.1 hq)
        obtain ⟨l1, e1⟩ := h1
        obtain ⟨l2, e2⟩ := h2
        have := (List.getElem_inj hnd).1 (e1.trans e2.symm)
        omega
    · intro id bx hx hl
      rcases hX id bx hx with ⟨hi, hx⟩ | ⟨hi, r, hr, hx⟩
      · exact S.lock id bx hx hl
      · exact S.lock r bx hx (by have := (hk r (List.mem_of_getElem? hr)).1; simp only at hl; omega)
  unfold gc at h
  split at h
  · rename_i hle
    cases h
    exact ⟨X, S, fun _ _ => rfl, fun id bx hi hx => ⟨id, hi, hx⟩, ⟨rfl, fun i v v' u h1 h2 hr => by rw [h1] at h2; cases h2; exact hr⟩, rfl, rfl, fun h => h, fun t _ => Iff.rfl, fun t h => h, fun _ _ _ => rfl⟩
  · rename_i hgt
    simp only at h
    have fmem : ∀ (l : List Nat), l.filter (base ≤ ·) = [] → ∀ r ∈ l, r < base := fun l hl r hr => by
      rw [List.filter_eq_nil_iff] at hl
      have := hl r hr
      simp at this
      exact this
    split at h
    · rename_i hroots
      cases h
      have hro := fmem _ hroots
      have hdt : (σ.dirty.filter (· < base)).flatMap (refsAt σ.heap) = (σ.dirty.filter (· < base)).flatMap (refsAt σ.heap) := rfl
      -- the same state, through the general law with nothing kept: old blocks that were written hold old references only
      refine ⟨renX X base [], ?_, fun id hi => by simp [renX, hi], fun id bx hi hx => ?_, ⟨rfl, fun i v v' u h1 h2 hr => ?_⟩, rfl, rfl, fun _ => by simp; omega, fun t ht => by simp [ht], fun t h => by simp at h; exact h.1, fun id hi _ => by simp [hi]⟩
      · have hD' : ∀ id bx, id < base → X id = some bx → id ∉ σ.hid → ∀ r ∈ refsAt σ.heap id, r < base := fun id bx hi hx hn r hr => by
          by_cases hdt : id ∈ σ.dirty
          · exact hro r (List.mem_append.2 (.inr (List.mem_flatMap.2 ⟨id, by simp [hdt, hi], hr⟩)))
          · exact hD id bx hi hx hn hdt r hr
        have hX : ∀ id bx, renX X base [] id = some bx → id < base ∧ X id = some bx := fun id bx hx => by
          unfold renX at hx
          split at hx
          · rename_i hi; exact ⟨hi, hx⟩
          · simp at hx
        refine ⟨S.bel, fun id bx hx => ?_, fun id bx hx => S.place id bx (hX id bx hx).2, fun id bx g pl cs hx hhid hc => ?_, fun i j bi bj hi hj => S.inj i j bi bj (hX i bi hi).2 (hX j bj hj).2, fun id bx hx => S.lock id bx (hX id bx hx).2, fun id bx hx => S.zero id bx (hX id bx hx).2⟩
        · have := (hX id bx hx).1; simp; omega
        · obtain ⟨hi, hx⟩ := hX id bx hx
          simp only [List.getElem?_take_of_lt hi] at hc
          obtain ⟨c1, c2, c3, c4, c5, c6⟩ := S.cell id bx g pl cs hx hhid hc
          refine ⟨c1, c2, c3, c4, fun j v hv => ?_, c6⟩
          obtain ⟨u, hu, hr⟩ := c5 j v hv
          refine ⟨u, hu, ?_⟩
          cases pl with
          | true =>
            have hs := List.all_eq_true.1 (c4 rfl) v (List.mem_of_getElem? hv)
            exact (relC_sc hs).2 ((relC_sc hs).1 hr)
          | false =>
            refine relC_old hr fun r hr' => hD' id bx hi hx hhid r ?_
            simp only [refsAt, hc, refsB]
            exact List.mem_flatMap.2 ⟨v, List.mem_of_getElem? hv, hr'⟩
      · unfold renX at hx
        rw [if_neg (by omega)] at hx
        simp at hx
      · rw [h1] at h2
        cases h2
        have hv := relV_ren (base := base) (keep := []) hr fun r hr' => .inl (hro r (List.mem_append.2 (.inl (List.mem_flatMap.2 ⟨v, List.mem_of_getElem? h1, hr'⟩))))
        have hren : ∀ (q : Value), (∀ r ∈ refsC q, r < base) → renC (renF' base []) q = q := fun q hq => by
          unfold renC
          split
          · rename_i a; simp [renF', hq a.block (by simp [refsC])]
          · rename_i a n e; simp [renF', hq a.block (by simp [refsC])]
          · rename_i r; simp [renF', hq r (by simp [refsC])]
          · rfl
        have hmap : ∀ (l : List Value), (∀ r ∈ l.flatMap refsC, r < base) → l.map (renC (renF' base [])) = l := fun l hl => by
          refine (List.map_congr_left fun q hq => hren q fun r hr => hl r (List.mem_flatMap.2 ⟨q, hq, hr⟩)).trans (List.map_id _)
        have hrenF : ∀ (q : Value), (∀ r ∈ refsF q, r < base) → renF (renF' base []) q = q := fun q hq => by
          cases q <;> simp only [renF] <;> first
            | exact hren _ hq
            | (rw [hmap _ hq])
            | (rw [hmap _ (fun r hr => hq r (List.mem_append.2 (.inl hr))), hmap _ (fun r hr => hq r (List.mem_append.2 (.inr hr)))])
        have hrenV : ren (renF' base []) v = v := by
          have hq : ∀ r ∈ refs v, r < base := fun r hr' => hro r (List.mem_append.2 (.inl (List.mem_flatMap.2 ⟨v, List.mem_of_getElem? h1, hr'⟩)))
          cases v <;> simp only [ren] <;> first
            | exact hrenF _ hq
            | (congr 1
               apply Array.toList_inj.1
               refine (List.map_congr_left fun q hq' => hrenF q fun r hr => hq r (List.mem_flatMap.2 ⟨q, hq', hr⟩)).trans (List.map_id _))
        rwa [hrenV] at hv
    · rename_i r rs hroots
      unfold gcKeep at h
      simp only at h
      split at h
      · rename_i hc
        simp only [Bool.and_eq_true] at hc
        obtain ⟨⟨⟨⟨n1, n2⟩, h1⟩, h2⟩, h3⟩ := hc
        generalize reach σ.heap base 4096 (r :: rs) [] = keep at *
        simp only [Option.some.injEq, Prod.mk.injEq] at h
        obtain ⟨rfl, rfl⟩ := h
        have ok : ∀ q, (decide (q < base) || keep.contains q) = true → okR base keep q := fun q hq => by
          simp only [Bool.or_eq_true, decide_eq_true_eq, List.contains_eq_mem] at hq
          exact hq
        refine ⟨renX X base keep, key keep (by omega) (nodupB_iff n1) (fun r hr => ?_) (nodupB_iff n2) (fun t ht q hq => ?_) _ (fun i hi => ?_) (fun i hi => ?_), fun id hi => by simp [renX, hi], fun id bx hi hx => ?_, ⟨by simp, fun i v v' u e1 e2 hr => ?_⟩, rfl, rfl, fun _ => by simp [renAll_length]; omega, fun t ht => by simp [ht], fun t h => by simp at h; exact h.1, fun id hi hnd => ?_⟩
        · have := List.all_eq_true.1 h3 r hr
          simp only [Bool.and_eq_true, decide_eq_true_eq] at this
          exact ⟨this.1.1, this.1.2, fun q hq => ok q (List.all_eq_true.1 this.2 q hq)⟩
        · exact ok q (List.all_eq_true.1 (List.all_eq_true.1 h2 t ht) q hq)
        · rw [List.getElem?_append_left (by rw [renAll_length]; simp; omega)]
          have hti : (σ.heap.take base)[i]? = σ.heap[i]? := List.getElem?_take_of_lt hi
          by_cases hdt : i ∈ σ.dirty
          · rw [if_pos hdt, renAll_mem _ _ _ _ (nodupB_iff n2) (by simp [hdt, hi]), hti]; rfl
          · rw [if_neg hdt, renAll_not _ _ _ _ (by simp [hdt]), hti]
        · have hl : (renAll (fun id => if id < base then id else base + keep.idxOf id) (σ.dirty.filter (· < base)) (σ.heap.take base)).length = base := by rw [renAll_length]; simp; omega
          rw [List.getElem?_append_right (by omega), hl, List.getElem?_map]
          rfl
        · unfold renX at hx
          rw [if_neg (by omega)] at hx
          simp only [Option.bind_eq_some_iff] at hx
          obtain ⟨q, hq, hx⟩ := hx
          have := List.all_eq_true.1 h3 q (List.mem_of_getElem? hq)
          simp only [Bool.and_eq_true, decide_eq_true_eq] at this
          exact ⟨q, this.1.1, hx⟩
        · rw [List.getElem?_map, e1] at e2
          simp only [Option.map_some, Option.some.injEq] at e2
          subst e2
          exact relV_ren hr fun q hq => ok q (List.all_eq_true.1 (List.all_eq_true.1 h1 v (List.mem_of_getElem? e1)) q hq)
        · rw [List.getElem?_append_left (by rw [renAll_length]; simp; omega), renAll_not _ _ _ _ (by simp [hnd])]
          exact List.getElem?_take_of_lt hi
      · cases h
end AM
end Go.Proofs.Ytfefeikkjebfoaa
