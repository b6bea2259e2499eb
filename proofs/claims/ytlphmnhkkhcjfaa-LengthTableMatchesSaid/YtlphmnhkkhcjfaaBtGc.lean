/-
  WHAT IS KEPT when old blocks refer to new ones: any number of new plain blocks, in the order in which they are found.
  Conditions: none.
-/
import Derived.Test.YtlphmnhkkhcjfaaASy
set_option linter.all false
section
namespace Go.Proofs.Ytlphmnhkkhcjfaa
namespace AM
open Go

def firsts : List Nat → List Nat → List Nat
  | [], acc => acc
  | r :: l, acc => if acc.contains r then firsts l acc else firsts l (acc ++ [r])
theorem firsts_mem : ∀ (l acc : List Nat) (x : Nat), x ∈ firsts l acc ↔ x ∈ l ∨ x ∈ acc
  | [], acc, x => by simp [firsts]
  | r :: l, acc, x => by
    unfold firsts
    split
    · next h =>
      rw [firsts_mem l acc x]
      have : r ∈ acc := by simpa using h
      constructor
      · rintro (h1 | h1)
        · simp [h1]
        · exact .inr h1
      · rintro (h1 | h1)
        · rcases List.mem_cons.1 h1 with rfl | h2
          · exact .inr this
          · exact .inl h2
        · exact .inr h1
    · rw [firsts_mem l _ x]
      simp only [List.mem_append, List.mem_cons, List.not_mem_nil, or_false]
      constructor
      · rintro (h1 | h1 | h1)
        · exact .inl (.inr h1)
        · exact .inr h1
        · exact .inl (.inl h1)
      · rintro ((h1 | h1) | h1)
        · exact .inr (.inr h1)
        · exact .inl h1
        · exact .inr (.inl h1)
theorem nodupB_snoc : ∀ (l : List Nat) (r : Nat), nodupB l = true → l.contains r = false → nodupB (l ++ [r]) = true
  | [], r, _, _ => rfl
  | x :: l, r, h, hr => by
    simp only [nodupB, Bool.and_eq_true, List.cons_append] at h ⊢
    simp only [List.contains_cons, Bool.or_eq_false_iff] at hr
    refine ⟨?_, nodupB_snoc l r h.2 hr.2⟩
    have h1 := h.1
    simp only [Bool.not_eq_true', List.contains_eq_mem, decide_eq_false_iff_not] at h1 ⊢
    intro hx
    rcases List.mem_append.1 hx with h2 | h2
    · exact h1 h2
    · simp at h2 hr; exact hr.1 h2.symm
theorem firsts_nodup : ∀ (l acc : List Nat), nodupB acc = true → nodupB (firsts l acc) = true
  | [], acc, h => h
  | r :: l, acc, h => by
    unfold firsts
    split
    · exact firsts_nodup l acc h
    · next hc => exact firsts_nodup l _ (nodupB_snoc acc r h (by simpa using hc))
/-- A block without references. -/
def Shut (b : Blk) : Prop := refsB b = [] ∧ ∀ f, renB f b = b
theorem Shut.plain (g : Nat) (cs : List Value) : Shut (.cells g true cs) := ⟨rfl, fun _ => rfl⟩
theorem reach_plain {hp : List Blk} {base : Nat} : ∀ (ws acc : List Nat) (f : Nat), ws.length < f → (∀ x ∈ ws, base ≤ x ∧ ∃ b, hp[x]? = some b ∧ Shut b) → reach hp base f ws acc = firsts ws acc
  | ws, acc, 0, h, _ => by omega
  | [], acc, f + 1, _, _ => by rw [reach, firsts]
  | r :: ws, acc, f + 1, hl, hx => by
    obtain ⟨h1, b, h2, h3⟩ := hx r (by simp)
    rw [reach, firsts]
    have hb : (decide (r < base) || acc.contains r) = acc.contains r := by
      rw [decide_eq_false (by omega), Bool.false_or]
    rw [hb]
    simp only [List.length_cons] at hl
    have hr : refsAt hp r = [] := by simp [refsAt, h2, h3.1]
    rw [hr, List.nil_append, reach_plain ws acc f (by omega) (fun x h => hx x (by simp [h])), reach_plain ws (acc ++ [r]) f (by omega) (fun x h => hx x (by simp [h]))]
theorem renC_id {f : Nat → Nat} {v : Value} (h : ∀ r ∈ refsC v, f r = r) : renC f v = v := by
  cases v with
  | pointer a => cases a with
    | none => rfl
    | some a => simp only [renC]; rw [h a.block (by simp [refsC])]
  | slice a n e => cases a with
    | none => rfl
    | some a => simp only [renC]; rw [h a.block (by simp [refsC])]
  | map r => cases r with
    | none => rfl
    | some r => simp only [renC]; rw [h r (by simp [refsC])]
  | _ => rfl
theorem map_id' {α : Type} {f : α → α} {l : List α} (h : ∀ a ∈ l, f a = a) : l.map f = l := by
  rw [List.map_congr_left (g := id) h, List.map_id]
theorem renF_id {f : Nat → Nat} {v : Value} (h : ∀ r ∈ refsF v, f r = r) : renF f v = v := by
  cases v with
  | agg cs =>
    simp only [renF]
    rw [map_id' fun a ha => renC_id fun r hr => h r (List.mem_flatMap.2 ⟨a, ha, hr⟩)]
  | func k fi ca =>
    simp only [renF]
    rw [map_id' fun a ha => renC_id fun r hr => h r (List.mem_append.2 (.inl (List.mem_flatMap.2 ⟨a, ha, hr⟩))), map_id' fun a ha => renC_id fun r hr => h r (List.mem_append.2 (.inr (List.mem_flatMap.2 ⟨a, ha, hr⟩)))]
  | _ => simp only [renF]; exact renC_id (by simpa only [refsF] using h)
theorem ren_id {f : Nat → Nat} {v : Value} (h : ∀ r ∈ refs v, f r = r) : ren f v = v := by
  cases v with
  | tuple vs =>
    simp only [ren]
    rw [map_id' fun a ha => renF_id fun r hr => h r (List.mem_flatMap.2 ⟨a, ha, hr⟩)]
  | _ => simp only [ren]; exact renF_id (by simpa only [refs] using h)
/-- Where the kept blocks go. -/
def plc (base : Nat) (ks : List Nat) (id : Nat) : Nat := if id < base then id else base + ks.idxOf id
theorem plc_old {base : Nat} {ks : List Nat} {id : Nat} (h : id < base) : plc base ks id = id := if_pos h
section
variable {h nw : List Blk} {L : Nat} {H d : List Nat} {vs : List Value}
theorem gc_many' {R : List Nat} (hdn : nodupB d = true) (hdl : ∀ t ∈ d, t < h.length)
    (hroot : (vs.flatMap refs ++ d.flatMap (refsAt h)).filter (h.length ≤ ·) = R) (hne : R ≠ []) (hlen : R.length < 4096)
    (hp : ∀ r ∈ R, ∃ b, (h ++ nw)[r]? = some b ∧ Shut b) :
    gc h.length vs ⟨h ++ nw, L, H, d⟩ = some (vs.map (ren (plc h.length (firsts R []))), ⟨renAll (plc h.length (firsts R [])) d h ++ (firsts R []).map fun r => (h ++ nw).getD r default, L, H, d⟩) := by
  have hfil : d.filter (· < h.length) = d := List.filter_eq_self.2 fun t ht => by simpa using hdl t ht
  have hatL : ∀ t ∈ d, refsAt (h ++ nw) t = refsAt h t := fun t ht => by
    unfold refsAt; rw [List.getElem?_append_left (hdl t ht)]
  have hfm : d.flatMap (refsAt (h ++ nw)) = d.flatMap (refsAt h) := by
    rw [List.flatMap_def, List.flatMap_def, List.map_congr_left hatL]
  have hR : ∀ r ∈ R, h.length ≤ r ∧ r < (h ++ nw).length := fun r hr => by
    refine ⟨?_, ?_⟩
    · rw [← hroot] at hr
      simpa using (List.mem_filter.1 hr).2
    · obtain ⟨b, h1, _⟩ := hp r hr
      exact (List.getElem?_eq_some_iff.1 h1).1
  have hlong : ¬ (h ++ nw).length ≤ h.length := by
    cases R with
    | nil => exact absurd rfl hne
    | cons r R => have := hR r (by simp); omega
  have hmem : ∀ r, (r ∈ vs.flatMap refs ∨ r ∈ d.flatMap (refsAt h)) → (decide (r < h.length) || (firsts R []).contains r) = true := fun r hr => by
    rcases Nat.lt_or_ge r h.length with h1 | h1
    · simp [h1]
    · have : r ∈ R := by
        rw [← hroot]
        exact List.mem_filter.2 ⟨List.mem_append.2 hr, by simpa using h1⟩
      have : r ∈ firsts R [] := (firsts_mem R [] r).2 (.inl this)
      simp [this]
  unfold gc
  rw [if_neg hlong]
  simp only [hfil, hfm]
  rw [hroot]
  cases hRR : R with
  | nil => exact absurd hRR hne
  | cons r R' =>
    simp only []
    rw [reach_plain (r :: R') [] 4096 (by rw [← hRR]; exact hlen) (fun x hx => by rw [← hRR] at hx; exact ⟨(hR x hx).1, hp x hx⟩), ← hRR]
    unfold gcKeep
    simp only [hfil]
    have hkm : ∀ k ∈ firsts R [], k ∈ R := fun k hk => by
      rcases (firsts_mem R [] k).1 hk with h1 | h1
      · exact h1
      · cases h1
    refine (if_pos ?_).trans ?_
    · simp only [Bool.and_eq_true]
      refine ⟨⟨⟨⟨firsts_nodup R [] rfl, hdn⟩, ?_⟩, ?_⟩, ?_⟩
      · rw [List.all_eq_true]; intro v hv; rw [List.all_eq_true]; intro r hr
        exact hmem r (.inl (List.mem_flatMap.2 ⟨v, hv, hr⟩))
      · rw [List.all_eq_true]; intro t ht; rw [List.all_eq_true]; intro r hr
        rw [hatL t ht] at hr
        exact hmem r (.inr (List.mem_flatMap.2 ⟨t, ht, hr⟩))
      · rw [List.all_eq_true]; intro k hk
        have hk' := hkm k hk
        obtain ⟨b, hg, hs⟩ := hp k hk'
        have hr0 : refsAt (h ++ nw) k = [] := by simp [refsAt, hg, hs.1]
        rw [hr0]
        simp only [List.all_nil, Bool.and_true, Bool.and_eq_true, decide_eq_true_eq]
        exact hR k hk'
    · simp only [List.take_left']
      congr 4
      refine List.map_congr_left fun k hk => ?_
      obtain ⟨b, hg, hs⟩ := hp k (hkm k hk)
      rw [List.getD_eq_getElem?_getD, hg]
      exact hs.2 _
theorem gc_many {R : List Nat} (hdn : nodupB d = true) (hdl : ∀ t ∈ d, t < h.length)
    (hroot : (vs.flatMap refs ++ d.flatMap (refsAt h)).filter (h.length ≤ ·) = R) (hne : R ≠ []) (hlen : R.length < 4096)
    (hp : ∀ r ∈ R, ∃ g cs, (h ++ nw)[r]? = some (.cells g true cs)) :
    gc h.length vs ⟨h ++ nw, L, H, d⟩ = some (vs.map (ren (plc h.length (firsts R []))), ⟨renAll (plc h.length (firsts R [])) d h ++ (firsts R []).map fun r => (h ++ nw).getD r default, L, H, d⟩) :=
  gc_many' hdn hdl hroot hne hlen fun r hr => by
    obtain ⟨g, cs, h1⟩ := hp r hr
    exact ⟨_, h1, Shut.plain g cs⟩
/-- The one new block that is returned. -/
theorem gc_ret {b : Blk} (hb : Shut b) : gc h.length [.pointer (some ⟨h.length, 0, some 0⟩)] ⟨h ++ [b], L, H, []⟩ = some ([.pointer (some ⟨h.length, 0, some 0⟩)], ⟨h ++ [b], L, H, []⟩) := by
  have g0 : (h ++ [b])[h.length]? = some b := get_new0 b
  rw [gc_many' (R := [h.length]) rfl (by simp) (by simp [refs, refsF, refsC]) (by simp) (by simp) (fun r hr => by
    simp only [List.mem_cons, List.not_mem_nil, or_false] at hr
    subst hr
    exact ⟨_, g0, hb⟩)]
  have hf : firsts [h.length] [] = [h.length] := rfl
  rw [hf]
  have p0 : plc h.length [h.length] h.length = h.length := by simp [plc]
  simp only [List.map_cons, List.map_nil, ren, renF, renC, p0, renAll, List.getD_eq_getElem?_getD, g0, Option.getD_some]
/-- Nothing new can be seen. -/
theorem gc_none {d : List Nat} (hv : ∀ v ∈ vs, ∀ r ∈ refs v, r < h.length) (hdl : ∀ t ∈ d, t < h.length) (hdr : ∀ t ∈ d, ∀ r ∈ refsAt h t, r < h.length) :
    gc h.length vs ⟨h ++ nw, L, H, d⟩ = some (vs, ⟨h, L, H, d⟩) := by
  have hfil : d.filter (· < h.length) = d := List.filter_eq_self.2 fun t ht => by simpa using hdl t ht
  have hatL : ∀ t ∈ d, refsAt (h ++ nw) t = refsAt h t := fun t ht => by
    unfold refsAt; rw [List.getElem?_append_left (hdl t ht)]
  have hfm : d.flatMap (refsAt (h ++ nw)) = d.flatMap (refsAt h) := by
    rw [List.flatMap_def, List.flatMap_def, List.map_congr_left hatL]
  unfold gc
  by_cases hn : (h ++ nw).length ≤ h.length
  · rw [if_pos hn]
    have : nw = [] := by
      simp only [List.length_append] at hn
      exact List.eq_nil_of_length_eq_zero (by omega)
    subst this
    simp
  · rw [if_neg hn]
    simp only [hfil, hfm]
    have : (vs.flatMap refs ++ d.flatMap (refsAt h)).filter (h.length ≤ ·) = [] := by
      rw [List.filter_eq_nil_iff]
      intro r hr
      rcases List.mem_append.1 hr with hr | hr
      · obtain ⟨v, h1, h2⟩ := List.mem_flatMap.1 hr
        have := hv v h1 r h2
        simpa using this
      · obtain ⟨v, h1, h2⟩ := List.mem_flatMap.1 hr
        have := hdr v h1 r h2
        simpa using this
    rw [this]
    simp
theorem gc_none' {base : Nat} {d : List Nat} (hb : h.length = base) (hv : ∀ v ∈ vs, ∀ r ∈ refs v, r < base) (hdl : ∀ t ∈ d, t < base) (hdr : ∀ t ∈ d, ∀ r ∈ refsAt h t, r < base) :
    gc base vs ⟨h ++ nw, L, H, d⟩ = some (vs, ⟨h, L, H, d⟩) := by
  subst hb; exact gc_none hv hdl hdr
/-- One old block refers to one new one. -/
theorem gc_into {base a k g : Nat} {cs : List Value} {x : Blk} (hb : h.length = base) (hv : ∀ v ∈ vs, ∀ r ∈ refs v, r < base) (ha : h[a]? = some x) (hx : (refsB x).filter (base ≤ ·) = [base + k]) (hk : nw[k]? = some (.cells g true cs)) :
    gc base vs ⟨h ++ nw, L, H, [a]⟩ = some (vs, ⟨h.set a (renB (plc base [base + k]) x) ++ [.cells g true cs], L, H, [a]⟩) := by
  subst hb
  have hal := (List.getElem?_eq_some_iff.1 ha).1
  have hr : refsAt h a = refsB x := by simp [refsAt, ha]
  have hkl : (h ++ nw)[h.length + k]? = some (.cells g true cs) := by rw [List.getElem?_append_right (by omega), Nat.add_sub_cancel_left]; exact hk
  have h0 : (vs.flatMap refs).filter (h.length ≤ ·) = [] := by
    rw [List.filter_eq_nil_iff]
    intro r hr
    obtain ⟨v, h1, h2⟩ := List.mem_flatMap.1 hr
    have := hv v h1 r h2
    simpa using this
  rw [gc_many (R := [h.length + k]) rfl (fun t ht => by simp at ht; omega) (by rw [List.filter_append, h0, List.flatMap_cons, List.flatMap_nil, List.append_nil, hr, hx]; rfl) (by simp) (by simp) (fun r hr => by simp at hr; subst hr; exact ⟨g, cs, hkl⟩)]
  have hf : firsts [h.length + k] [] = [h.length + k] := rfl
  rw [hf, map_id' fun v h1 => ren_id fun r h2 => plc_old (hv v h1 r h2)]
  have hg : (h ++ nw).getD (h.length + k) default = .cells g true cs := by rw [List.getD_eq_getElem?_getD, hkl]; rfl
  have hm : h.modify a (renB (plc h.length [h.length + k])) = h.set a (renB (plc h.length [h.length + k]) x) := by
    refine List.ext_getElem? fun i => ?_
    rw [List.getElem?_modify, List.getElem?_set]
    by_cases c : a = i
    · subst c; rw [if_pos rfl, if_pos hal, ha]; simp
    · rw [if_neg c]; simp [c]
  simp only [renAll, List.map_cons, List.map_nil, hg, hm]
end
end AM
end Go.Proofs.Ytlphmnhkkhcjfaa
end
