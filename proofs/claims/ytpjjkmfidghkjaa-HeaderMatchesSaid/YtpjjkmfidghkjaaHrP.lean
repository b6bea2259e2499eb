/-
  HEADERS: the reference's answers are the program's. Conditions: none.
-/
import Derived.Test.YtpjjkmfidghkjaaHrG
set_option linter.all false
namespace Go.Proofs.Ytpjjkmfidghkjaa
namespace VarA
open Go Go.RowKit AM ArEnv

theorem grp_tail : ∀ v : Nat, grp (leTail v).length v = (leTail v).reverse := by
  intro v
  induction v using Nat.strongRecOn with
  | _ v ih =>
    by_cases h0 : v = 0
    · subst h0; rw [leTail_zero]; rfl
    · rw [leTail_pos h0, List.length_cons, grp, ih (v / 128) (by omega), List.reverse_cons]
theorem vvalid_len {v : Nat} {m : Int} (h : vValid v m = true) : m = ((leTail v).length : Int) ∧ m.toNat ≤ 4 := by
  unfold vValid at h
  split at h
  · simp at h
    obtain ⟨h1, rfl⟩ := h
    subst h1
    rw [leTail_zero]; exact ⟨rfl, by omega⟩
  · obtain rfl | rfl | rfl | rfl : m = 1 ∨ m = 2 ∨ m = 3 ∨ m = 4 := by omega
    all_goals simp at h
    · rw [leTail_len_eq 0 v (by simp; omega) (by simp; omega)]; exact ⟨rfl, by decide⟩
    · rw [leTail_len_eq 1 v (by simp; omega) (by simp; omega)]; exact ⟨rfl, by decide⟩
    · rw [leTail_len_eq 2 v (by simp; omega) (by simp; omega)]; exact ⟨rfl, by decide⟩
    · rw [leTail_len_eq 3 v (by simp; omega) (by simp; omega)]; exact ⟨rfl, by decide⟩
theorem grp_valid {v : Nat} {m : Int} (h : vValid v m = true) : grp (grpN m) v = (leTail v).reverse ∧ m = ((leTail v).length : Int) := by
  obtain ⟨h1, h2⟩ := vvalid_len h
  refine ⟨?_, h1⟩
  have : grpN m = (leTail v).length := by unfold grpN; omega
  rw [this, grp_tail]
theorem grp_big : ∀ (k v : Nat), ∀ c ∈ grp k v, 128 ≤ c
  | 0, v, c, h => by cases h
  | k + 1, v, c, h => by
    simp only [grp, List.mem_append, List.mem_singleton] at h
    rcases h with h | rfl
    · exact grp_big k _ c h
    · omega

/-! ### Stream headers -/
theorem wayR_3 {v m : Int} {c : Nat} : wayR ⟨3, v, m, 0⟩ c = if (gStep v m c 65536).2.2.2 = false then (⟨3, v, m, 0⟩, 242) else if (gStep v m c 65536).2.2.1 = true then (⟨4, 0, 0, (gStep v m c 65536).1⟩, 0) else (⟨3, (gStep v m c 65536).1, (gStep v m c 65536).2.1, 0⟩, 0) := by
  unfold wayR; rw [if_neg (by simp)]
theorem wayR_first {a v m n : Int} {c : Int} (ha : a < 3) : wayR ⟨a, v, m, n⟩ c = if c = magicAt a then (⟨a + 1, v, m, n⟩, 0) else (⟨a, v, m, n⟩, if a = 2 then 241 else 240) := by
  unfold wayR; rw [if_pos ha]
theorem wf_0 : wayR ⟨0, 0, 0, 0⟩ ((87 : Nat) : Int) = (⟨1, 0, 0, 0⟩, 0) := by rw [wayR_first (by omega)]; rfl
theorem wf_1 : wayR ⟨1, 0, 0, 0⟩ ((80 : Nat) : Int) = (⟨2, 0, 0, 0⟩, 0) := by rw [wayR_first (by omega)]; rfl
theorem wf_2 : wayR ⟨2, 0, 0, 0⟩ ((1 : Nat) : Int) = (⟨3, 0, 0, 0⟩, 0) := by rw [wayR_first (by omega)]; rfl
theorem wFold_magic (l : List Nat) : wFold ⟨0, 0, 0, 0⟩ ([87, 80, 1] ++ l) = wFold ⟨3, 0, 0, 0⟩ l := by
  simp only [List.cons_append, List.nil_append, wFold, wf_0, wf_1, wf_2, if_true]
theorem wFold_tail : ∀ (v : Nat) (l : List Nat), v ≤ 65536 → wFold ⟨3, 0, 0, 0⟩ ((leTail v).reverse ++ l) = wFold ⟨3, v, (leTail v).length, 0⟩ l := by
  intro v
  induction v using Nat.strongRecOn with
  | _ v ih =>
    intro l h
    by_cases h0 : v = 0
    · subst h0; rw [leTail_zero]; rfl
    · have e : (leTail v).reverse ++ l = (leTail (v / 128)).reverse ++ ((128 + v % 128) :: l) := by rw [leTail_pos h0]; simp
      have hg := gstep_on (most := 65536) h0 h (by omega)
      rw [e, ih (v / 128) (by omega) _ (by omega), wFold, wayR_3]
      simp only [Int.cast_ofNat_Int] at hg
      rw [hg]
      simp
theorem wFold_enc {n : Nat} (h1 : 1 ≤ n) (h2 : n ≤ 65536) : wFold ⟨3, 0, 0, 0⟩ (enc n) = some ⟨4, 0, 0, n⟩ := by
  have e : enc n = (leTail (n / 128)).reverse ++ [n % 128] := by simp [enc]
  have hg := gstep_last (most := 65536) h1 h2 (by omega)
  rw [e, wFold_tail _ _ (by omega), wFold, wayR_3]
  simp only [Int.cast_ofNat_Int] at hg
  rw [hg]
  simp [wFold]
theorem wFold_big : ∀ (l : List Nat) (v m : Int) (o : HS), By l → (∀ c ∈ l, 128 ≤ c) → comes v m 65536 = true → wFold ⟨3, v, m, 0⟩ l = some o → hValid o = true ∧ o.a = 3
  | [], v, m, o, hb, hg, hv, h => by
    simp only [wFold, Option.some.injEq] at h
    subst h
    exact ⟨by simp [hValid, hv], rfl⟩
  | c :: l, v, m, o, hb, hg, hv, h => by
    have hv1 : vValid v m = true := by simp only [comes, Bool.and_eq_true] at hv; exact hv.1
    rw [wFold, wayR_3] at h
    rcases gstep_cases (most := 65536) hv1 hb.head with g | ⟨h1, h2, h3, g⟩ | ⟨h1, h2, h3, g, h5⟩
    · rw [if_pos g] at h; simp at h
    · have := hg c (by simp); omega
    · rw [g] at h
      simp only [Bool.true_eq_false, Bool.false_eq_true, if_false, if_true] at h
      exact wFold_big l _ _ o hb.tail (fun x hx => hg x (by simp [hx])) (by simp [comes, h5, h3]) h
theorem rvalid_eq (s : HS) : rValid s = hValid s := by
  obtain ⟨a, v, m, n⟩ := s
  rw [Bool.eq_iff_iff]
  constructor
  · intro h
    unfold rValid at h
    simp only [Bool.and_eq_true, Bool.not_eq_true', decide_eq_false_iff_not] at h
    obtain ⟨hnb, h⟩ := h
    by_cases h3 : a < 3
    · have hby : hBytes ⟨a, v, m, n⟩ = [87, 80, 1].take a.toNat := by unfold hBytes; rw [if_pos h3]
      rw [hby] at h
      have h012 : a = 0 ∨ a = 1 ∨ a = 2 := by omega
      have hf : wFold ⟨0, 0, 0, 0⟩ ([87, 80, 1].take a.toNat) = some ⟨a, 0, 0, 0⟩ := by
        rcases h012 with rfl | rfl | rfl
        · rfl
        · show wFold ⟨0, 0, 0, 0⟩ [87] = _
          simp only [wFold, wf_0, if_true]
        · show wFold ⟨0, 0, 0, 0⟩ [87, 80] = _
          simp only [wFold, wf_0, wf_1, if_true]
      rw [hf] at h
      simp only [decide_eq_true_eq] at h
      obtain ⟨_, rfl, rfl, rfl⟩ := h
      rcases h012 with rfl | rfl | rfl <;> rfl
    by_cases e3 : a = 3
    · subst e3
      have hby : hBytes ⟨3, v, m, n⟩ = [87, 80, 1] ++ grp (grpN m) v.toNat := by unfold hBytes; rw [if_neg (by simp), if_pos rfl]
      rw [hby, wFold_magic] at h
      split at h
      · rename_i o ho
        obtain ⟨g1, g2⟩ := wFold_big _ 0 0 o (grp_by _ _) (grp_big _ _) (comes_zero (by omega)) ho
        obtain ⟨o1, o2, o3, o4⟩ := o
        simp only [decide_eq_true_eq] at h
        obtain ⟨rfl, rfl, rfl, rfl⟩ := h
        exact g1
      · cases h
    · obtain rfl : a = 4 := by omega
      have hby : hBytes ⟨4, v, m, n⟩ = [87, 80, 1] ++ enc n.toNat := by unfold hBytes; rw [if_neg (by simp), if_neg (by simp)]
      rw [hby, wFold_magic] at h
      by_cases hn : n = 0
      · subst hn
        have : wFold ⟨3, 0, 0, 0⟩ (enc (0 : Int).toNat) = none := by decide +kernel
        rw [this] at h
        cases h
      · have : wFold ⟨3, 0, 0, 0⟩ (enc n.toNat) = some ⟨4, 0, 0, n.toNat⟩ := wFold_enc (by omega) (by omega)
        rw [this] at h
        simp only [decide_eq_true_eq] at h
        obtain ⟨_, rfl, rfl, h4⟩ := h
        simp [hValid, inR]; omega
  · intro h
    by_cases e3 : a = 3
    · subst e3
      have hh : comes v m 65536 = true ∧ n = 0 := by simpa [hValid] using h
      obtain ⟨hcm, rfl⟩ := hh
      have hcm' := hcm
      simp only [comes, Bool.and_eq_true, decide_eq_true_eq] at hcm'
      obtain ⟨r1, r2, r3, r4⟩ := vValid_range hcm'.1
      obtain ⟨x, rfl⟩ : ∃ x : Nat, v = x := ⟨v.toNat, by omega⟩
      obtain ⟨g1, g2⟩ := grp_valid hcm'.1
      unfold rValid
      have hby : hBytes ⟨3, x, m, 0⟩ = [87, 80, 1] ++ ((leTail x).reverse ++ []) := by
        unfold hBytes; rw [if_neg (by simp), if_pos rfl, List.append_nil, ← g1]; rfl
      rw [hby, wFold_magic, wFold_tail x [] (by omega), decide_eq_false (by simp only []; omega)]
      simp [wFold, ← g2]
    by_cases e4 : a = 4
    · subst e4
      have hh : (v = 0 ∧ m = 0) ∧ inR n 1 65536 = true := by simpa [hValid] using h
      obtain ⟨⟨rfl, rfl⟩, hi⟩ := hh
      rw [inR_true] at hi
      unfold rValid
      have hby : hBytes ⟨4, 0, 0, n⟩ = [87, 80, 1] ++ enc n.toNat := by unfold hBytes; rw [if_neg (by simp), if_neg (by simp)]
      rw [hby, wFold_magic, wFold_enc (by omega) (by omega), decide_eq_false (by simp only []; omega)]
      simp
      omega
    · have ha : (a = 0 ∨ a = 1 ∨ a = 2) ∧ v = 0 ∧ m = 0 ∧ n = 0 := by
        simp [hValid, e3, e4, inR_true] at h; omega
      obtain ⟨ha, rfl, rfl, rfl⟩ := ha
      rcases ha with rfl | rfl | rfl <;> decide +kernel
/-- In a valid state the ways are the same. -/
theorem way_h {s : HS} {c : Nat} (hv : hValid s = true) (h4 : ¬ s.a = 4) : (wayR s c).2 = (hStep s c).2.2 ∧ ((hStep s c).2.2 = 0 → (wayR s c).1 = (hStep s c).1) := by
  obtain ⟨a, v, m, n⟩ := s
  by_cases h3 : a = 3
  · subst h3
    have hh : comes v m 65536 = true ∧ n = 0 := by simpa [hValid] using hv
    obtain ⟨hcm, rfl⟩ := hh
    rw [hstep_3 hcm, wayR_3]
    split
    · exact ⟨rfl, fun h => by simp at h⟩
    · split <;> exact ⟨rfl, fun _ => rfl⟩
  · have ha : (a = 0 ∨ a = 1 ∨ a = 2) ∧ v = 0 ∧ m = 0 ∧ n = 0 := by
      have h4' : ¬ a = 4 := h4
      simp [hValid, h3, h4', inR_true] at hv; omega
    obtain ⟨ha, rfl, rfl, rfl⟩ := ha
    rw [hstep_first ha, wayR_first (by omega)]
    split
    · exact ⟨rfl, fun _ => rfl⟩
    · refine ⟨?_, fun h => ?_⟩
      · simp only []
        rcases ha with rfl | rfl | rfl <;> rfl
      · simp only [] at h
        split at h <;> simp at h
theorem rstep_eq (s : HS) {c : Nat} (hc : c < 256) : rStep s c = hStep s c := by
  unfold rStep
  rw [rvalid_eq]
  by_cases hb : hValid s = false ∨ s.a = 4
  · rw [if_pos hb]
    unfold hStep
    rw [if_pos hb]
  · rw [if_neg hb]
    have hv : hValid s = true := by
      cases h : hValid s
      · exact absurd (.inl h) hb
      · rfl
    have h4 : ¬ s.a = 4 := fun h => hb (.inr h)
    obtain ⟨e1, e2⟩ := way_h (c := c) hv h4
    rw [e1]
    by_cases he : (hStep s c).2.2 = 0
    · rw [if_pos he, e2 he, ← (hstep_valid hc he).2]
      exact Prod.ext rfl (Prod.ext rfl he.symm)
    · rw [if_neg he]
      unfold hStep at he ⊢
      rw [if_neg hb] at he ⊢
      repeat' split
      all_goals first
        | rfl
        | (exfalso; simp_all)
theorem rtake_eq : ∀ (l : List Nat) (s : HS), By l → hValid s = true → ¬ s.a = 4 → rTake s l = hTake s l
  | [], s, hb, hv, h4 => rfl
  | c :: l, s, hb, hv, h4 => by
    obtain ⟨e1, e2⟩ := way_h (c := c) hv h4
    rw [rTake, hTake, e1]
    by_cases he : (hStep s c).2.2 = 0
    · obtain ⟨v1, v2⟩ := hstep_valid (s := s) hb.head he
      rw [if_pos he, if_pos he, e2 he, v2]
      by_cases ha : (hStep s c).1.a = 4
      · rw [if_pos ha, if_pos (decide_eq_true ha)]
      · rw [if_neg ha, if_neg (by simpa using ha)]
        exact rtake_eq l _ hb.tail v1 ha
    · rw [if_neg he, if_neg he]
end VarA
end Go.Proofs.Ytpjjkmfidghkjaa
