/-
  A HEAP ON WORDS: sinking, rising, sorting; what stays and what is in order. Conditions: none.
-/
import Derived.Test.YtlphmnhkkhcjfaaSufPlain
set_option linter.all false
namespace Go.Proofs.Ytlphmnhkkhcjfaa
namespace AM
open Go Go.RowKit

/-! ### Words -/
def upd (W : Nat → Nat) (i v : Nat) : Nat → Nat := fun j => if j = i then v else W j
def swp (W : Nat → Nat) (i k : Nat) : Nat → Nat := upd (upd W i (W k)) k (W i)
/-- Is x among the first n words? -/
def Isin (W : Nat → Nat) (n x : Nat) : Prop := ∃ j, j < n ∧ W j = x
def Inj (W : Nat → Nat) (n : Nat) : Prop := ∀ i k, i < n → k < n → W i = W k → i = k
/-- Two orders of the same n words. -/
structure Same (W V : Nat → Nat) (n : Nat) : Prop where
  mem : ∀ x, Isin W n x ↔ Isin V n x
  inj : Inj V n → Inj W n
  out : ∀ j, n ≤ j → W j = V j
theorem Same.rfl' {W : Nat → Nat} {n : Nat} : Same W W n := ⟨fun _ => Iff.rfl, id, fun _ _ => rfl⟩
theorem Same.trans {W V U : Nat → Nat} {n : Nat} (h : Same W V n) (k : Same V U n) : Same W U n :=
  ⟨fun x => (h.mem x).trans (k.mem x), fun i => h.inj (k.inj i), fun j hj => (h.out j hj).trans (k.out j hj)⟩
theorem swp_at {W : Nat → Nat} {i k j : Nat} : swp W i k j = if j = k then W i else if j = i then W k else W j := rfl
theorem swp_same {W : Nat → Nat} {i k n : Nat} (hi : i < n) (hk : k < n) : Same (swp W i k) W n := by
  refine ⟨fun x => ⟨?_, ?_⟩, fun h a b ha hb e => ?_, fun j hj => ?_⟩
  · rintro ⟨j, hj, rfl⟩
    rw [swp_at]
    split
    · exact ⟨i, hi, rfl⟩
    split
    · exact ⟨k, hk, rfl⟩
    · exact ⟨j, hj, rfl⟩
  · rintro ⟨j, hj, rfl⟩
    by_cases h1 : j = i
    · exact ⟨k, hk, by rw [swp_at, if_pos rfl, h1]⟩
    by_cases h2 : j = k
    · refine ⟨i, hi, ?_⟩
      rw [swp_at]
      split
      · rename_i h3; rw [h2, h3]
      · rw [if_pos rfl, h2]
    · exact ⟨j, hj, by rw [swp_at, if_neg h2, if_neg h1]⟩
  · have hg : ∀ j, swp W i k j = W (if j = k then i else if j = i then k else j) := fun j => by
      rw [swp_at]; split
      · rfl
      split <;> rfl
    rw [hg, hg] at e
    have := h _ _ (by split; exact hi; split; exact hk; exact ha) (by split; exact hi; split; exact hk; exact hb) e
    split at this <;> split at this <;> (try split at this) <;> (try split at this) <;> omega
  · rw [swp_at, if_neg (by omega), if_neg (by omega)]

/-! ### The heap: no child is greater than its parent -/
section
variable (lt : Nat → Nat → Bool)
structure Tot : Prop where
  asy : ∀ a b, lt a b = true → lt b a = false
  tra : ∀ a b c, lt b a = false → lt c b = false → lt c a = false
variable {lt}
theorem Tot.irr (h : Tot lt) (a : Nat) : lt a a = false := by
  cases e : lt a a with
  | false => rfl
  | true => exact e ▸ h.asy a a e
def Heap (lt : Nat → Nat → Bool) (W : Nat → Nat) (n : Nat) : Prop := ∀ j, 0 < j → j < n → lt (W ((j - 1) / 2)) (W j) = false
/-- In order but for the children of i. -/
structure Sunk (lt : Nat → Nat → Bool) (W : Nat → Nat) (n i : Nat) : Prop where
  ok : ∀ j, 0 < j → j < n → (j - 1) / 2 ≠ i → lt (W ((j - 1) / 2)) (W j) = false
  over : ∀ j, 0 < j → j < n → (j - 1) / 2 = i → 0 < i → lt (W ((i - 1) / 2)) (W j) = false
/-- In order but for i itself. -/
structure Risen (lt : Nat → Nat → Bool) (W : Nat → Nat) (n i : Nat) : Prop where
  ok : ∀ j, 0 < j → j < n → j ≠ i → lt (W ((j - 1) / 2)) (W j) = false
  over : ∀ j, 0 < j → j < n → (j - 1) / 2 = i → 0 < i → lt (W ((i - 1) / 2)) (W j) = false
/-- The child that is taken. -/
def kid (lt : Nat → Nat → Bool) (W : Nat → Nat) (n i : Nat) : Nat := if 2 * i + 1 + 1 < n ∧ lt (W (2 * i + 1)) (W (2 * i + 1 + 1)) = true then 2 * i + 1 + 1 else 2 * i + 1
def sinkW (lt : Nat → Nat → Bool) (n : Nat) : Nat → (Nat → Nat) → Nat → (Nat → Nat)
  | 0, W, _ => W
  | f + 1, W, i => if kid lt W n i ≥ n ∨ lt (W i) (W (kid lt W n i)) = false then W else sinkW lt n f (swp W i (kid lt W n i)) (kid lt W n i)
def riseW (lt : Nat → Nat → Bool) : Nat → (Nat → Nat) → Nat → (Nat → Nat)
  | 0, W, _ => W
  | f + 1, W, i => if i = 0 then W else if lt (W ((i - 1) / 2)) (W i) = false then W else riseW lt f (swp W ((i - 1) / 2) i) ((i - 1) / 2)
theorem kid_or (W : Nat → Nat) (n i : Nat) : kid lt W n i = 2 * i + 1 ∨ kid lt W n i = 2 * i + 2 := by unfold kid; split <;> omega
theorem kid_max (h : Tot lt) (W : Nat → Nat) {n i j : Nat} (hj : j < n) (h0 : 0 < j) (hp : (j - 1) / 2 = i) : lt (W (kid lt W n i)) (W j) = false := by
  have : j = 2 * i + 1 ∨ j = 2 * i + 2 := by omega
  unfold kid
  split
  · rename_i c
    rcases this with rfl | rfl
    · exact h.asy _ _ c.2
    · exact h.irr _
  · rename_i c
    rcases this with rfl | rfl
    · exact h.irr _
    · cases e : lt (W (2 * i + 1)) (W (2 * i + 2)) with
      | false => rfl
      | true => exact absurd ⟨hj, e⟩ c
theorem sinkW_same : ∀ (f : Nat) (W : Nat → Nat) (n i : Nat), i < n → Same (sinkW lt n f W i) W n
  | 0, W, n, i, _ => Same.rfl'
  | f + 1, W, n, i, hi => by
    unfold sinkW
    split
    · exact Same.rfl'
    · rename_i c
      have hk : kid lt W n i < n := by omega
      exact (sinkW_same f _ n _ hk).trans (swp_same hi hk)
theorem sinkW_heap (h : Tot lt) : ∀ (f : Nat) (W : Nat → Nat) (n i : Nat), n ≤ i + f → i < n → Sunk lt W n i → Heap lt (sinkW lt n f W i) n
  | 0, W, n, i, hf, hi, _ => by omega
  | f + 1, W, n, i, hf, hi, s => by
    have hk := kid_or (lt := lt) W n i
    unfold sinkW
    split
    · rename_i c
      intro j h0 hj
      by_cases hp : (j - 1) / 2 = i
      · have h1 := kid_max h W hj h0 hp
        rcases c with c | c
        · exfalso
          have : kid lt W n i = 2 * i + 1 ∨ (2 * i + 2 < n ∧ kid lt W n i = 2 * i + 2) := by
            unfold kid; split
            · rename_i c2; exact .inr ⟨c2.1, rfl⟩
            · exact .inl rfl
          omega
        · rw [hp]; exact h.tra _ _ _ h1 c
      · exact s.ok j h0 hj hp
    · rename_i c
      have hkn : kid lt W n i < n := by omega
      have c2 : lt (W i) (W (kid lt W n i)) = true := by
        cases e : lt (W i) (W (kid lt W n i)) with
        | true => rfl
        | false => exact absurd (.inr e) c
      generalize hkk : kid lt W n i = k at *
      have hpk : (k - 1) / 2 = i := by omega
      apply sinkW_heap h f _ n k (by omega) hkn
      constructor
      · intro j h0 hj hp
        rw [swp_at, swp_at]
        by_cases j1 : j = k
        · rw [if_pos j1, j1, hpk, if_neg (by omega), if_pos rfl]
          exact h.asy _ _ c2
        · rw [if_neg j1, if_neg hp]
          by_cases p1 : (j - 1) / 2 = i
          · rw [if_pos p1, if_neg (by omega)]
            have := kid_max h W hj h0 p1
            rwa [hkk] at this
          · rw [if_neg p1]
            by_cases j2 : j = i
            · rw [if_pos j2, j2]
              exact s.over k (by omega) hkn hpk (by omega)
            · rw [if_neg j2]; exact s.ok j h0 hj p1
      · intro j h0 hj hp hk0
        rw [hpk, swp_at, swp_at, if_neg (by omega), if_pos rfl, if_neg (by omega), if_neg (by omega)]
        have := s.ok j h0 hj (by omega)
        rwa [hp] at this
theorem riseW_same : ∀ (f : Nat) (W : Nat → Nat) (n i : Nat), i < n → Same (riseW lt f W i) W n
  | 0, W, n, i, _ => Same.rfl'
  | f + 1, W, n, i, hi => by
    unfold riseW
    split
    · exact Same.rfl'
    split
    · exact Same.rfl'
    · exact (riseW_same f _ n _ (by omega)).trans (swp_same (by omega) hi)
theorem riseW_heap (h : Tot lt) : ∀ (f : Nat) (W : Nat → Nat) (n i : Nat), i ≤ f → i < n → Risen lt W n i → Heap lt (riseW lt f W i) n
  | 0, W, n, i, hf, hi, s => fun j h0 hj => s.ok j h0 hj (by omega)
  | f + 1, W, n, i, hf, hi, s => by
    unfold riseW
    split
    · exact fun j h0 hj => s.ok j h0 hj (by omega)
    rename_i i0
    split
    · rename_i c
      intro j h0 hj
      by_cases e : j = i
      · rw [e]; exact c
      · exact s.ok j h0 hj e
    · rename_i c
      have c2 : lt (W ((i - 1) / 2)) (W i) = true := by
        cases e : lt (W ((i - 1) / 2)) (W i) with
        | true => rfl
        | false => exact absurd e c
      generalize hu : (i - 1) / 2 = u at *
      apply riseW_heap h f _ n u (by omega) (by omega)
      have hup : ∀ j, 0 < j → j < n → (j - 1) / 2 = u → lt (W u) (W j) = true ∨ lt (W u) (W j) = false := fun j _ _ _ => by cases lt (W u) (W j) <;> simp
      constructor
      · intro j h0 hj hne
        rw [swp_at, swp_at]
        by_cases j1 : j = i
        · rw [if_pos j1, j1, hu, if_neg (by omega), if_pos rfl]
          exact h.asy _ _ c2
        · rw [if_neg j1, if_neg hne]
          by_cases p1 : (j - 1) / 2 = i
          · rw [if_pos p1]
            have := s.over j h0 hj p1 (by omega)
            rwa [hu] at this
          · rw [if_neg p1]
            by_cases p2 : (j - 1) / 2 = u
            · rw [if_pos p2]
              have h3 := s.ok j h0 hj j1
              rw [p2] at h3
              exact h.tra _ _ _ h3 (h.asy _ _ c2)
            · rw [if_neg p2]; exact s.ok j h0 hj j1
      · intro j h0 hj hp hu0
        have hup0 : lt (W ((u - 1) / 2)) (W u) = false := s.ok u hu0 (by omega) (by omega)
        rw [swp_at, swp_at, if_neg (by omega), if_neg (by omega)]
        by_cases j1 : j = i
        · rw [if_pos j1]; exact hup0
        · rw [if_neg j1, if_neg (by omega)]
          have h3 := s.ok j h0 hj j1
          rw [hp] at h3
          exact h.tra _ _ _ h3 hup0
theorem Heap.top (h : Tot lt) {W : Nat → Nat} {n : Nat} (k : Heap lt W n) : ∀ j, j < n → lt (W 0) (W j) = false
  | 0, _ => h.irr _
  | j + 1, hj => by
    have h1 := k (j + 1) (by omega) hj
    have h2 := Heap.top h k ((j + 1 - 1) / 2) (by omega)
    exact h.tra _ _ _ h1 h2
termination_by j => j
decreasing_by omega

/-! ### Gathering -/
/-- Is the heap made of the least of those asked for, up to e? -/
structure Gath (lt : Nat → Nat → Bool) (ask : Nat → Bool) (room : Nat) (W : Nat → Nat) (n e : Nat) : Prop where
  heap : Heap lt W n
  inj : Inj W n
  le : n ≤ room
  from_ : ∀ x, Isin W n x → x < e ∧ ask x = true
  rest : ∀ x, x < e → ask x = true → ¬ Isin W n x → n = room ∧ ∀ y, Isin W n y → lt y x = true
theorem Gath.nil {ask : Nat → Bool} {room : Nat} {W : Nat → Nat} : Gath lt ask room W 0 0 :=
  ⟨fun j _ h => by omega, fun i k h => by omega, by omega, fun x ⟨j, h, _⟩ => by omega, fun x h => by omega⟩
theorem Gath.skip {ask : Nat → Bool} {room : Nat} {W : Nat → Nat} {n e : Nat} (g : Gath lt ask room W n e) (h : ask e = false) : Gath lt ask room W n (e + 1) :=
  { g with from_ := fun x hx => by have := g.from_ x hx; exact ⟨by omega, this.2⟩
           rest := fun x hx ha hn => g.rest x (by
             have : x ≠ e := fun e1 => by rw [e1, h] at ha; cases ha
             omega) ha hn }
theorem upd_last_isin {W : Nat → Nat} {n e x : Nat} : Isin (upd W n e) (n + 1) x ↔ Isin W n x ∨ x = e := by
  constructor
  · rintro ⟨j, hj, rfl⟩
    unfold upd
    split
    · exact .inr rfl
    · exact .inl ⟨j, by omega, rfl⟩
  · rintro (⟨j, hj, rfl⟩ | rfl)
    · exact ⟨j, by omega, by unfold upd; rw [if_neg (by omega)]⟩
    · exact ⟨n, by omega, by unfold upd; rw [if_pos rfl]⟩
theorem Gath.rise (h : Tot lt) {ask : Nat → Bool} {room : Nat} {W : Nat → Nat} {n e : Nat} (g : Gath lt ask room W n e) (ha : ask e = true) (hn : n < room) : Gath lt ask room (riseW lt n (upd W n e) n) (n + 1) (e + 1) := by
  have hs := riseW_same (lt := lt) n (upd W n e) (n + 1) n (by omega)
  have hm : ∀ x, Isin (riseW lt n (upd W n e) n) (n + 1) x ↔ Isin W n x ∨ x = e := fun x => (hs.mem x).trans upd_last_isin
  refine ⟨riseW_heap h n _ (n + 1) n (by omega) (by omega) ⟨fun j h0 hj hne => ?_, fun j h0 hj hp hn0 => by omega⟩, hs.inj fun i k hi hk he => ?_, by omega, fun x hx => ?_, fun x hx hax hno => ?_⟩
  · unfold upd; rw [if_neg (by omega), if_neg (by omega)]; exact g.heap j h0 (by omega)
  · unfold upd at he
    split at he <;> split at he
    · omega
    · have := (g.from_ (W k) ⟨k, by omega, rfl⟩).1; omega
    · have := (g.from_ (W i) ⟨i, by omega, rfl⟩).1; omega
    · exact g.inj i k (by omega) (by omega) he
  · rcases (hm x).1 hx with h1 | rfl
    · have := g.from_ x h1; exact ⟨by omega, this.2⟩
    · exact ⟨by omega, ha⟩
  · have h1 : x ≠ e := fun e1 => hno ((hm x).2 (.inr e1))
    have := (g.rest x (by omega) hax fun h2 => hno ((hm x).2 (.inl h2))).1
    omega
def Tri (lt : Nat → Nat → Bool) (B : Nat) : Prop := ∀ a b, a < B → b < B → lt a b = false → a ≠ b → lt b a = true
theorem Gath.full (h : Tot lt) {B : Nat} (tri : Tri lt B) {ask : Nat → Bool} {room : Nat} {W : Nat → Nat} {e : Nat} (g : Gath lt ask room W room e) (he : e < B) (h0 : 0 < room) (hl : lt e (W 0) = false) : Gath lt ask room W room (e + 1) := by
  refine { g with from_ := fun x hx => by have := g.from_ x hx; exact ⟨by omega, this.2⟩, rest := fun x hx hax hno => ?_ }
  rcases Nat.lt_succ_iff_lt_or_eq.1 hx with h1 | rfl
  · exact g.rest x h1 hax hno
  · refine ⟨rfl, fun y hy => ?_⟩
    obtain ⟨j, hj, rfl⟩ := hy
    have h1 := g.heap.top h j hj
    have h3 : lt x (W j) = false := h.tra (W j) (W 0) x h1 hl
    have h4 := (g.from_ _ ⟨j, hj, rfl⟩).1
    exact tri _ _ he (by omega) h3 (fun e1 => hno ⟨j, hj, e1.symm⟩)
theorem Tot.trans (h : Tot lt) {a b c : Nat} (h1 : lt a b = true) (h2 : lt b c = true) : lt a c = true := by
  cases e : lt a c with
  | true => rfl
  | false =>
    have := h.tra c a b e (h.asy _ _ h1)
    rw [h2] at this; cases this
theorem upd_top_isin {W : Nat → Nat} {n e x : Nat} (h0 : 0 < n) (hi : Inj W n) : Isin (upd W 0 e) n x ↔ (Isin W n x ∧ x ≠ W 0) ∨ x = e := by
  constructor
  · rintro ⟨j, hj, rfl⟩
    unfold upd
    split
    · exact .inr rfl
    · rename_i c
      exact .inl ⟨⟨j, hj, rfl⟩, fun e1 => c (hi _ _ hj h0 e1)⟩
  · rintro (⟨⟨j, hj, rfl⟩, h1⟩ | rfl)
    · exact ⟨j, hj, by unfold upd; rw [if_neg (fun e1 => h1 (by rw [e1]))]⟩
    · exact ⟨0, h0, by unfold upd; rw [if_pos rfl]⟩
theorem Gath.swap (h : Tot lt) {B : Nat} (tri : Tri lt B) {ask : Nat → Bool} {room : Nat} {W : Nat → Nat} {e : Nat} (g : Gath lt ask room W room e) (he : e < B) (h0 : 0 < room) (ha : ask e = true) (hl : lt e (W 0) = true) : Gath lt ask room (sinkW lt room room (upd W 0 e) 0) room (e + 1) := by
  have hs := sinkW_same (lt := lt) room (upd W 0 e) room 0 h0
  have hm : ∀ x, Isin (sinkW lt room room (upd W 0 e) 0) room x ↔ (Isin W room x ∧ x ≠ W 0) ∨ x = e := fun x => (hs.mem x).trans (upd_top_isin h0 g.inj)
  have hin : ∀ i, i < room → W i < e := fun i hi => (g.from_ _ ⟨i, hi, rfl⟩).1
  refine ⟨sinkW_heap h room _ room 0 (by omega) h0 ⟨fun j h1 hj hp => ?_, fun j h1 hj hp h2 => by omega⟩, hs.inj fun i k hi hk e1 => ?_, Nat.le_refl _, fun x hx => ?_, fun x hx hax hno => ⟨rfl, fun y hy => ?_⟩⟩
  · unfold upd; rw [if_neg (by omega), if_neg (by omega)]; exact g.heap j h1 hj
  · have a1 := hin i hi
    have a2 := hin k hk
    unfold upd at e1
    split at e1 <;> split at e1
    · omega
    · omega
    · omega
    · exact g.inj i k hi hk e1
  · rcases (hm x).1 hx with h1 | rfl
    · have := g.from_ x h1.1; exact ⟨by omega, this.2⟩
    · exact ⟨by omega, ha⟩
  · have hxe : x ≠ e := fun e1 => hno ((hm x).2 (.inr e1))
    have h00 := hin 0 h0
    by_cases hx0 : Isin W room x
    · have hx1 : x = W 0 := by
        by_cases c : x = W 0
        · exact c
        · exact absurd ((hm x).2 (.inl ⟨hx0, c⟩)) hno
      rw [hx1]
      rcases (hm y).1 hy with ⟨⟨j, hj, rfl⟩, h1⟩ | rfl
      · have := hin j hj
        exact tri _ _ (by omega) (by omega) (g.heap.top h j hj) (fun e1 => h1 e1.symm)
      · exact hl
    · have h1 := (g.rest x (by omega) hax hx0).2
      rcases (hm y).1 hy with ⟨h2, -⟩ | rfl
      · exact h1 y h2
      · exact h.trans hl (h1 _ ⟨0, h0, rfl⟩)

/-! ### Sorting -/
def sortW (lt : Nat → Nat → Bool) : Nat → (Nat → Nat) → (Nat → Nat)
  | 0, W => W
  | 1, W => W
  | n + 2, W => sortW lt (n + 1) (sinkW lt (n + 1) (n + 1) (swp W 0 (n + 1)) 0)
theorem Same.more {W V : Nat → Nat} {n : Nat} (h : Same W V n) (hi : Inj V (n + 1)) : Same W V (n + 1) := by
  refine ⟨fun x => ⟨?_, ?_⟩, fun _ => ?_, fun j hj => h.out j (by omega)⟩
  · rintro ⟨j, hj, rfl⟩
    rcases Nat.lt_succ_iff_lt_or_eq.1 hj with h1 | rfl
    · obtain ⟨k, hk, e⟩ := (h.mem _).1 ⟨j, h1, rfl⟩
      exact ⟨k, by omega, e⟩
    · exact ⟨j, hj, (h.out j (Nat.le_refl _)).symm⟩
  · rintro ⟨j, hj, rfl⟩
    rcases Nat.lt_succ_iff_lt_or_eq.1 hj with h1 | rfl
    · obtain ⟨k, hk, e⟩ := (h.mem _).2 ⟨j, h1, rfl⟩
      exact ⟨k, by omega, e⟩
    · exact ⟨j, hj, h.out j (Nat.le_refl _)⟩
  · have h1 : Inj V n := fun i k hi' hk => hi i k (by omega) (by omega)
    have h2 := h.inj h1
    have h3 := h.out n (Nat.le_refl _)
    intro i k hi' hk e
    rcases Nat.lt_succ_iff_lt_or_eq.1 hi' with a | a <;> rcases Nat.lt_succ_iff_lt_or_eq.1 hk with b | b
    · exact h2 i k a b e
    · obtain ⟨j, hj, e2⟩ := (h.mem _).1 ⟨i, a, rfl⟩
      rw [b, h3] at e
      have := hi j n (by omega) (by omega) (e2.trans e)
      omega
    · obtain ⟨j, hj, e2⟩ := (h.mem _).1 ⟨k, b, rfl⟩
      rw [a, h3] at e
      have := hi n j (by omega) (by omega) (e.trans e2.symm)
      omega
    · omega
theorem sortW_ok (h : Tot lt) {B : Nat} (tri : Tri lt B) : ∀ (n : Nat) (W : Nat → Nat), Heap lt W n → Inj W n → (∀ i, i < n → W i < B) →
    Same (sortW lt n W) W n ∧ ∀ i j, i < j → j < n → lt (sortW lt n W i) (sortW lt n W j) = true
  | 0, W, _, _, _ => ⟨Same.rfl', fun i j _ _ => by omega⟩
  | 1, W, _, _, _ => ⟨Same.rfl', fun i j _ _ => by omega⟩
  | n + 2, W, hh, hi, hB => by
    have s1 : Same (swp W 0 (n + 1)) W (n + 2) := swp_same (by omega) (by omega)
    have i1 := s1.inj hi
    have s2 := sinkW_same (lt := lt) (n + 1) (swp W 0 (n + 1)) (n + 1) 0 (by omega)
    have i2 : Inj (sinkW lt (n + 1) (n + 1) (swp W 0 (n + 1)) 0) (n + 1) := s2.inj fun i k a b => i1 i k (by omega) (by omega)
    have s3 := s2.more i1
    have i3 := s3.inj i1
    have h3 : Heap lt (sinkW lt (n + 1) (n + 1) (swp W 0 (n + 1)) 0) (n + 1) := by
      refine sinkW_heap h (n + 1) _ (n + 1) 0 (by omega) (by omega) ⟨fun j h1 hj hp => ?_, fun j h1 hj hp h2 => by omega⟩
      rw [swp_at, swp_at, if_neg (by omega), if_neg (by omega), if_neg (by omega), if_neg (by omega)]
      exact hh j h1 (by omega)
    have hmem : ∀ x, Isin (sinkW lt (n + 1) (n + 1) (swp W 0 (n + 1)) 0) (n + 2) x ↔ Isin W (n + 2) x := fun x => (s3.mem x).trans (s1.mem x)
    have hB3 : ∀ i, i < n + 2 → sinkW lt (n + 1) (n + 1) (swp W 0 (n + 1)) 0 i < B := fun i hi' => by
      obtain ⟨j, hj, e⟩ := (hmem _).1 ⟨i, hi', rfl⟩
      rw [← e]; exact hB j hj
    have htop : sinkW lt (n + 1) (n + 1) (swp W 0 (n + 1)) 0 (n + 1) = W 0 := by
      rw [s2.out (n + 1) (Nat.le_refl _), swp_at, if_pos rfl]
    unfold sortW
    generalize sinkW lt (n + 1) (n + 1) (swp W 0 (n + 1)) 0 = V at *
    obtain ⟨r1, r2⟩ := sortW_ok h tri (n + 1) V h3 i2 fun i hi' => hB3 i (by omega)
    have r3 := r1.more i3
    refine ⟨r3.trans (s3.trans s1), fun i j hij hj => ?_⟩
    rcases Nat.lt_succ_iff_lt_or_eq.1 hj with c | rfl
    · exact r2 i j hij c
    · rw [r1.out (n + 1) (Nat.le_refl _), htop]
      obtain ⟨k, hk, e⟩ := (r1.mem _).1 ⟨i, hij, rfl⟩
      obtain ⟨k2, hk2, e2⟩ := (hmem _).1 ⟨k, by omega, rfl⟩
      rw [← e, ← e2]
      refine tri _ _ (hB 0 (by omega)) (hB k2 hk2) (hh.top h k2 hk2) fun e3 => ?_
      rw [← htop, e2] at e3
      have := i3 (n + 1) k (by omega) (by omega) e3
      omega
/-- The words gathered and sorted are the next ones of the order. -/
theorem Gath.next (h : Tot lt) {B : Nat} (tri : Tri lt B) {ask : Nat → Bool} {room n : Nat} {W : Nat → Nat} (g : Gath lt ask room W n B) {p : List Nat} (hp : p.Pairwise fun a b => lt a b = true) (hm : ∀ x, x ∈ p ↔ x < B ∧ ask x = true) :
    (List.range n).map (sortW lt n W) = p.take room ∧ n = min room p.length := by
  obtain ⟨s, o⟩ := sortW_ok h tri n W g.heap g.inj fun i hi => (g.from_ _ ⟨i, hi, rfl⟩).1
  have hl : ((List.range n).map (sortW lt n W)).Pairwise fun a b => lt a b = true := by
    rw [List.pairwise_map]
    refine List.Pairwise.imp_of_mem ?_ List.pairwise_lt_range
    intro a b ha hb hab
    exact o a b hab (List.mem_range.1 hb)
  have hml : ∀ x, x ∈ (List.range n).map (sortW lt n W) ↔ Isin W n x := fun x => by
    rw [← s.mem x]
    simp only [List.mem_map, List.mem_range, Isin]
  have hlen : ((List.range n).map (sortW lt n W)).length = n := by simp
  have hnd : ∀ {l : List Nat}, l.Pairwise (fun a b => lt a b = true) → l.Nodup := fun {l} hl => hl.imp fun {a b} h1 e => by rw [e, h.irr] at h1; cases h1
  generalize (List.range n).map (sortW lt n W) = l at *
  have hq : (l ++ p.filter (fun x => decide (x ∉ l))).Pairwise fun a b => lt a b = true := by
    rw [List.pairwise_append]
    refine ⟨hl, hp.filter _, fun a ha b hb => ?_⟩
    rw [List.mem_filter, decide_eq_true_eq] at hb
    have hb1 := (hm b).1 hb.1
    exact (g.rest b hb1.1 hb1.2 fun c => hb.2 ((hml b).2 c)).2 a ((hml a).1 ha)
  have he : l ++ p.filter (fun x => decide (x ∉ l)) = p := by
    refine List.Perm.eq_of_pairwise (fun a b _ _ h1 h2 => ?_) hq hp ?_
    · rw [h.asy _ _ h1] at h2; cases h2
    · refine (List.perm_ext_iff_of_nodup (hnd hq) (hnd hp)).2 fun x => ?_
      rw [List.mem_append, List.mem_filter, decide_eq_true_eq]
      constructor
      · rintro (h1 | h1)
        · exact (hm x).2 (g.from_ x ((hml x).1 h1))
        · exact h1.1
      · intro h1
        by_cases c : x ∈ l
        · exact .inl c
        · exact .inr ⟨h1, c⟩
  have hpl : n ≤ p.length := by rw [← he, List.length_append, hlen]; omega
  by_cases c : n = room
  · refine ⟨?_, by omega⟩
    rw [← he, ← c, ← hlen, List.take_left]
  · have hall : ∀ x ∈ p, x ∈ l := fun x hx => by
      by_cases c2 : x ∈ l
      · exact c2
      · have hx1 := (hm x).1 hx
        exact absurd (g.rest x hx1.1 hx1.2 fun c3 => c2 ((hml x).2 c3)).1 c
    have hf : p.filter (fun x => decide (x ∉ l)) = [] := by
      rw [List.filter_eq_nil_iff]
      intro x hx
      simp [hall x hx]
    rw [hf, List.append_nil] at he
    have := g.le
    refine ⟨?_, by rw [← he, hlen]; omega⟩
    rw [← he, List.take_of_length_le (by omega)]
end
end AM
end Go.Proofs.Ytlphmnhkkhcjfaa
