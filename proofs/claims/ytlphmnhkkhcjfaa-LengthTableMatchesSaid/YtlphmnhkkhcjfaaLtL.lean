/-
  LENGTH TABLES, the plain part: states that can be reached, and how many bits lead there. Conditions: none.
-/
import Derived.Test.YtlphmnhkkhcjfaaLtP
set_option linter.all false
section
namespace Go.Proofs.Ytlphmnhkkhcjfaa
namespace LtA
open Go Go.RowKit AM ArEnv Bt

theorem Ts.ext_iff' {a b : Ts} : a = b ↔ a.l = b.l ∧ a.sym = b.sym ∧ a.bits = b.bits ∧ a.now = b.now ∧ a.way = b.way := by
  cases a; cases b
  simp
instance : DecidableEq Ts := fun a b => decidable_of_iff _ Ts.ext_iff'.symm
theorem Ts.ext' {a b : Ts} (h1 : a.l = b.l) (h2 : a.sym = b.sym) (h3 : a.bits = b.bits) (h4 : a.now = b.now) (h5 : a.way = b.way) : a = b := Ts.ext_iff'.2 ⟨h1, h2, h3, h4, h5⟩
/-! ### Rows of adjustments -/
theorem chg_len (was now : Nat) : ((chg was now).length : Int) = 2 * (((now : Int) - was).natAbs : Int) + 1 := by
  unfold chg
  split <;> (rw [List.length_append, rep_length, List.length_singleton]; omega)
theorem adj_congr {x y : List Nat} : ∀ (n i was : Nat), (∀ j, j < n → x.getD (i + j) 0 = y.getD (i + j) 0) → adj x n i was = adj y n i was
  | 0, _, _, _ => rfl
  | n + 1, i, was, h => by
    have h0 := h 0 (by omega)
    rw [Nat.add_zero] at h0
    rw [adj, adj, h0, adj_congr (x := x) (y := y) n (i + 1) _ fun j hj => by rw [Nat.add_assoc, Nat.add_comm 1 j]; exact h (j + 1) (by omega)]
def lastW (x : List Nat) (was i : Nat) : Nat → Nat
  | 0 => was
  | n + 1 => x.getD (i + n) 0
theorem adj_snoc (x : List Nat) : ∀ (n i was : Nat), adj x (n + 1) i was = adj x n i was ++ chg (lastW x was i n) (x.getD (i + n) 0)
  | 0, i, was => by simp [adj, lastW]
  | n + 1, i, was => by
    rw [adj, adj_snoc x n (i + 1) _, adj, List.append_assoc]
    congr 3
    · cases n with
      | zero => rfl
      | succ n => simp only [lastW]; congr 1; omega
    · congr 1; omega
theorem adj_set {x : List Nat} {k n : Nat} (was : Nat) (h : k < x.length) : adj (x.set k n) (k + 1) 0 was = adj x k 0 was ++ chg (lastW x was 0 k) n := by
  rw [adj_snoc]
  have e1 : ∀ j, j < k → (x.set k n).getD (0 + j) 0 = x.getD (0 + j) 0 := fun j hj => by
    rw [List.getD_eq_getElem?_getD, List.getElem?_set_ne (by omega), ← List.getD_eq_getElem?_getD]
  rw [adj_congr k 0 was e1]
  congr 2
  · cases k with
    | zero => rfl
    | succ k => simp only [lastW]; exact e1 k (by omega)
  · rw [List.getD_eq_getElem?_getD, Nat.zero_add, List.getElem?_set_self h]; rfl
/-! ### States on the way -/
def turnedP (was now way : Int) : Prop := if way = 0 then was = now else if way = 1 then was < now else was > now
instance (was now way : Int) : Decidable (turnedP was now way) := by unfold turnedP; infer_instance
def wasF (f : Nat) (c : Ts) : Nat := lastW c.l f 0 c.sym.toNat
structure Far (f : Nat) (c : Ts) (i : Nat) : Prop where
  bits0 : 4 ≤ c.bits
  bits1 : c.bits ≤ 5
  sym0 : 0 ≤ c.sym
  sym1 : c.sym ≤ 258
  now0 : 0 ≤ c.now
  now1 : c.now ≤ 15
  way0 : 0 ≤ c.way
  way1 : c.way ≤ 2
  len : c.l.length = 258
  lens : ∀ s, c.l.getD s 0 ≤ 15
  zero : ∀ s, c.sym.toNat ≤ s → c.l.getD s 0 = 0
  turn : turnedP (wasF f c) c.now c.way
  fin : c.sym = 258 → c.bits = 4 ∧ c.way = 0 ∧ kTable c.l = true
  f15 : f ≤ 15
  pl : (i : Int) = 4 + (adj c.l c.sym.toNat 0 f).length + 2 * ((c.now - wasF f c).natAbs : Int) + (c.bits - 4)
structure Near (c : Ts) (i : Nat) : Prop where
  l : c.l = zs
  sym : c.sym = 0
  bits : c.bits = i
  i3 : i ≤ 3
  now0 : 0 ≤ c.now
  now1 : c.now < 2 ^ i
  way : c.way = 0
def Come (c : Ts) (i : Nat) : Prop := Near c i ∨ ∃ f, Far f c i
theorem zs_getD (s : Nat) : zs.getD s 0 = 0 := by
  unfold zs
  rw [List.getD_eq_getElem?_getD, List.getElem?_replicate]
  split <;> rfl
theorem come0 : Come z0 0 := .inl ⟨rfl, rfl, rfl, by omega, by decide, by decide, rfl⟩
theorem getD_set (l : List Nat) (k n s : Nat) (h : k < l.length) : (l.set k n).getD s 0 = if s = k then n else l.getD s 0 := by
  rw [List.getD_eq_getElem?_getD, List.getElem?_set]
  by_cases e : k = s
  · subst e; rw [if_pos rfl, if_pos h, if_pos rfl]; rfl
  · rw [if_neg e, if_neg (Ne.symm e), ← List.getD_eq_getElem?_getD]
theorem pow2_le {i : Nat} (h : i ≤ 3) : (2 : Int) ^ i ≤ 8 := by
  rcases (by omega : i = 0 ∨ i = 1 ∨ i = 2 ∨ i = 3) with e | e | e | e <;> subst e <;> decide
theorem Come.next {c : Ts} {i b : Nat} (h : Come c i) (hs : c.sym < 258) (hb : b < 2) (ok : (nextF c b).2 = true) : Come (nextF c b).1 (i + 1) := by
  rcases h with h | ⟨f, h⟩
  · have hp : (2 : Int) ^ (i + 1) = 2 * 2 ^ i := by rw [Int.pow_succ]; omega
    have n0 := h.now0
    have n1 := h.now1
    have i3 := h.i3
    have hl8 := pow2_le i3
    have eb := h.bits
    unfold nextF
    rw [if_pos (by omega)]
    by_cases e : i = 3
    · subst e
      have e8 : (2 : Int) ^ 3 = 8 := by decide
      have es := h.sym
      refine .inr ⟨(c.now * 2 + b).toNat, ?_⟩
      have w0 : ∀ l b1 n w, wasF (c.now * 2 + b).toNat ⟨l, c.sym, b1, n, w⟩ = (c.now * 2 + b).toNat := fun _ _ _ _ => by unfold wasF; simp only [es]; rfl
      exact ⟨by show (4 : Int) ≤ c.bits + 1; omega, by show c.bits + 1 ≤ 5; omega, by show 0 ≤ c.sym; omega, by show c.sym ≤ 258; omega, by show 0 ≤ c.now * 2 + b; omega, by show c.now * 2 + b ≤ 15; omega, by show 0 ≤ c.way; have := h.way; omega, by show c.way ≤ 2; have := h.way; omega,
        by show c.l.length = 258; rw [h.l]; exact zs_length, fun s => by show c.l.getD s 0 ≤ 15; rw [h.l, zs_getD]; omega, fun s _ => by show c.l.getD s 0 = 0; rw [h.l, zs_getD],
        by show turnedP ((wasF _ (⟨c.l, c.sym, c.bits + 1, c.now * 2 + b, c.way⟩ : Ts) : Nat) : Int) (c.now * 2 + b) c.way; rw [w0, h.way]; unfold turnedP; rw [if_pos rfl]; omega,
        fun hh => by have := h.sym; exact absurd hh (by show ¬ c.sym = 258; omega), by omega, by
          show ((3 + 1 : Nat) : Int) = 4 + ((adj c.l c.sym.toNat 0 _).length : Int) + 2 * ((c.now * 2 + b - ((wasF _ (⟨c.l, c.sym, c.bits + 1, c.now * 2 + b, c.way⟩ : Ts) : Nat) : Int)).natAbs : Int) + (c.bits + 1 - 4)
          rw [w0, h.sym]
          simp only [Int.toNat_zero, adj, List.length_nil]
          omega⟩
    · exact .inl ⟨h.l, h.sym, by show c.bits + 1 = ((i + 1 : Nat) : Int); omega, by omega, by show 0 ≤ c.now * 2 + b; omega, by show c.now * 2 + b < 2 ^ (i + 1); omega, h.way⟩
  · have b0 := h.bits0
    have b1 := h.bits1
    have s0 := h.sym0
    have n0 := h.now0
    have n1 := h.now1
    have w0 := h.way0
    have w1 := h.way1
    have pl := h.pl
    have tn := h.turn
    unfold nextF at ok ⊢
    rw [if_neg (by omega)] at ok ⊢
    by_cases c4 : c.bits = 4
    · rw [if_pos c4] at ok ⊢
      by_cases c0 : b = 0
      · rw [if_pos c0] at ok ⊢
        refine .inr ⟨f, ?_⟩
        have hk : c.sym.toNat < c.l.length := by have := h.len; omega
        have hg := fun s => getD_set c.l c.sym.toNat c.now.toNat s hk
        have ew : ∀ b1 n w, wasF f ⟨c.l.set c.sym.toNat c.now.toNat, c.sym + 1, b1, n, w⟩ = c.now.toNat := fun b1 n w => by
          unfold wasF
          simp only [show (c.sym + 1).toNat = c.sym.toNat + 1 by omega, lastW]
          rw [Nat.zero_add, hg, if_pos rfl]
        have ea := adj_set (x := c.l) (k := c.sym.toNat) (n := c.now.toNat) f hk
        have el := chg_len (lastW c.l f 0 c.sym.toNat) c.now.toNat
        exact ⟨h.bits0, h.bits1, by show 0 ≤ c.sym + 1; omega, by show c.sym + 1 ≤ 258; omega, n0, n1, by show (0 : Int) ≤ 0; decide, by show (0 : Int) ≤ 2; decide, by show (c.l.set _ _).length = 258; rw [List.length_set]; exact h.len,
          fun s => by
            show (c.l.set _ _).getD s 0 ≤ 15
            rw [hg]
            split
            · omega
            · exact h.lens s,
          fun s hs' => by
            show (c.l.set _ _).getD s 0 = 0
            have hs'' : (c.sym + 1).toNat ≤ s := hs'
            rw [hg, if_neg (by omega)]
            exact h.zero s (by omega),
          by show turnedP ((wasF f (⟨c.l.set c.sym.toNat c.now.toNat, c.sym + 1, c.bits, c.now, 0⟩ : Ts) : Nat) : Int) c.now 0; rw [ew]; unfold turnedP; rw [if_pos rfl]; omega,
          fun hh => by
            have h2 : c.sym + 1 = 258 := hh
            refine ⟨c4, rfl, ?_⟩
            rw [decide_eq_false (by omega), Bool.false_or] at ok
            exact ok,
          h.f15, by
            show ((i + 1 : Nat) : Int) = 4 + ((adj (c.l.set c.sym.toNat c.now.toNat) (c.sym + 1).toNat 0 f).length : Int) + 2 * ((c.now - ((wasF f (⟨c.l.set c.sym.toNat c.now.toNat, c.sym + 1, c.bits, c.now, 0⟩ : Ts) : Nat) : Int)).natAbs : Int) + (c.bits - 4)
            rw [ew, show (c.sym + 1).toNat = c.sym.toNat + 1 by omega, ea, List.length_append]
            unfold wasF at pl
            omega⟩
      · rw [if_neg c0] at ok ⊢
        exact .inr ⟨f, ⟨by show (4 : Int) ≤ 5; decide, by show (5 : Int) ≤ 5; decide, s0, h.sym1, n0, n1, w0, w1, h.len, h.lens, h.zero, tn, fun hh => by have h2 : c.sym = 258 := hh; omega, h.f15, by
          show ((i + 1 : Nat) : Int) = 4 + ((adj c.l c.sym.toNat 0 f).length : Int) + 2 * ((c.now - wasF f c).natAbs : Int) + (5 - 4)
          omega⟩⟩
    · rw [if_neg c4] at ok ⊢
      have ew : ∀ b1 n w, wasF f ⟨c.l, c.sym, b1, n, w⟩ = wasF f c := fun _ _ _ => rfl
      unfold turnedP at tn
      by_cases c0 : b = 0
      · rw [if_pos c0] at ok ⊢
        simp only [Bool.and_eq_true, decide_eq_true_eq] at ok
        have hw : (wasF f c : Int) ≤ c.now := by
          split at tn
          · omega
          · split at tn
            · omega
            · omega
        exact .inr ⟨f, ⟨by show (4 : Int) ≤ 4; decide, by show (4 : Int) ≤ 5; decide, s0, h.sym1, by show 0 ≤ c.now + 1; omega, by show c.now + 1 ≤ 15; omega, by show (0 : Int) ≤ 1; decide, by show (1 : Int) ≤ 2; decide, h.len, h.lens, h.zero,
          by show turnedP ((wasF f (⟨c.l, c.sym, 4, c.now + 1, 1⟩ : Ts) : Nat) : Int) (c.now + 1) 1; rw [ew]; unfold turnedP; rw [if_neg (by decide), if_pos rfl]; omega,
          fun hh => by have h2 : c.sym = 258 := hh; omega, h.f15, by
            show ((i + 1 : Nat) : Int) = 4 + ((adj c.l c.sym.toNat 0 f).length : Int) + 2 * ((c.now + 1 - ((wasF f (⟨c.l, c.sym, 4, c.now + 1, 1⟩ : Ts) : Nat) : Int)).natAbs : Int) + (4 - 4)
            rw [ew]
            omega⟩⟩
      · rw [if_neg c0] at ok ⊢
        simp only [Bool.and_eq_true, decide_eq_true_eq] at ok
        have hw : (wasF f c : Int) ≥ c.now := by
          split at tn
          · omega
          · split at tn
            · omega
            · omega
        exact .inr ⟨f, ⟨by show (4 : Int) ≤ 4; decide, by show (4 : Int) ≤ 5; decide, s0, h.sym1, by show 0 ≤ c.now - 1; omega, by show c.now - 1 ≤ 15; omega, by show (0 : Int) ≤ 2; decide, by show (2 : Int) ≤ 2; decide, h.len, h.lens, h.zero,
          by show turnedP ((wasF f (⟨c.l, c.sym, 4, c.now - 1, 2⟩ : Ts) : Nat) : Int) (c.now - 1) 2; rw [ew]; unfold turnedP; rw [if_neg (by decide), if_neg (by decide)]; omega,
          fun hh => by have h2 : c.sym = 258 := hh; omega, h.f15, by
            show ((i + 1 : Nat) : Int) = 4 + ((adj c.l c.sym.toNat 0 f).length : Int) + 2 * ((c.now - 1 - ((wasF f (⟨c.l, c.sym, 4, c.now - 1, 2⟩ : Ts) : Nat) : Int)).natAbs : Int) + (4 - 4)
            rw [ew]
            omega⟩⟩
theorem Come.len {c : Ts} {i : Nat} (h : Come c i) : c.l.length = 258 := by
  rcases h with h | ⟨f, h⟩
  · rw [h.l]; exact zs_length
  · exact h.len
theorem by_of_getD {l : List Nat} (h : ∀ s, l.getD s 0 ≤ 15) : By l := fun x hx => by
  obtain ⟨i, hi, rfl⟩ := List.mem_iff_getElem.1 hx
  have := h i
  rw [List.getD_eq_getElem?_getD, List.getElem?_eq_getElem hi] at this
  have h2 : l[i] ≤ 15 := this
  omega
theorem Come.by_ {c : Ts} {i : Nat} (h : Come c i) : By c.l := by
  rcases h with h | ⟨f, h⟩
  · exact by_of_getD fun s => by rw [h.l, zs_getD]; omega
  · exact by_of_getD h.lens
theorem Come.ok {c : Ts} {i : Nat} (h : Come c i) (hs : c.sym < 258) : TsOk c := by
  have hl := h.len
  have hb := h.by_
  rcases h with h | ⟨f, h⟩
  · have := h.i3
    have eb := h.bits
    have n1 := h.now1
    have := pow2_le h.i3
    exact ⟨hl, hb, by have := h.sym; omega, hs, by omega, by omega, h.now0, by omega, fun _ => by rw [eb, Int.toNat_natCast]; exact n1⟩
  · exact ⟨hl, hb, h.sym0, hs, by have := h.bits0; omega, h.bits1, h.now0, h.now1, fun hh => by have := h.bits0; omega⟩
/-! ### Rows of bits -/
def trail : Ts → List Nat → Option Ts
  | c, [] => some c
  | c, b :: l => if c.sym < 258 ∧ (nextF c b).2 = true then trail (nextF c b).1 l else none
theorem trail_append {c : Ts} {l m : List Nat} : trail c (l ++ m) = (trail c l).bind fun o => trail o m := by
  induction l generalizing c with
  | nil => rfl
  | cons b l ih =>
    simp only [List.cons_append, trail]
    split
    · exact ih
    · rfl
theorem trail_come {l : List Nat} (hb : Bits l) : ∀ {c o : Ts} {i : Nat}, Come c i → trail c l = some o → Come o (i + l.length) := by
  induction l with
  | nil => intro c o i h e; simp only [trail, Option.some.injEq] at e; subst e; exact h
  | cons b l ih =>
    intro c o i h e
    simp only [trail] at e
    split at e
    · rename_i hc
      have := ih (fun x hx => hb x (by simp [hx])) (h.next hc.1 (hb b (by simp)) hc.2) e
      rw [List.length_cons, Nat.add_comm l.length 1, ← Nat.add_assoc]
      exact this
    · cases e
theorem readF_cons {c : Ts} {b i : Nat} {r : List Int} (hb : b < 2) (h : (nextF c b).2 = true) (hs : (nextF c b).1.sym ≠ 258) : readF c ((b : Int) :: r) i = readF (nextF c b).1 r (i + 1) := by
  rw [readF, if_pos (by omega), Int.toNat_natCast, if_pos h, if_neg hs]
theorem trail_sym {l : List Nat} {c o : Ts} (h : trail c l = some o) (hs : o.sym < 258) : c.sym < 258 := by
  cases l with
  | nil => simp only [trail, Option.some.injEq] at h; subst h; exact hs
  | cons b l =>
    simp only [trail] at h
    split at h
    · rename_i hc; exact hc.1
    · cases h
def il (l : List Nat) : List Int := l.map fun b : Nat => (b : Int)
theorem trail_read {l : List Nat} (hb : Bits l) : ∀ {c o : Ts} {r : List Int} {i : Nat}, trail c l = some o → o.sym < 258 → readF c (il l ++ r) i = readF o r (i + l.length) := by
  induction l with
  | nil => intro c o r i h hs; simp only [trail, Option.some.injEq] at h; subst h; rfl
  | cons b l ih =>
    intro c o r i h hs
    simp only [trail] at h
    split at h
    · rename_i hc
      have hs1 := trail_sym h hs
      show readF c ((b : Int) :: (il l ++ r)) i = _
      rw [readF_cons (hb b (by simp)) hc.2 (by omega), ih (fun x hx => hb x (by simp [hx])) h hs, List.length_cons]
      congr 1
      omega
    · cases h
theorem snoc_of {l : List Nat} (h : l ≠ []) : ∃ m b, l = m ++ [b] := ⟨l.dropLast, l.getLast h, (List.dropLast_concat_getLast h).symm⟩
theorem trail_end {l : List Nat} (hb : Bits l) (hl : l ≠ []) {c o : Ts} {r : List Int} {i : Nat} (h : trail c l = some o) (hs : o.sym = 258) : readF c (il l ++ r) i = (o.l, ((i + l.length : Nat) : Int), 0) := by
  obtain ⟨m, b, rfl⟩ := snoc_of hl
  rw [trail_append] at h
  obtain ⟨c1, h1, h2⟩ := Option.bind_eq_some_iff.1 h
  simp only [trail] at h2
  split at h2
  · rename_i hc
    simp only [Option.some.injEq] at h2
    have e : il (m ++ [b]) ++ r = il m ++ ((b : Int) :: r) := by simp [il]
    rw [e, trail_read (fun x hx => hb x (by simp [hx])) h1 hc.1, readF, if_pos (by have := hb b (by simp); omega), Int.toNat_natCast, if_pos hc.2, if_pos (by rw [h2]; exact hs), h2, List.length_append]
    simp only [List.length_singleton, Int.natCast_add, Int.natCast_one, Int.add_assoc]
  · cases h2
/-! ### Where the encoding leads -/
theorem trail_rep0 {l : List Nat} {s : Int} (hs : s < 258) : ∀ (k : Nat) (n w : Int), 0 ≤ n → n + k ≤ 15 → w ≠ 2 → trail ⟨l, s, 4, n, w⟩ (rep 0 k) = some ⟨l, s, 4, n + k, if k = 0 then w else 1⟩
  | 0, n, w, _, _, _ => by simp [rep, trail]
  | k + 1, n, w, h0, h1, h2 => by
    have ih := trail_rep0 (l := l) hs k (n + 1) 1 (by omega) (by omega) (by decide)
    have hn : n < 15 := by omega
    rw [rep, trail, if_pos ⟨hs, by simp [nextF]⟩]
    have e1 : (nextF ⟨l, s, 4, n, w⟩ 1).1 = ⟨l, s, 5, n, w⟩ := by simp [nextF]
    rw [e1, trail, if_pos ⟨hs, by simp [nextF, h2, hn]⟩]
    have e2 : (nextF ⟨l, s, 5, n, w⟩ 0).1 = ⟨l, s, 4, n + 1, 1⟩ := by simp [nextF]
    rw [e2, ih]
    simp only [Option.some.injEq]
    refine Ts.ext' rfl rfl rfl (by show n + 1 + (k : Int) = n + ((k + 1 : Nat) : Int); omega) ?_
    show (if k = 0 then (1 : Int) else 1) = if k + 1 = 0 then w else 1
    rw [ite_self, if_neg (by omega)]
theorem trail_rep1 {l : List Nat} {s : Int} (hs : s < 258) : ∀ (k : Nat) (n w : Int), (k : Int) ≤ n → w ≠ 1 → trail ⟨l, s, 4, n, w⟩ (rep 1 k) = some ⟨l, s, 4, n - k, if k = 0 then w else 2⟩
  | 0, n, w, _, _ => by simp [rep, trail]
  | k + 1, n, w, h1, h2 => by
    have ih := trail_rep1 (l := l) hs k (n - 1) 2 (by omega) (by decide)
    have hn : n > 0 := by omega
    rw [rep, trail, if_pos ⟨hs, by simp [nextF]⟩]
    have e1 : (nextF ⟨l, s, 4, n, w⟩ 1).1 = ⟨l, s, 5, n, w⟩ := by simp [nextF]
    rw [e1, trail, if_pos ⟨hs, by simp [nextF, h2, hn]⟩]
    have e2 : (nextF ⟨l, s, 5, n, w⟩ 1).1 = ⟨l, s, 4, n - 1, 2⟩ := by simp [nextF]
    rw [e2, ih]
    simp only [Option.some.injEq]
    refine Ts.ext' rfl rfl rfl (by show n - 1 - (k : Int) = n - ((k + 1 : Nat) : Int); omega) ?_
    show (if k = 0 then (2 : Int) else 2) = if k + 1 = 0 then w else 2
    rw [ite_self, if_neg (by omega)]
/-- The adjustments without the 0 behind them. -/
def mv (was now : Nat) : List Nat := if now < was then rep 1 (was - now) else rep 0 (now - was)
theorem chg_mv (was now : Nat) : chg was now = mv was now ++ [0] := rfl
theorem mv_bits (was now : Nat) : Bits (mv was now) := by
  unfold mv
  split
  · exact rep_bits (by omega) _
  · exact rep_bits (by omega) _
def wayF (was now : Nat) : Int := if now < was then 2 else if was < now then 1 else 0
theorem trail_mv {l : List Nat} {s : Int} (hs : s < 258) {was now : Nat} (h1 : was ≤ 15) (h2 : now ≤ 15) : trail ⟨l, s, 4, was, 0⟩ (mv was now) = some ⟨l, s, 4, now, wayF was now⟩ := by
  unfold mv wayF
  by_cases c : now < was
  · rw [if_pos c, if_pos c, trail_rep1 hs _ _ _ (by omega) (by decide), if_neg (by omega)]
    congr 2; omega
  · rw [if_neg c, if_neg c, trail_rep0 hs _ _ _ (by omega) (by omega) (by decide)]
    by_cases c2 : was < now
    · rw [if_pos c2, if_neg (by omega)]; congr 2; omega
    · rw [if_neg c2, if_pos (by omega)]; congr 2; omega
theorem trail_chg {l : List Nat} {k : Nat} (hs : k < 258) {was now : Nat} (h1 : was ≤ 15) (h2 : now ≤ 15) (h : k + 1 < 258 ∨ kTable (l.set k now) = true) : trail ⟨l, k, 4, was, 0⟩ (chg was now) = some ⟨l.set k now, ((k + 1 : Nat) : Int), 4, now, 0⟩ := by
  have hk : ((k : Nat) : Int) < 258 := by omega
  rw [chg_mv, trail_append, trail_mv hk h1 h2, Option.bind_some, trail, if_pos ⟨hk, by
    simp only [nextF]
    rw [if_neg (by decide)]
    simp only [if_true, Int.toNat_natCast, Bool.or_eq_true, decide_eq_true_eq]
    rcases h with h | h
    · left; omega
    · right; exact h⟩]
  simp [nextF, trail]
/-- The lengths of the first symbols, the others 0. -/
def stg (x : List Nat) (i : Nat) : List Nat := x.take i ++ List.replicate (258 - i) 0
theorem stg_set {x : List Nat} (h : x.length = 258) {i : Nat} (hi : i < 258) : (stg x i).set i (x.getD i 0) = stg x (i + 1) := by
  unfold stg
  rw [List.set_append_right _ _ (by rw [List.length_take]; omega), List.length_take, Nat.min_eq_left (by omega), Nat.sub_self, show 258 - i = (258 - (i + 1)) + 1 by omega, List.replicate_succ, List.set_cons_zero, List.take_succ_eq_append_getElem (by omega), List.append_assoc, List.getD_eq_getElem?_getD, List.getElem?_eq_getElem (by omega)]
  rfl
theorem stg_all {x : List Nat} (h : x.length = 258) : stg x 258 = x := by
  unfold stg
  rw [List.take_of_length_le (by omega)]
  simp
theorem stg_zero (x : List Nat) : stg x 0 = zs := rfl
theorem trail_adj {x : List Nat} (hx : x.length = 258) (h15 : ∀ s, x.getD s 0 ≤ 15) : ∀ (n i was : Nat), was ≤ 15 → i + n ≤ 258 → (i + n = 258 → n ≠ 0 → kTable x = true) → trail ⟨stg x i, i, 4, was, 0⟩ (adj x n i was) = some ⟨stg x (i + n), ((i + n : Nat) : Int), 4, lastW x was i n, 0⟩
  | 0, i, was, _, _, _ => by simp [adj, trail, lastW]
  | n + 1, i, was, hw, hi, hk => by
    have hg := h15 i
    rw [adj, trail_append, trail_chg (by omega) hw hg (by
      rw [stg_set hx (by omega)]
      by_cases c : i + 1 = 258
      · right
        rw [c, stg_all hx]
        exact hk (by omega) (by omega)
      · left; omega), Option.bind_some, stg_set hx (by omega), trail_adj hx h15 n (i + 1) _ hg (by omega) (fun e1 e2 => hk (by omega) (by omega))]
    simp only [Option.some.injEq]
    refine Ts.ext' (by show stg x (i + 1 + n) = stg x (i + (n + 1)); congr 1; omega) (by show ((i + 1 + n : Nat) : Int) = ((i + (n + 1) : Nat) : Int); omega) rfl ?_ rfl
    show ((lastW x (x.getD i 0) (i + 1) n : Nat) : Int) = (lastW x was i (n + 1) : Nat)
    cases n with
    | zero => rfl
    | succ n => simp only [lastW]; congr 2; omega
theorem trail_f4 {w : Nat} (h : w ≤ 15) : trail z0 (f4 w 4) = some ⟨zs, 0, 4, w, 0⟩ := by
  have e : f4 w 4 = [w / 8 % 2, w / 4 % 2, w / 2 % 2, w % 2] := by
    simp [f4, List.range_succ]
  rw [e]
  generalize h3 : w / 8 % 2 = b3
  generalize h2 : w / 4 % 2 = b2
  generalize h1 : w / 2 % 2 = b1
  generalize h0 : w % 2 = b0
  have s1 : ∀ b, nextF z0 b = (⟨zs, 0, 1, 0 * 2 + b, 0⟩, true) := fun b => rfl
  have s2 : ∀ (b : Nat) (n : Int), nextF ⟨zs, 0, 1, n, 0⟩ b = (⟨zs, 0, 2, n * 2 + b, 0⟩, true) := fun b n => rfl
  have s3 : ∀ (b : Nat) (n : Int), nextF ⟨zs, 0, 2, n, 0⟩ b = (⟨zs, 0, 3, n * 2 + b, 0⟩, true) := fun b n => rfl
  have s4 : ∀ (b : Nat) (n : Int), nextF ⟨zs, 0, 3, n, 0⟩ b = (⟨zs, 0, 4, n * 2 + b, 0⟩, true) := fun b n => rfl
  simp only [trail, s1, s2, s3, s4, and_true, show z0.sym < 258 from by decide, show (0 : Int) < 258 by decide, if_true, Option.some.injEq]
  refine Ts.ext' rfl rfl rfl ?_ rfl
  show (((0 * 2 + (b3 : Int)) * 2 + b2) * 2 + b1) * 2 + b0 = (w : Int)
  omega
theorem table_getD {x : List Nat} (h : kTable x = true) (s : Nat) : x.getD s 0 ≤ 15 := by
  rw [List.getD_eq_getElem?_getD]
  rcases Nat.lt_or_ge s x.length with h1 | h1
  · rw [List.getElem?_eq_getElem h1]; exact table_le h _ (List.getElem_mem h1)
  · rw [List.getElem?_eq_none h1]; exact Nat.zero_le _
theorem trail_enc {x : List Nat} (hx : x.length = 258) (ht : kTable x = true) : trail z0 (encF x) = some ⟨x, 258, 4, (x.getD 257 0 : Nat), 0⟩ := by
  have h15 := table_getD ht
  have := trail_adj hx h15 258 0 (x.getD 0 0) (h15 0) (by omega) (fun _ _ => ht)
  unfold encF
  rw [trail_append, trail_f4 (h15 0), Option.bind_some]
  rw [stg_zero, Nat.zero_add, stg_all hx] at this
  exact this
theorem encF_ne (x : List Nat) : encF x ≠ [] := by
  intro h
  have := congrArg List.length h
  unfold encF at this
  rw [List.length_append, f4_length] at this
  simp at this
/-- What Read gives for an encoding, whatever follows. -/
theorem read_enc {x : List Nat} (hx : x.length = 258) (ht : kTable x = true) (r : List Int) : readF z0 (il (encF x) ++ r) 0 = (x, ((encF x).length : Int), 0) := by
  rw [trail_end (encF_bits x) (encF_ne x) (trail_enc hx ht) rfl, Nat.zero_add]
/-! ### How many bits at least -/
theorem adj_ge (x : List Nat) : ∀ (n i was : Nat), n ≤ (adj x n i was).length
  | 0, _, _ => Nat.zero_le _
  | n + 1, i, was => by
    have h1 := adj_ge x n (i + 1) (x.getD i 0)
    have h2 := chg_len was (x.getD i 0)
    rw [adj, List.length_append]
    omega
theorem encF_ge (x : List Nat) : 262 ≤ (encF x).length := by
  have := adj_ge x 258 0 (x.getD 0 0)
  unfold encF
  rw [List.length_append, f4_length]
  omega
theorem adj_min (x : List Nat) (n f : Nat) : (adj x n 0 (x.getD 0 0)).length ≤ (adj x n 0 f).length := by
  cases n with
  | zero => exact Nat.le_refl _
  | succ n =>
    have h1 := chg_len f (x.getD 0 0)
    have h2 := chg_len (x.getD 0 0) (x.getD 0 0)
    rw [adj, adj, List.length_append, List.length_append]
    omega
/-- Lengths that were read. -/
theorem Come.table {c : Ts} {i : Nat} (h : Come c i) (hs : c.sym = 258) : kTable c.l = true ∧ (encF c.l).length ≤ i ∧ i ≤ 8002 := by
  rcases h with h | ⟨f, h⟩
  · have := h.sym; omega
  · obtain ⟨h1, h2, h3⟩ := h.fin hs
    have pl := h.pl
    have tn := h.turn
    rw [h2] at tn
    unfold turnedP at tn
    rw [if_pos rfl] at tn
    rw [hs, show (258 : Int).toNat = 258 from rfl] at pl
    have hm := adj_min c.l 258 f
    have hl := adj_length h.lens 258 0 f h.f15
    refine ⟨h3, ?_, by omega⟩
    unfold encF
    rw [List.length_append, f4_length]
    omega
end LtA
end Go.Proofs.Ytlphmnhkkhcjfaa
end
