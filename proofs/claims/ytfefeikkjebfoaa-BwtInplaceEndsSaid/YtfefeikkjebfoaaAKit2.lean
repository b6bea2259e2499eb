/-
  WORDS FOR WALKS ON THE ABSTRACT MACHINE, more of them. Conditions: none.
-/
import Derived.Test.YtfefeikkjebfoaaAKit
namespace Go.Proofs.Ytfefeikkjebfoaa
namespace AM
open Go Go.RowKit

/-- A law's end, whatever memory is left. -/
theorem gc_bool (σ : St) (base : Nat) (b : Bool) (hq : List Blk) (L : Nat) (H : List Nat) : ∃ τ, gcX σ (gc base [.bool b] ⟨hq, L, H, []⟩) = some (.bool b, τ) := by
  unfold gc
  split
  · exact ⟨_, rfl⟩
  · simp [refs, refsF, refsC]
    exact ⟨_, rfl⟩
theorem sliceF_3 (esz b o n e : Nat) (s : Option Nat) (k1 k2 k3 : IntKind) (i j m : Int) : sliceF esz (.slice (some ⟨b, o, s⟩) n e) (some (.int k1 i)) (some (.int k2 j)) (some (.int k3 m)) = if e = 0 ∨ e = esz then (if 0 ≤ i ∧ i ≤ j ∧ j ≤ m ∧ m ≤ n then some (.slice (some ⟨b, o + i.toNat * esz, s⟩) (j.toNat - i.toNat) 0) else none) else none := by
  simp only [sliceF, cuts, boundv]
  split
  · by_cases h1 : 0 ≤ m ∧ m ≤ (n : Int)
    · rw [if_pos h1]
      simp only [Option.bind_some]
      by_cases h2 : 0 ≤ j ∧ j ≤ (m.toNat : Int)
      · rw [if_pos h2]
        simp only [Option.bind_some]
        by_cases h3 : 0 ≤ i ∧ i ≤ (j.toNat : Int)
        · rw [if_pos h3, if_pos (by omega)]; rfl
        · rw [if_neg h3, if_neg (by omega)]; rfl
      · rw [if_neg h2, if_neg (by omega)]; rfl
    · rw [if_neg h1, if_neg (by omega)]; rfl
  · rfl
theorem contains_range0 {lo k i : Nat} (h : i < lo ∨ lo + k ≤ i) : (List.range' lo k).contains i = false := by
  have := contains_range (H := []) h
  rw [List.append_nil] at this
  rw [this]; rfl
theorem Fit.nil {n L : Nat} (h : L ≤ n) : Fit n L [] := ⟨h, Low.nil n⟩
theorem Fit.range0 {n L lo k : Nat} (h : L ≤ n) (h2 : lo + k ≤ n) : Fit n L (List.range' lo k) := by
  have := Low.range (Low.nil n) h2
  rw [List.append_nil] at this
  exact ⟨h, this⟩
/-- An append to a block without room, where nothing old may be written. -/
theorem append_bare {hp : List Blk} {L b : Nat} {H d : List Nat} {l : List Nat} (hb : hp[b]? = some (.cells 0 true [])) (hL : b < L) (hh : H.contains b = false) (h0 : l ≠ []) (hs : l.length ≤ 1048576) :
    St.append ⟨hp, L, H, d⟩ true 1 (.slice (some ⟨b, 0, some 0⟩) 0 1) l.length (u8s l) = some (.slice (some ⟨hp.length, 0, some l.length⟩) l.length 1, ⟨hp ++ [.cells l.length true (u8s l)], L, H, d⟩) := by
  have h1 : ¬ l.length = 0 := fun h => h0 (List.eq_nil_of_length_eq_zero h)
  have hk : St.blk ⟨hp, L, H, d⟩ ⟨b, 0, some 0⟩ = some (true, []) := by unfold St.blk; simp only [hh, hb]; simp
  have hbare : St.bare ⟨hp, L, H, d⟩ ⟨b, 0, some 0⟩ = true := by unfold St.bare; rw [hk]
  simp only [St.append]
  rw [if_neg h1, if_pos (by simp; omega), hbare, if_pos (by simp), if_pos (by simp [small, u8s_sc, u8s_cellv]; omega)]
  simp
theorem append_zero {σ : St} {pl : Bool} {esz n e : Nat} {a : Addr} {vs : List Value} : St.append σ pl esz (.slice (some a) n e) 0 vs = some (.slice (some a) n e, σ) := rfl
theorem zip_map_fst {α β γ : Type} (l : List (α × β)) (f : β → γ) : (l.map (·.1)).zip ((l.map (·.2)).map f) = l.map fun p => (p.1, f p.2) := by
  induction l with
  | nil => rfl
  | cons x l ih => simp only [List.map_cons, List.zip_cons_cons, ih]
/-- The end of a loop's round: one new block is kept. -/
theorem gcFr_one {hp nw : List Blk} {fr : Fr} {L : Nat} {H : List Nat} (k : Nat) {g : Nat} {cs : List Value} (hk : nw[k]? = some (.cells g true cs)) (hv : ∀ p ∈ fr, ∀ r ∈ refs p.2, r < hp.length ∨ r = hp.length + k) (hx : ∃ p ∈ fr, hp.length + k ∈ refs p.2) :
    gcFr hp.length fr ⟨hp ++ nw, L, H, []⟩ = some (fr.map fun p => (p.1, ren (AM.one hp.length (hp.length + k)) p.2), ⟨hp ++ [.cells g true cs], L, H, []⟩) := by
  unfold gcFr
  obtain ⟨p, hp1, hp2⟩ := hx
  rw [gc_one hk (fun v hv' r hr => by
    obtain ⟨p, hp', rfl⟩ := List.mem_map.1 hv'
    exact hv p hp' r hr) ⟨p.2, List.mem_map.2 ⟨p, hp1, rfl⟩, hp2⟩ rfl]
  simp only [Option.map_some, zip_map_fst]
end AM
end Go.Proofs.Ytfefeikkjebfoaa
