/-
  THE BIT WRITER's reference: a writer of numbers; a number's bits. Conditions: none.
-/
import Derived.Test.YtlphmnhkkhcjfaaBdD
set_option linter.all false
section
namespace Go.Proofs.Ytlphmnhkkhcjfaa
namespace Bt
open Go Go.RowKit AM ArEnv

def Rr (k : Nat) (l : List Nat) : Blk := .cells 0 false [slI k l]
def Ib (l : List Nat) : Blk := .cells l.length true (is l)
theorem Rr_some {k : Nat} {l : List Nat} (h : l.length ≠ 0) : Rr k l = .cells 0 false [.slice (some ⟨k, 0, some l.length⟩) l.length 1] := by simp [Rr, slI, h]
/-- The heap with the reference's bits. -/
def rset (hp : List Blk) (a k : Nat) (l : List Nat) : List Blk :=
  if l.length = 0 then hp else if k < hp.length then (hp.set a (Rr k l)).set k (Ib l) else hp.set a (Rr hp.length l) ++ [Ib l]
structure Rs (hp : List Blk) (L : Nat) (H : List Nat) (a k : Nat) (l : List Nat) : Prop where
  w : hp[a]? = some (Rr k l)
  b : l.length ≠ 0 → hp[k]? = some (Ib l)
  k0 : l.length = 0 → k = hp.length
  aL : L ≤ a
  kL : L ≤ k
  aH : H.contains a = false
  kH : H.contains k = false
  ne : a ≠ k
  bits : Bits l
def dirR (a : Nat) (m : List Nat) : List Nat := if m.length = 0 then [] else [a]
section
variable {hp hq : List Blk} {L : Nat} {H : List Nat} {a k : Nat} {l m : List Nat}
theorem Rs.lt (w : Rs hp L H a k l) : a < hp.length := (List.getElem?_eq_some_iff.1 w.w).1
theorem Rs.klt (w : Rs hp L H a k l) (h : l.length ≠ 0) : k < hp.length := (List.getElem?_eq_some_iff.1 (w.b h)).1
theorem Rs.kle (w : Rs hp L H a k l) : k ≤ hp.length := by
  by_cases h : l.length = 0
  · exact Nat.le_of_eq (w.k0 h)
  · exact Nat.le_of_lt (w.klt h)
theorem rset_nil (h : m.length = 0) : rset hp a k m = hp := by unfold rset; rw [if_pos h]
theorem rset_old (h : m.length ≠ 0) (hk : k < hp.length) : rset hp a k m = (hp.set a (Rr k m)).set k (Ib m) := by unfold rset; rw [if_neg h, if_pos hk]
theorem rset_new (h : m.length ≠ 0) : rset hp a hp.length m = hp.set a (Rr hp.length m) ++ [Ib m] := by unfold rset; rw [if_neg h, if_neg (by omega)]
/-- The blocks after new bits. -/
theorem Rs.rset (w : Rs hp L H a k l) (hm : m.length = 0 → l.length = 0) (hb : Bits m) : Rs (rset hp a k m) L H a k m := by
  by_cases h0 : m.length = 0
  · rw [rset_nil h0]
    have : m = [] := List.eq_nil_of_length_eq_zero h0
    subst this
    have hl : l = [] := List.eq_nil_of_length_eq_zero (hm rfl)
    subst hl
    exact w
  · by_cases hk : k < hp.length
    · rw [rset_old h0 hk]
      exact ⟨by rw [List.getElem?_set_ne (Ne.symm w.ne), List.getElem?_set_self w.lt], fun _ => by rw [List.getElem?_set_self (by simpa using hk)], fun h => absurd h h0, w.aL, w.kL, w.aH, w.kH, w.ne, hb⟩
    · have hk' : k = hp.length := by have := w.kle; omega
      have wlt := w.lt
      have wne := w.ne; have aL := w.aL; have kL := w.kL; have aH := w.aH; have kH := w.kH
      subst hk'
      rw [rset_new h0]
      exact ⟨by rw [List.getElem?_append_left (by simpa using wlt), List.getElem?_set_self wlt], fun _ => by rw [List.getElem?_append_right (by simp)]; simp, fun h => absurd h h0, aL, kL, aH, kH, wne, hb⟩
theorem rset_rset (w : Rs hp L H a k l) {n : List Nat} (hn : n.length ≠ 0) : rset (rset hp a k m) a k n = rset hp a k n := by
  by_cases h0 : m.length = 0
  · rw [rset_nil h0]
  · by_cases hk : k < hp.length
    · rw [rset_old h0 hk, rset_old hn hk, rset_old hn (by simpa using hk), List.set_comm _ _ (Ne.symm w.ne), List.set_set, List.set_set]
    · have hk' : k = hp.length := by have := w.kle; omega
      have wlt := w.lt
      subst hk'
      rw [rset_new h0, rset_new hn, rset_old hn (by simp), List.set_append_left _ _ (by simpa using wlt), List.set_set, List.set_append_right _ _ (by simp)]
      simp
theorem rset_length (w : Rs hp L H a k l) (hl : l.length ≠ 0) : (rset hp a k m).length = hp.length := by
  by_cases h0 : m.length = 0
  · rw [rset_nil h0]
  · rw [rset_old h0 (w.klt hl)]; simp
theorem Rr_refs (h : m.length ≠ 0) : refsB (Rr k m) = [k] := by rw [Rr_some h]; rfl
theorem rset_other (w : Rs hq L H a k l) {i : Nat} (hi : i < hq.length) (ha : i ≠ a) (hk : i ≠ k) : (rset hq a k m)[i]? = hq[i]? := by
  by_cases h0 : m.length = 0
  · rw [rset_nil h0]
  · by_cases hkl : k < hq.length
    · rw [rset_old h0 hkl, List.getElem?_set_ne (Ne.symm hk), List.getElem?_set_ne (Ne.symm ha)]
    · have hk' : k = hq.length := by have := w.kle; omega
      subst hk'
      rw [rset_new h0, List.getElem?_append_left (by simpa using hi), List.getElem?_set_ne (Ne.symm ha)]
/-- The blocks of the writer, with others behind all. -/
theorem Rs.app (w : Rs hp L H a k l) (hF : Fit hp.length L H) (nw : List Blk) : Rs (hp ++ nw) L H a (if l.length = 0 then hp.length + nw.length else k) l := by
  have hlt := w.lt
  by_cases h0 : l.length = 0
  · rw [if_pos h0]
    refine ⟨?_, fun h => absurd h0 h, fun _ => by simp, w.aL, by have := hF.1; omega, w.aH, hF.2.not (by omega), by omega, w.bits⟩
    have hn : l = [] := List.eq_nil_of_length_eq_zero h0
    subst hn
    rw [List.getElem?_append_left hlt, w.w]; rfl
  · rw [if_neg h0]
    exact ⟨by rw [List.getElem?_append_left hlt, w.w], fun h => by rw [List.getElem?_append_left (w.klt h), w.b h], fun h => absurd h h0, w.aL, w.kL, w.aH, w.kH, w.ne, w.bits⟩
end
/-! ### A number's bits -/
def sg (l : List Nat) : Nat := if l.length = 1 then 0 else l.length
def slN (k : Nat) (l : List Nat) : Value := if l.length = 0 then .slice none 0 0 else .slice (some ⟨k, 0, some (sg l)⟩) l.length 1
def slNB (l : List Nat) : List Blk := if l.length = 0 then [] else [.cells (sg l) true (is l)]
theorem append_isg {hp : List Blk} {L : Nat} {H d : List Nat} {b g : Nat} {l m : List Nat} (hb : hp[b]? = some (.cells g true (is l))) (hL : L ≤ b) (hh : H.contains b = false) (h0 : m.length ≠ 0) (hs : l.length + m.length ≤ 1048576) :
    St.append ⟨hp, L, H, d⟩ true 1 (.slice (some ⟨b, 0, some g⟩) l.length 1) m.length (is m) = some (.slice (some ⟨b, 0, some (l.length + m.length)⟩) (l.length + m.length) 1, ⟨hp.set b (.cells (l.length + m.length) true (is (l ++ m))), L, H, d⟩) := by
  have hsm : small (l.length + m.length) = true := by simp [small, hs]
  have hbl : St.blk ⟨hp, L, H, d⟩ ⟨b, 0, some g⟩ = some (true, is l) := by unfold St.blk; rw [hh, hb]; simp
  have hnl : ¬ b < L := by omega
  simp [St.append, h0, hsm, is_sc, is_cellv, hbl, hnl, is_length, addDirty]
  simp [is]
theorem tm2 (x : Nat) : (x : Int).tmod 2 = (x % 2 : Nat) := by rw [tmod_pos (by omega)]; omega
theorem td2 (x : Nat) : (x : Int).tdiv 2 = (x / 2 : Nat) := by rw [tdiv_pos (by omega)]; omega
/-! ### The reference's writer -/
section
variable {hp : List Blk} {L : Nat} {H : List Nat} {a k : Nat} {l m : List Nat}
end
end Bt
end Go.Proofs.Ytlphmnhkkhcjfaa
end
