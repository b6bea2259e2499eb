/-
  THE ARENA: spans lie apart, the loops on the abstract machine. Conditions: none.
-/
import Derived.Test.YtlbdgbfblgjjgaaBwC
import Derived.Test.YtlbdgbfblgjjgaaARows
set_option linter.all false
namespace Go.Proofs.Ytlbdgbfblgjjgaa
namespace AM
open Go Go.RowKit
theorem gcFr_put_one {hp nw : List Blk} {fr : Fr} {L r q : Nat} {H : List Nat} {A : Arn} (hr : r < hp.length) (hq : q < hp.length) (k : Nat) {g : Nat} {cs : List Value} (hk : nw[k]? = some (.cells g true cs)) (hv : ∀ p ∈ fr, ∀ x ∈ refs p.2, x < hp.length ∨ x = hp.length + k) (hx : ∃ p ∈ fr, hp.length + k ∈ refs p.2) :
    gcFr hp.length fr ⟨put (hp ++ nw) r q A, L, H, []⟩ = some (fr.map fun p => (p.1, ren (AM.one hp.length (hp.length + k)) p.2), ⟨put (hp ++ [.cells g true cs]) r q A, L, H, []⟩) := by
  rw [← put_app hr hq, ← put_app hr hq]
  have := gcFr_one (hp := put hp r q A) (nw := nw) (fr := fr) (L := L) (H := H) k hk (by rw [put_length]; exact hv) (by rw [put_length]; exact hx)
  rwa [put_length] at this
theorem gcFr_put_cut {hp nw : List Blk} {fr : Fr} {L r q : Nat} {H : List Nat} {A : Arn} (hr : r < hp.length) (hq : q < hp.length) (k : Nat) (hk : k ≤ nw.length) (hv : ∀ p ∈ fr, ∀ x ∈ refs p.2, x < hp.length + k) :
    gcFr (hp.length + k) fr ⟨put (hp ++ nw) r q A, L, H, []⟩ = some (fr, ⟨put (hp ++ nw.take k) r q A, L, H, []⟩) := by
  rw [← put_app hr hq, ← put_app hr hq]
  have := gcFr_cut (hp := put hp r q A) (nw := nw) (fr := fr) (L := L) (H := H) k hk (by rw [put_length]; exact hv)
  rwa [put_length] at this
theorem all2 (a b : Int) : [Value.int .i64 a, .int .i64 b].all cellv = true ∧ [Value.int .i64 a, .int .i64 b].all AM.sc = true := ⟨rfl, rfl⟩
/-- An append of rows of cells. -/
theorem rows_nil {hp : List Blk} {L : Nat} {H d : List Nat} {vs : List Value} (h1 : vs.all cellv = true) (h2 : vs.all AM.sc = true) : St.append ⟨hp, L, H, d⟩ true 2 (.slice none 0 0) 1 vs = some (.slice (some ⟨hp.length, 0, some 2⟩) 1 2, ⟨hp ++ [.cells 2 true vs], L, H, d⟩) := by
  simp [St.append, h1, h2, small]
theorem rows_end {hp : List Blk} {L b k : Nat} {H d : List Nat} {cs vs : List Value} (hb : hp[b]? = some (.cells (k * 2) true cs)) (hc : cs.length = k * 2) (hL : L ≤ b) (hh : H.contains b = false) (h1 : vs.all cellv = true) (h2 : vs.all AM.sc = true) (hs : k ≤ 1000) :
    St.append ⟨hp, L, H, d⟩ true 2 (.slice (some ⟨b, 0, some (k * 2)⟩) k 2) 1 vs = some (.slice (some ⟨b, 0, some ((k + 1) * 2)⟩) (k + 1) 2, ⟨hp.set b (.cells ((k + 1) * 2) true (cs ++ vs)), L, H, d⟩) := by
  have hk : St.blk ⟨hp, L, H, d⟩ ⟨b, 0, some (k * 2)⟩ = some (true, cs) := by unfold St.blk; simp only [hh, hb]; simp
  have h3 : ¬ b < L := by omega
  have hsm : small ((k + 1) * 2) = true := by simp [small]; omega
  simp only [St.append, hk]
  simp [h1, h2, h3, hc, hsm, addDirty]
theorem rows_nil2 {hp : List Blk} {L : Nat} {H d : List Nat} (a b : Int) : St.append ⟨hp, L, H, d⟩ true 2 (.slice none 0 0) 1 [.int .i64 a, .int .i64 b] = some (.slice (some ⟨hp.length, 0, some 2⟩) 1 2, ⟨hp ++ [.cells 2 true [.int .i64 a, .int .i64 b]], L, H, d⟩) := rows_nil (all2 a b).1 (all2 a b).2
end AM
namespace ArA
open Go Go.RowKit AM ArEnv

def cl (z : Int) : Nat := (min (max z 0) 100).toNat
theorem cl_eq (z : Int) : min (max z 0) 100 = (cl z : Int) := by unfold cl; omega
theorem cl_le (z : Int) : cl z ≤ 100 := by unfold cl; omega
def tot (ns : List Nat) (k : Nat) : Nat := (ns.take k).sum
theorem tot_zero (ns : List Nat) : tot ns 0 = 0 := rfl
theorem tot_succ {ns : List Nat} {k : Nat} (h : k < ns.length) : tot ns (k + 1) = tot ns k + ns[k] := by
  unfold tot; rw [List.take_succ_eq_append_getElem h, List.sum_append]; simp
theorem tot_le {ns : List Nat} (h : ∀ n ∈ ns, n ≤ 100) : ∀ k, k ≤ ns.length → tot ns k ≤ 100 * k
  | 0, _ => by simp [tot]
  | k + 1, hk => by
    have := tot_le h k (by omega)
    have h2 := h ns[k] (List.getElem_mem hk)
    rw [tot_succ hk]; omega
theorem tot_mono {ns : List Nat} {j : Nat} : ∀ d, j + d ≤ ns.length → tot ns j ≤ tot ns (j + d)
  | 0, _ => Nat.le_refl _
  | d + 1, h => Nat.le_trans (tot_mono d (by omega)) (by rw [← Nat.add_assoc, tot_succ (by omega)]; omega)
theorem tot_mono' {ns : List Nat} {j k : Nat} (h : j ≤ k) (hk : k ≤ ns.length) : tot ns j ≤ tot ns k := by
  have := tot_mono (ns := ns) (j := j) (k - j) (by omega)
  rwa [show j + (k - j) = k by omega] at this
def spR (ns : List Nat) (j : Nat) : List Value := [.int .i64 (tot ns j : Nat), .int .i64 (ns.getD j 0 : Nat)]
def spC (ns : List Nat) (k : Nat) : List Value := ((List.range k).map (spR ns)).flatten
theorem spC_lens (ns : List Nat) (k : Nat) : ∀ l ∈ (List.range k).map (spR ns), l.length = 2 := fun l hl => by
  obtain ⟨j, _, rfl⟩ := List.mem_map.1 hl; rfl
theorem spC_len (ns : List Nat) (k : Nat) : (spC ns k).length = k * 2 := by
  unfold spC; rw [flat_len (spC_lens ns k)]; simp
theorem spC_succ (ns : List Nat) (k : Nat) : spC ns (k + 1) = spC ns k ++ spR ns k := by
  unfold spC; rw [List.range_succ]; simp
theorem spC_at {ns : List Nat} {k j : Nat} (h : j < k) : (spC ns k)[j * 2]? = some (.int .i64 (tot ns j : Nat)) := by
  have := flat_get (spC_lens ns k) j 0 (by omega)
  unfold spC
  rw [Nat.add_zero] at this
  rw [this]; simp [h, spR]
theorem spC_len_at {ns : List Nat} {k j : Nat} (h : j < k) : (spC ns k)[j * 2 + 1]? = some (.int .i64 (ns.getD j 0 : Nat)) := by
  have := flat_get (spC_lens ns k) j 1 (by omega)
  unfold spC
  rw [this]; simp [h, spR]
theorem spC_row {ns : List Nat} {k j : Nat} (h : j < k) : ((spC ns k).drop (j * 2)).take 2 = spR ns j := by
  apply List.ext_getElem?
  intro i
  have e0 := spC_at (ns := ns) h
  have e1 := spC_len_at (ns := ns) h
  match i with
  | 0 => rw [List.getElem?_take_of_lt (by omega), List.getElem?_drop, Nat.add_zero, e0]; rfl
  | 1 => rw [List.getElem?_take_of_lt (by omega), List.getElem?_drop, e1]; rfl
  | i + 2 => rw [List.getElem?_eq_none (by simp; omega), List.getElem?_eq_none (by simp [spR])]
theorem spR_cellv (ns : List Nat) (k : Nat) : (spR ns k).all cellv = true := rfl
theorem spR_scs (ns : List Nat) (k : Nat) : (spR ns k).all AM.sc = true := rfl
/-- The spans' block, and the spans. -/
def spB (ns : List Nat) (k : Nat) : List Blk := if k = 0 then [] else [.cells (k * 2) true (spC ns k)]
def spV (n k : Nat) : Value := if k = 0 then .slice none 0 0 else .slice (some ⟨n, 0, some (k * 2)⟩) k 2
def zs0 (T : Nat) : Arn := Arn.laid 2000 (List.replicate T 0)

/-- What the span k holds. -/
def want (ok : Bool) (w k : Nat) (i : Int) (c j : Nat) : Nat := if ok = true ∧ k = w ∧ (j : Int) = i then c else 0
/-- The arena's bytes behind the one that was set. -/
def afterB (tt at0 : Nat) (ok : Bool) (i : Int) (c : Nat) : List Nat := if ok = true then (List.replicate tt 0).set (at0 + i.toNat) c else List.replicate tt 0
theorem afterB_len (tt at0 : Nat) (ok : Bool) (i : Int) (c : Nat) : (afterB tt at0 ok i c).length = tt := by
  unfold afterB; split <;> simp
theorem afterB_by {tt at0 : Nat} {ok : Bool} {i : Int} {c : Nat} (hc : c < 256) : By (afterB tt at0 ok i c) := by
  unfold afterB
  split
  · intro x hx
    rcases List.mem_or_eq_of_mem_set hx with h | rfl
    · rw [List.mem_replicate] at h; omega
    · exact hc
  · intro x hx; rw [List.mem_replicate] at hx; omega
theorem afterB_get {tt at0 : Nat} {ok : Bool} {i : Int} {c m : Nat} (h : m < tt) : (afterB tt at0 ok i c)[m]? = some (if ok = true ∧ m = at0 + i.toNat then c else 0) := by
  unfold afterB
  split
  · rename_i hk
    rw [List.getElem?_set]
    by_cases e : at0 + i.toNat = m
    · subst e; simp [hk, h]
    · have : ¬ m = at0 + i.toNat := fun q => e q.symm
      simp [e, this, h]
  · rename_i hk
    simp [hk, h]
def spanB (ns : List Nat) (w k : Nat) (ok : Bool) (i : Int) (c : Nat) : List Nat := ((afterB (tot ns ns.length) (tot ns w) ok i c).drop (tot ns k)).take (ns.getD k 0)
theorem spanB_len {ns : List Nat} {w k : Nat} {ok : Bool} {i : Int} {c : Nat} (hk : k < ns.length) : (spanB ns w k ok i c).length = ns.getD k 0 := by
  have h1 := tot_succ hk
  have h2 := tot_mono' (ns := ns) (j := k + 1) (k := ns.length) (by omega) (Nat.le_refl _)
  have h3 : ns.getD k 0 = ns[k] := by rw [List.getD_eq_getElem?_getD, List.getElem?_eq_getElem hk]; rfl
  simp [spanB, afterB_len]
  rw [List.getD_eq_getElem?_getD] at h3
  omega
theorem spanB_want {ns : List Nat} {w k : Nat} {ok : Bool} {i : Int} {c : Nat} (hk : k < ns.length) (hw : w < ns.length) (hok : ok = true → 0 ≤ i ∧ i < ns.getD w 0) (j : Nat) (h : j < (spanB ns w k ok i c).length) : (spanB ns w k ok i c)[j] = want ok w k i c j := by
  have hl := spanB_len (ns := ns) (w := w) (k := k) (ok := ok) (i := i) (c := c) hk
  have h3 : ∀ k (hk : k < ns.length), ns.getD k 0 = ns[k] := fun k hk => by rw [List.getD_eq_getElem?_getD, List.getElem?_eq_getElem hk]; rfl
  have h1 := tot_succ hk
  have h2 := tot_mono' (ns := ns) (j := k + 1) (k := ns.length) (by omega) (Nat.le_refl _)
  have g1 := tot_succ hw
  rw [h3 k hk] at hl
  have hget : (spanB ns w k ok i c)[j]? = some (if ok = true ∧ tot ns k + j = tot ns w + i.toNat then c else 0) := by
    unfold spanB
    rw [List.getElem?_take_of_lt (by rw [h3 k hk]; omega), List.getElem?_drop, afterB_get (by omega)]
  rw [List.getElem?_eq_getElem h] at hget
  injection hget with hget
  rw [hget]
  unfold want
  cases ok with
  | false => simp
  | true =>
    obtain ⟨i0, i1⟩ := hok rfl
    rw [h3 w hw] at i1
    have key : (tot ns k + j = tot ns w + i.toNat) ↔ (k = w ∧ (j : Int) = i) := by
      constructor
      · intro e
        rcases Nat.lt_trichotomy k w with hkw | hkw | hkw
        · have := tot_mono' (ns := ns) (j := k + 1) (k := w) hkw (by omega)
          omega
        · subst hkw; exact ⟨rfl, by omega⟩
        · have := tot_mono' (ns := ns) (j := w + 1) (k := k) hkw (by omega)
          omega
      · rintro ⟨rfl, e⟩; omega
    simp only [true_and]
    by_cases q : tot ns k + j = tot ns w + i.toNat
    · rw [if_pos q, if_pos (key.1 q)]
    · rw [if_neg q, if_neg (fun e => q (key.2 e))]
end ArA
end Go.Proofs.Ytlbdgbfblgjjgaa
