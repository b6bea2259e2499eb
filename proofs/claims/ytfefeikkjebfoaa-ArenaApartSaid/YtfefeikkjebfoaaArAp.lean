/-
  THE ARENA: spans lie apart, the loops on the abstract machine. Conditions: none.
-/
import Derived.Test.YtfefeikkjebfoaaBwC
import Derived.Test.YtfefeikkjebfoaaARows
set_option linter.all false
namespace Go.Proofs.Ytfefeikkjebfoaa
namespace AM
open Go Go.RowKit
theorem gcFr_put_one {hp nw : List Blk} {fr : Fr} {L r q : Nat} {H : List Nat} {A : Arn} (hr : r < hp.length) (hq : q < hp.length) (k : Nat) {g : Nat} {cs : List Value} (hk : nw[k]? = some (.cells g true cs)) (hv : ∀ p ∈ fr, ∀ x ∈ refs p.2, x < hp.length ∨ x = hp.length + k) (hx : ∃ p ∈ fr, hp.length + k ∈ refs p.2) :
    gcFr hp.length fr ⟨put (hp ++ nw) r q A, L, H, []⟩ = some (fr.map fun p => (p.1, ren (AM.one hp.length (hp.length + k)) p.2), ⟨put (hp ++ [.cells g true cs]) r q A, L, H, []⟩) := by
  rw [← put_app hr hq, ← put_app hr hq]
  have := gcFr_one (hp := put hp r q A) (nw := nw) (fr := fr) (L := L) (H := H) k hk (by rw [put_length]; exact hv) (by rw [put_length]; exact hx)
  rwa [put_length] at this
theorem gcFr_put_cut {hp nw : List Blk} {fr : Fr} {L r q : Nat} {H : List Nat} {A : Arn} (hr : r < hp.length) (hq : q < hp.length) (k : Nat) (hk : k ≤ nw.length) (hv : ∀ p ∈ fr, ∀ x ∈ refs p.2, x < hp.length + k) :
    gcFr (hp.length + k) fr ⟨put (hp ++ nw) r q A, L, H, []⟩ = some (fr, ⟨put (hp ++ nw.take k) r q A, L, H, []⟩) := by
  rw [← put_app hr hq, ← put_app hr hq]
  have := gcFr_cut (hp := put hp r q A) (nw := nw) (fr := fr) (L := L) (H := H) k hk (by rw [put_length]; exact hv)
  rwa [put_length] at this
theorem all2 (a b : Int) : [Value.int .i64 a, .int .i64 b].all cellv = true ∧ [Value.int .i64 a, .int .i64 b].all AM.sc = true := ⟨rfl, rfl⟩
/-- An append of rows of cells. -/
theorem rows_nil {hp : List Blk} {L : Nat} {H d : List Nat} {vs : List Value} (h1 : vs.all cellv = true) (h2 : vs.all AM.sc = true) : St.append ⟨hp, L, H, d⟩ true 2 (.slice none 0 0) 1 vs = some (.slice (some ⟨hp.length, 0, some 2⟩) 1 2, ⟨hp ++ [.cells 2 true vs], L, H, d⟩) := by
  simp [St.append, h1, h2, small]
theorem rows_end {hp : List Blk} {L b k : Nat} {H d : List Nat} {cs vs : List Value} (hb : hp[b]? = some (.cells (k * 2) true cs)) (hc : cs.length = k * 2) (hL : L ≤ b) (hh : H.contains b = false) (h1 : vs.all cellv = true) (h2 : vs.all AM.sc = true) (hs : k ≤ 1000) :
    St.append ⟨hp, L, H, d⟩ true 2 (.slice (some ⟨b, 0, some (k * 2)⟩) k 2) 1 vs = some (.slice (some ⟨b, 0, some ((k + 1) * 2)⟩) (k + 1) 2, ⟨hp.set b (.cells ((k + 1) * 2) true (cs ++ vs)), L, H, d⟩) := by
  have hk : St.blk ⟨hp, L, H, d⟩ ⟨b, 0, some (k * 2)⟩ = some (true, cs) := by unfold St.blk; simp only [hh, hb]; simp
  have h3 : ¬ b < L := by omega
  have hsm : small ((k + 1) * 2) = true := by simp [small]; omega
  simp only [St.append, hk]
  simp [h1, h2, h3, hc, hsm, addDirty]
theorem rows_nil2 {hp : List Blk} {L : Nat} {H d : List Nat} (a b : Int) : St.append ⟨hp, L, H, d⟩ true 2 (.slice none 0 0) 1 [.int .i64 a, .int .i64 b] = some (.slice (some ⟨hp.length, 0, some 2⟩) 1 2, ⟨hp ++ [.cells 2 true [.int .i64 a, .int .i64 b]], L, H, d⟩) := rows_nil (all2 a b).1 (all2 a b).2
end AM
namespace ArA
open Go Go.RowKit AM ArEnv

def cl (z : Int) : Nat := (min (max z 0) 100).toNat
theorem cl_eq (z : Int) : min (max z 0) 100 = (cl z : Int) := by unfold cl; omega
theorem cl_le (z : Int) : cl z ≤ 100 := by unfold cl; omega
def tot (ns : List Nat) (k : Nat) : Nat := (ns.take k).sum
theorem tot_zero (ns : List Nat) : tot ns 0 = 0 := rfl
theorem tot_succ {ns : List Nat} {k : Nat} (h : k < ns.length) : tot ns (k + 1) = tot ns k + ns[k] := by
  unfold tot; rw [List.take_succ_eq_append_getElem h, List.sum_append]; simp
theorem tot_le {ns : List Nat} (h : ∀ n ∈ ns, n ≤ 100) : ∀ k, k ≤ ns.length → tot ns k ≤ 100 * k
  | 0, _ => by simp [tot]
  | k + 1, hk => by
    have := tot_le h k (by omega)
    have h2 := h ns[k] (List.getElem_mem hk)
    rw [tot_succ hk]; omega
theorem tot_mono {ns : List Nat} {j : Nat} : ∀ d, j + d ≤ ns.length → tot ns j ≤ tot ns (j + d)
  | 0, _ => Nat.le_refl _
  | d + 1, h => Nat.le_trans (tot_mono d (by omega)) (by rw [← Nat.add_assoc, tot_succ (by omega)]; omega)
theorem tot_mono' {ns : List Nat} {j k : Nat} (h : j ≤ k) (hk : k ≤ ns.length) : tot ns j ≤ tot ns k := by
  have := tot_mono (ns := ns) (j := j) (k - j) (by omega)
  rwa [show j + (k - j) = k by omega] at this
def spR (ns : List Nat) (j : Nat) : List Value := [.int .i64 (tot ns j : Nat), .int .i64 (ns.getD j 0 : Nat)]
def spC (ns : List Nat) (k : Nat) : List Value := ((List.range k).map (spR ns)).flatten
theorem spC_lens (ns : List Nat) (k : Nat) : ∀ l ∈ (List.range k).map (spR ns), l.length = 2 := fun l hl => by
  obtain ⟨j, _, rfl⟩ := List.mem_map.1 hl; rfl
theorem spC_len (ns : List Nat) (k : Nat) : (spC ns k).length = k * 2 := by
  unfold spC; rw [flat_len (spC_lens ns k)]; simp
theorem spC_succ (ns : List Nat) (k : Nat) : spC ns (k + 1) = spC ns k ++ spR ns k := by
  unfold spC; rw [List.range_succ]; simp
theorem spC_at {ns : List Nat} {k j : Nat} (h : j < k) : (spC ns k)[j * 2]? = some (.int .i64 (tot ns j : Nat)) := by
  have := flat_get (spC_lens ns k) j 0 (by omega)
  unfold spC
  rw [Nat.add_zero] at this
  rw [this]; simp [h, spR]
theorem spC_len_at {ns : List Nat} {k j : Nat} (h : j < k) : (spC ns k)[j * 2 + 1]? = some (.int .i64 (ns.getD j 0 : Nat)) := by
  have := flat_get (spC_lens ns k) j 1 (by omega)
  unfold spC
  rw [this]; simp [h, spR]
theorem spC_row {ns : List Nat} {k j : Nat} (h : j < k) : ((spC ns k).drop (j * 2)).take 2 = spR ns j := by
  apply List.ext_getElem?
  intro i
  have e0 := spC_at (ns := ns) h
  have e1 := spC_len_at (ns := ns) h
  match i with
  | 0 => rw [List.getElem?_take_of_lt (by omega), List.getElem?_drop, Nat.add_zero, e0]; rfl
  | 1 => rw [List.getElem?_take_of_lt (by omega), List.getElem?_drop, e1]; rfl
  | i + 2 => rw [List.getElem?_eq_none (by simp; omega), List.getElem?_eq_none (by simp [spR])]
theorem spR_cellv (ns : List Nat) (k : Nat) : (spR ns k).all cellv = true := rfl
theorem spR_scs (ns : List Nat) (k : Nat) : (spR ns k).all AM.sc = true := rfl
/-- The spans' block, and the spans. -/
def spB (ns : List Nat) (k : Nat) : List Blk := if k = 0 then [] else [.cells (k * 2) true (spC ns k)]
def spV (n k : Nat) : Value := if k = 0 then .slice none 0 0 else .slice (some ⟨n, 0, some (k * 2)⟩) k 2
def zs0 (T : Nat) : Arn := Arn.laid 2000 (List.replicate T 0)

theorem apart_take {hp : List Blk} {b : Nat} {zs : List Int} {c : Nat} {i wh : Int} (hb : hp[b]? = some (.cells 0 true (zs.map (Value.int .i64)))) (hn : zs.length ≤ 20) :
    ∀ (j k : Nat), k + j = zs.length → ∃ fr,
    Liter env lb6_2 [9, 0, 1, 3, 2, 13, 11, 12] (hp.length + 2) [(9, arP hp.length), (0, .slice (some ⟨b, 0, some 0⟩) zs.length 0), (1, .int .i64 wh), (3, .int .u8 c), (2, .int .i64 i), (13, .int .i64 k), (11, spV (hp.length + 2) k), (12, .int .i64 (tot (zs.map cl) k : Nat))]
      ⟨put (hp ++ (default :: default :: spB (zs.map cl) k)) hp.length (hp.length + 1) (zs0 (tot (zs.map cl) k)), hp.length, [], []⟩ =
      some (.exit 0, fr, ⟨put (hp ++ (default :: default :: spB (zs.map cl) zs.length)) hp.length (hp.length + 1) (zs0 (tot (zs.map cl) zs.length)), hp.length, [], []⟩) ∧
      fr.get 9 = some (arP hp.length) ∧ fr.get 1 = some (.int .i64 wh) ∧ fr.get 3 = some (.int .u8 c) ∧ fr.get 2 = some (.int .i64 i) ∧ fr.get 11 = some (spV (hp.length + 2) zs.length) ∧ fr.get 12 = some (.int .i64 (tot (zs.map cl) zs.length : Nat))
  | 0, k, e => by
    obtain rfl : k = zs.length := by omega
    rw [iter_by lb6_2.eq_1]
    simp (disch := (first | omega | (simp only [lnE, put_length] <;> omega) | (refine Fit.mono ‹Fit _ _ _› ?_; simp only [lnE, put_length] <;> omega) | (refine Fit.draw ‹Fit _ _ _› ?_ ?_ <;> (simp only [lnE, put_length] <;> omega)) | (refine Fit.hid1 ‹Fit _ _ _› ?_ ?_ <;> (simp only [lnE, put_length] <;> omega)) | (refine Fit.draw1 ‹Fit _ _ _› ?_ ?_ ?_ <;> (simp only [lnE, put_length] <;> omega)) | (refine Fit.range0 ?_ ?_ <;> (simp only [lnE, put_length] <;> omega)) | (refine ArOk.mono ‹ArOk _ _ _ _ _› ?_; simp only [lnE, put_length] <;> omega) | (refine ArOk.hid ‹ArOk _ _ _ _ _› ?_ ?_ <;> (simp only [lnE, put_length] <;> omega)) | (refine ArOk.hid0 ‹ArOk _ _ _ _ _› ?_ ?_ <;> (simp only [lnE, put_length] <;> omega)) | (intro xr hxr; simp [AM.refs, refsF, refsC] at hxr; simp only [lnE, put_length] <;> omega) | fail)) only [syA, List.isEmpty_nil, List.isEmpty_cons, List.nil_append, argFr, D, E, T, C, undefv, eqF, aeq, sheqs, sheq, Option.isNone_none, Option.isNone_some, Option.getD_some, Option.getD_none, rdCells, cellsOf, fill, putAt, if_true, if_false, reduceIte, ↓reduceIte, reduceCtorEq, decide_true, decide_false, decide_eq_true_eq, decide_eq_false_iff_not, decide_not, Bool.not_true, Bool.not_false, Bool.not_not, Bool.not_eq_true', Bool.and_true, Bool.true_and, Bool.and_false, Bool.false_and, Bool.and_self, Bool.or_true, Bool.true_or, Bool.or_false, Bool.false_or, Bool.or_self, Bool.false_eq_true, Bool.and_eq_true, Bool.or_eq_true, and_true, true_and, and_false, false_and, or_true, true_or, or_false, false_or, not_true_eq_false, not_false_eq_true, eq_self, Option.map_some, Option.map_none, Option.bind_some, Option.bind_none, Nat.reduceEqDiff, Nat.reduceAdd, Nat.reduceSub, Nat.reduceMul, Nat.reduceLT, Nat.reduceLeDiff, Nat.reducePow, Nat.testBit_eq_decide_div_mod_eq, Nat.reduceDiv, Nat.reduceMod, Nat.zero_add, Nat.add_zero, Nat.sub_self, Nat.le_refl, Nat.lt_irrefl, Nat.mul_one, Int.mul_one, Int.one_mul, Int.sub_zero, Int.add_zero, Int.zero_add, Int.reduceLT, Int.reduceLE, Int.reduceGT, Int.reduceGE, Int.reduceToNat, Int.reducePow, Int.reduceNeg, Int.reduceBEq, Int.reduceBNe, Int.reduceEq, Int.reduceAdd, Int.reduceSub, Int.reduceMul, beq_iff_eq, bne_iff_ne, bne_self_eq_false, bne_eq_false_iff_eq, beq_eq_false_iff_ne, ne_eq, beq_self_eq_true, List.all_cons, List.all_nil, cellv, sc, flatv, refs, refsF, refsC, List.flatMap_cons, List.flatMap_nil, List.append_nil, List.append_assoc, List.cons_append, List.length_append, List.length_set, Int.cast_ofNat_Int, List.length_cons, List.length_nil, List.getElem?_cons_zero, List.getElem?_cons_succ, List.set_cons_zero, List.set_cons_succ, List.take_succ_cons, List.take_zero, List.drop_zero, List.drop_succ_cons, List.contains_nil, Int.toNat_natCast, Int.lt_irrefl, Nat.min_eq_left, Nat.min_eq_right, syR, Int.le_refl]
    exact ⟨_, rfl, rfl, rfl, rfl, rfl, rfl, rfl⟩
  | j + 1, k, e => by
    have hk : k < zs.length := by omega
    have hkn : k < (zs.map cl).length := by simpa using hk
    obtain ⟨fr, e1, e2⟩ := apart_take hb hn (c := c) (i := i) (wh := wh) j (k + 1) (by omega)
    have hF : Fit hp.length hp.length [] := ⟨Nat.le_refl _, Low.nil _⟩
    have hbl : b < hp.length := (List.getElem?_eq_some_iff.1 hb).1
    have hle := tot_le (ns := zs.map cl) (fun n hn => by obtain ⟨z, _, rfl⟩ := List.mem_map.1 hn; exact cl_le z) (k + 1) hkn
    have hts := tot_succ hkn
    have hge : (zs.map cl)[k] = cl zs[k] := by simp
    have hgd : (zs.map cl).getD k 0 = cl zs[k] := by rw [List.getD_eq_getElem?_getD, List.getElem?_eq_getElem hkn, hge]; rfl
    rw [hge] at hts
    have hcl := cl_le zs[k]
    have hle' : tot (zs.map cl) (k + 1) ≤ 2000 := by omega
    have sm2 : small 2 = true := by decide
    have hmm := cl_eq zs[k]
    have hzk : (zs.map (Value.int .i64))[k]? = some (.int .i64 zs[k]) := by simp [hk]
    have h1 : (k : Int) < zs.length := by omega
    have h2 : 0 ≤ (k : Int) ∧ (k : Int) < zs.length := by omega
    have ht := laid_taken (N := 2000) (l := List.replicate (tot (zs.map cl) k) 0) (m := cl zs[k]) (by simp; omega)
    rw [List.replicate_append_replicate, ← hts, List.length_replicate] at ht
    have hok : ∀ T, T ≤ 2000 → ArOk (hp.length + 2) hp.length (hp.length + 1) [] (zs0 T) := fun T hT => ArOk.laid (by omega) (by omega) (by omega) (fun x hx => by rw [List.mem_replicate] at hx; omega) (by simp; omega) (by omega) rfl rfl
    have tk := fun nw => take_walk (d := []) (L := hp.length) (H := []) (hp := hp ++ (default :: default :: nw)) (r := hp.length) (q := hp.length + 1) (hF.mono (by simp)) ((hok (tot (zs.map cl) k) (by omega)).mono (by simp)) (by omega) (cl zs[k])
    have htt : (zs0 (tot (zs.map cl) k)).taken (cl zs[k]) = (zs0 (tot (zs.map cl) (k + 1)), ((tot (zs.map cl) k : Nat) : Int), ((cl zs[k] : Nat) : Int), 0) := ht
    simp only [htt] at tk
    have hadd : ((tot (zs.map cl) k : Nat) : Int) + (cl zs[k] : Nat) = (tot (zs.map cl) (k + 1) : Nat) := by omega
    have hrow : spR (zs.map cl) k = [.int .i64 (tot (zs.map cl) k : Nat), .int .i64 (cl zs[k] : Nat)] := by unfold spR; rw [hgd]
    have hsucc := spC_succ (zs.map cl) k
    rw [hrow] at hsucc
    generalize zs0 (tot (zs.map cl) k) = A at *
    generalize zs0 (tot (zs.map cl) (k + 1)) = A' at *
    simp only [Int.natCast_add, Int.natCast_one] at e1
    rw [iter_by lb6_2.eq_1]
    have up := hF.up1
    by_cases h0 : k = 0
    · subst h0
      have hB0 : spB (zs.map cl) 0 = [] := rfl
      have hV0 : spV (hp.length + 2) 0 = .slice none 0 0 := rfl
      have hB1 : spB (zs.map cl) (0 + 1) = [.cells 2 true (spC (zs.map cl) 1)] := rfl
      have hV1 : spV (hp.length + 2) (0 + 1) = .slice (some ⟨hp.length + 2, 0, some 2⟩) 1 2 := rfl
      rw [hB0, hV0]
      rw [hB1, hV1] at e1
      simp only [Int.natCast_zero, Nat.zero_add, Int.zero_add] at h1 h2 e1 hle' hadd tk hsucc hrow
      simp (disch := (first | omega | (simp only [lnE, put_length] <;> omega) | (refine Fit.mono ‹Fit _ _ _› ?_; simp only [lnE, put_length] <;> omega) | (refine Fit.draw ‹Fit _ _ _› ?_ ?_ <;> (simp only [lnE, put_length] <;> omega)) | (refine Fit.hid1 ‹Fit _ _ _› ?_ ?_ <;> (simp only [lnE, put_length] <;> omega)) | (refine Fit.draw1 ‹Fit _ _ _› ?_ ?_ ?_ <;> (simp only [lnE, put_length] <;> omega)) | (refine Fit.range0 ?_ ?_ <;> (simp only [lnE, put_length] <;> omega)) | (refine ArOk.mono ‹ArOk _ _ _ _ _› ?_; simp only [lnE, put_length] <;> omega) | (refine ArOk.hid ‹ArOk _ _ _ _ _› ?_ ?_ <;> (simp only [lnE, put_length] <;> omega)) | (refine ArOk.hid0 ‹ArOk _ _ _ _ _› ?_ ?_ <;> (simp only [lnE, put_length] <;> omega)) | (intro xr hxr; simp [AM.refs, refsF, refsC] at hxr; simp only [lnE, put_length] <;> omega) | fail)) only [syA, List.isEmpty_nil, List.isEmpty_cons, List.nil_append, argFr, D, E, T, C, undefv, eqF, aeq, sheqs, sheq, Option.isNone_none, Option.isNone_some, Option.getD_some, Option.getD_none, rdCells, cellsOf, fill, putAt, if_true, if_false, reduceIte, ↓reduceIte, reduceCtorEq, decide_true, decide_false, decide_eq_true_eq, decide_eq_false_iff_not, decide_not, Bool.not_true, Bool.not_false, Bool.not_not, Bool.not_eq_true', Bool.and_true, Bool.true_and, Bool.and_false, Bool.false_and, Bool.and_self, Bool.or_true, Bool.true_or, Bool.or_false, Bool.false_or, Bool.or_self, Bool.false_eq_true, Bool.and_eq_true, Bool.or_eq_true, and_true, true_and, and_false, false_and, or_true, true_or, or_false, false_or, not_true_eq_false, not_false_eq_true, eq_self, Option.map_some, Option.map_none, Option.bind_some, Option.bind_none, Nat.reduceEqDiff, Nat.reduceAdd, Nat.reduceSub, Nat.reduceMul, Nat.reduceLT, Nat.reduceLeDiff, Nat.reducePow, Nat.testBit_eq_decide_div_mod_eq, Nat.reduceDiv, Nat.reduceMod, Nat.zero_add, Nat.add_zero, Nat.sub_self, Nat.le_refl, Nat.lt_irrefl, Nat.mul_one, Int.mul_one, Int.one_mul, Int.sub_zero, Int.add_zero, Int.zero_add, Int.reduceLT, Int.reduceLE, Int.reduceGT, Int.reduceGE, Int.reduceToNat, Int.reducePow, Int.reduceNeg, Int.reduceBEq, Int.reduceBNe, Int.reduceEq, Int.reduceAdd, Int.reduceSub, Int.reduceMul, beq_iff_eq, bne_iff_ne, bne_self_eq_false, bne_eq_false_iff_eq, beq_eq_false_iff_ne, ne_eq, beq_self_eq_true, List.all_cons, List.all_nil, cellv, sc, flatv, refs, refsF, refsC, List.flatMap_cons, List.flatMap_nil, List.append_nil, List.append_assoc, List.cons_append, List.length_append, List.length_set, Int.cast_ofNat_Int, List.length_cons, List.length_nil, List.getElem?_cons_zero, List.getElem?_cons_succ, List.set_cons_zero, List.set_cons_succ, List.take_succ_cons, List.take_zero, List.drop_zero, List.drop_succ_cons, List.contains_nil, Int.toNat_natCast, Int.lt_irrefl, Nat.min_eq_left, Nat.min_eq_right, syR, Int.le_refl, hF.not0, hF.not1, hF.up0, hF.up1, h1, h2, hb, hbl, hzk, hmm, tk, hadd, sm2, rows_nil2]
      have hrow1 : spC (zs.map cl) 1 = [.int .i64 (tot (zs.map cl) 0 : Nat), .int .i64 (cl zs[0] : Nat)] := by rw [hsucc]; rfl
      have hg := gcFr_put_one (hp := hp ++ [default, default]) (L := hp.length) (H := []) (A := A') (r := hp.length) (q := hp.length + 1)
        (nw := [Blk.cells 0 true [Value.int .i64 (tot (zs.map cl) 0 : Nat), .int .i64 (cl zs[0] : Nat)], Blk.cells 0 true [Value.int .i64 (tot (zs.map cl) 0 : Nat), .int .i64 (cl zs[0] : Nat)], Blk.cells 2 true [Value.int .i64 (tot (zs.map cl) 0 : Nat), .int .i64 (cl zs[0] : Nat)]])
        (fr := [(9, arP hp.length), (0, .slice (some ⟨b, 0, some 0⟩) zs.length 0), (1, .int .i64 wh), (3, .int .u8 c), (2, .int .i64 i), (13, .int .i64 1), (11, .slice (some ⟨hp.length + 4, 0, some 2⟩) 1 2), (12, .int .i64 (tot (zs.map cl) 1 : Nat))])
        (by simp) (by simp) 2 rfl (by simp [refs, refsF, refsC, arP]; omega) (by simp [refs, refsF, refsC])
      have ho1 : AM.one (hp.length + 2) (hp.length + 2 + 2) hp.length = hp.length := one_old (by omega)
      have ho2 : AM.one (hp.length + 2) (hp.length + 2 + 2) b = b := one_old (by omega)
      have ho3 : AM.one (hp.length + 2) (hp.length + 2 + 2) (hp.length + 4) = hp.length + 2 := one_new (base := hp.length + 2) (k := 2)
      simp only [List.length_append, List.length_cons, List.length_nil, Nat.zero_add, Nat.reduceAdd, List.append_assoc, List.cons_append, List.nil_append, List.map_cons, List.map_nil, arP, ren, renF, renC, ho1, ho2, ho3] at hg
      simp only [arP] at e1 e2 ⊢
      rw [hg]
      rw [hrow1] at e1
      simp (disch := (first | omega | (simp only [lnE, put_length] <;> omega) | (refine Fit.mono ‹Fit _ _ _› ?_; simp only [lnE, put_length] <;> omega) | (refine Fit.draw ‹Fit _ _ _› ?_ ?_ <;> (simp only [lnE, put_length] <;> omega)) | (refine Fit.hid1 ‹Fit _ _ _› ?_ ?_ <;> (simp only [lnE, put_length] <;> omega)) | (refine Fit.draw1 ‹Fit _ _ _› ?_ ?_ ?_ <;> (simp only [lnE, put_length] <;> omega)) | (refine Fit.range0 ?_ ?_ <;> (simp only [lnE, put_length] <;> omega)) | (refine ArOk.mono ‹ArOk _ _ _ _ _› ?_; simp only [lnE, put_length] <;> omega) | (refine ArOk.hid ‹ArOk _ _ _ _ _› ?_ ?_ <;> (simp only [lnE, put_length] <;> omega)) | (refine ArOk.hid0 ‹ArOk _ _ _ _ _› ?_ ?_ <;> (simp only [lnE, put_length] <;> omega)) | (intro xr hxr; simp [AM.refs, refsF, refsC] at hxr; simp only [lnE, put_length] <;> omega) | fail)) only [syA, List.isEmpty_nil, List.isEmpty_cons, List.nil_append, argFr, D, E, T, C, undefv, eqF, aeq, sheqs, sheq, Option.isNone_none, Option.isNone_some, Option.getD_some, Option.getD_none, rdCells, cellsOf, fill, putAt, if_true, if_false, reduceIte, ↓reduceIte, reduceCtorEq, decide_true, decide_false, decide_eq_true_eq, decide_eq_false_iff_not, decide_not, Bool.not_true, Bool.not_false, Bool.not_not, Bool.not_eq_true', Bool.and_true, Bool.true_and, Bool.and_false, Bool.false_and, Bool.and_self, Bool.or_true, Bool.true_or, Bool.or_false, Bool.false_or, Bool.or_self, Bool.false_eq_true, Bool.and_eq_true, Bool.or_eq_true, and_true, true_and, and_false, false_and, or_true, true_or, or_false, false_or, not_true_eq_false, not_false_eq_true, eq_self, Option.map_some, Option.map_none, Option.bind_some, Option.bind_none, Nat.reduceEqDiff, Nat.reduceAdd, Nat.reduceSub, Nat.reduceMul, Nat.reduceLT, Nat.reduceLeDiff, Nat.reducePow, Nat.testBit_eq_decide_div_mod_eq, Nat.reduceDiv, Nat.reduceMod, Nat.zero_add, Nat.add_zero, Nat.sub_self, Nat.le_refl, Nat.lt_irrefl, Nat.mul_one, Int.mul_one, Int.one_mul, Int.sub_zero, Int.add_zero, Int.zero_add, Int.reduceLT, Int.reduceLE, Int.reduceGT, Int.reduceGE, Int.reduceToNat, Int.reducePow, Int.reduceNeg, Int.reduceBEq, Int.reduceBNe, Int.reduceEq, Int.reduceAdd, Int.reduceSub, Int.reduceMul, beq_iff_eq, bne_iff_ne, bne_self_eq_false, bne_eq_false_iff_eq, beq_eq_false_iff_ne, ne_eq, beq_self_eq_true, List.all_cons, List.all_nil, cellv, sc, flatv, refs, refsF, refsC, List.flatMap_cons, List.flatMap_nil, List.append_nil, List.append_assoc, List.cons_append, List.length_append, List.length_set, Int.cast_ofNat_Int, List.length_cons, List.length_nil, List.getElem?_cons_zero, List.getElem?_cons_succ, List.set_cons_zero, List.set_cons_succ, List.take_succ_cons, List.take_zero, List.drop_zero, List.drop_succ_cons, List.contains_nil, Int.toNat_natCast, Int.lt_irrefl, Nat.min_eq_left, Nat.min_eq_right, syR, Int.le_refl, e1]
      exact ⟨fr, rfl, e2⟩
    · have hB0 : spB (zs.map cl) k = [.cells (k * 2) true (spC (zs.map cl) k)] := if_neg h0
      have hV0 : spV (hp.length + 2) k = .slice (some ⟨hp.length + 2, 0, some (k * 2)⟩) k 2 := if_neg h0
      have hB1 : spB (zs.map cl) (k + 1) = [.cells ((k + 1) * 2) true (spC (zs.map cl) (k + 1))] := rfl
      have hV1 : spV (hp.length + 2) (k + 1) = .slice (some ⟨hp.length + 2, 0, some ((k + 1) * 2)⟩) (k + 1) 2 := rfl
      rw [hB0, hV0]
      rw [hB1, hV1, hsucc] at e1
      have ap := fun X Y : Blk => rows_end (d := []) (L := hp.length) (H := []) (hp := put (hp ++ [default, default, .cells (k * 2) true (spC (zs.map cl) k), X, Y]) hp.length (hp.length + 1) A') (b := hp.length + 2) (cs := spC (zs.map cl) k) (vs := [.int .i64 (tot (zs.map cl) k : Nat), .int .i64 (cl zs[k] : Nat)])
        (by rw [put_o (by omega) (by omega), get_new]; rfl) (spC_len _ _) (by omega) rfl (all2 _ _).1 (all2 _ _).2 (by omega)
      simp (disch := (first | omega | (simp only [lnE, put_length] <;> omega) | (refine Fit.mono ‹Fit _ _ _› ?_; simp only [lnE, put_length] <;> omega) | (refine Fit.draw ‹Fit _ _ _› ?_ ?_ <;> (simp only [lnE, put_length] <;> omega)) | (refine Fit.hid1 ‹Fit _ _ _› ?_ ?_ <;> (simp only [lnE, put_length] <;> omega)) | (refine Fit.draw1 ‹Fit _ _ _› ?_ ?_ ?_ <;> (simp only [lnE, put_length] <;> omega)) | (refine Fit.range0 ?_ ?_ <;> (simp only [lnE, put_length] <;> omega)) | (refine ArOk.mono ‹ArOk _ _ _ _ _› ?_; simp only [lnE, put_length] <;> omega) | (refine ArOk.hid ‹ArOk _ _ _ _ _› ?_ ?_ <;> (simp only [lnE, put_length] <;> omega)) | (refine ArOk.hid0 ‹ArOk _ _ _ _ _› ?_ ?_ <;> (simp only [lnE, put_length] <;> omega)) | (intro xr hxr; simp [AM.refs, refsF, refsC] at hxr; simp only [lnE, put_length] <;> omega) | fail)) only [syA, List.isEmpty_nil, List.isEmpty_cons, List.nil_append, argFr, D, E, T, C, undefv, eqF, aeq, sheqs, sheq, Option.isNone_none, Option.isNone_some, Option.getD_some, Option.getD_none, rdCells, cellsOf, fill, putAt, if_true, if_false, reduceIte, ↓reduceIte, reduceCtorEq, decide_true, decide_false, decide_eq_true_eq, decide_eq_false_iff_not, decide_not, Bool.not_true, Bool.not_false, Bool.not_not, Bool.not_eq_true', Bool.and_true, Bool.true_and, Bool.and_false, Bool.false_and, Bool.and_self, Bool.or_true, Bool.true_or, Bool.or_false, Bool.false_or, Bool.or_self, Bool.false_eq_true, Bool.and_eq_true, Bool.or_eq_true, and_true, true_and, and_false, false_and, or_true, true_or, or_false, false_or, not_true_eq_false, not_false_eq_true, eq_self, Option.map_some, Option.map_none, Option.bind_some, Option.bind_none, Nat.reduceEqDiff, Nat.reduceAdd, Nat.reduceSub, Nat.reduceMul, Nat.reduceLT, Nat.reduceLeDiff, Nat.reducePow, Nat.testBit_eq_decide_div_mod_eq, Nat.reduceDiv, Nat.reduceMod, Nat.zero_add, Nat.add_zero, Nat.sub_self, Nat.le_refl, Nat.lt_irrefl, Nat.mul_one, Int.mul_one, Int.one_mul, Int.sub_zero, Int.add_zero, Int.zero_add, Int.reduceLT, Int.reduceLE, Int.reduceGT, Int.reduceGE, Int.reduceToNat, Int.reducePow, Int.reduceNeg, Int.reduceBEq, Int.reduceBNe, Int.reduceEq, Int.reduceAdd, Int.reduceSub, Int.reduceMul, beq_iff_eq, bne_iff_ne, bne_self_eq_false, bne_eq_false_iff_eq, beq_eq_false_iff_ne, ne_eq, beq_self_eq_true, List.all_cons, List.all_nil, cellv, sc, flatv, refs, refsF, refsC, List.flatMap_cons, List.flatMap_nil, List.append_nil, List.append_assoc, List.cons_append, List.length_append, List.length_set, Int.cast_ofNat_Int, List.length_cons, List.length_nil, List.getElem?_cons_zero, List.getElem?_cons_succ, List.set_cons_zero, List.set_cons_succ, List.take_succ_cons, List.take_zero, List.drop_zero, List.drop_succ_cons, List.contains_nil, Int.toNat_natCast, Int.lt_irrefl, Nat.min_eq_left, Nat.min_eq_right, syR, Int.le_refl, hF.not0, hF.not1, hF.up0, hF.up1, h1, h2, hb, hbl, hzk, hmm, tk, hadd, sm2, ap]
      have hg := gcFr_put_one (hp := hp ++ [default, default]) (L := hp.length) (H := []) (A := A') (r := hp.length) (q := hp.length + 1)
        (nw := [Blk.cells ((k + 1) * 2) true (spC (zs.map cl) k ++ [Value.int .i64 (tot (zs.map cl) k : Nat), .int .i64 (cl zs[k] : Nat)]), Blk.cells 0 true [Value.int .i64 (tot (zs.map cl) k : Nat), .int .i64 (cl zs[k] : Nat)], Blk.cells 0 true [Value.int .i64 (tot (zs.map cl) k : Nat), .int .i64 (cl zs[k] : Nat)]])
        (fr := [(9, arP hp.length), (0, .slice (some ⟨b, 0, some 0⟩) zs.length 0), (1, .int .i64 wh), (3, .int .u8 c), (2, .int .i64 i), (13, .int .i64 ((k : Int) + 1)), (11, .slice (some ⟨hp.length + 2, 0, some ((k + 1) * 2)⟩) (k + 1) 2), (12, .int .i64 (tot (zs.map cl) (k + 1) : Nat))])
        (by simp) (by simp) 0 rfl (by simp [refs, refsF, refsC, arP]; omega) (by simp [refs, refsF, refsC])
      have ho1 : AM.one (hp.length + 2) (hp.length + 2) hp.length = hp.length := one_old (by omega)
      have ho2 : AM.one (hp.length + 2) (hp.length + 2) b = b := one_old (by omega)
      simp only [List.length_append, List.length_cons, List.length_nil, Nat.zero_add, Nat.add_zero, Nat.reduceAdd, List.append_assoc, List.cons_append, List.nil_append, List.map_cons, List.map_nil, arP, ren, renF, renC, ho1, ho2, one_new0] at hg
      simp only [arP] at e1 e2 ⊢
      rw [hg]
      simp (disch := (first | omega | (simp only [lnE, put_length] <;> omega) | (refine Fit.mono ‹Fit _ _ _› ?_; simp only [lnE, put_length] <;> omega) | (refine Fit.draw ‹Fit _ _ _› ?_ ?_ <;> (simp only [lnE, put_length] <;> omega)) | (refine Fit.hid1 ‹Fit _ _ _› ?_ ?_ <;> (simp only [lnE, put_length] <;> omega)) | (refine Fit.draw1 ‹Fit _ _ _› ?_ ?_ ?_ <;> (simp only [lnE, put_length] <;> omega)) | (refine Fit.range0 ?_ ?_ <;> (simp only [lnE, put_length] <;> omega)) | (refine ArOk.mono ‹ArOk _ _ _ _ _› ?_; simp only [lnE, put_length] <;> omega) | (refine ArOk.hid ‹ArOk _ _ _ _ _› ?_ ?_ <;> (simp only [lnE, put_length] <;> omega)) | (refine ArOk.hid0 ‹ArOk _ _ _ _ _› ?_ ?_ <;> (simp only [lnE, put_length] <;> omega)) | (intro xr hxr; simp [AM.refs, refsF, refsC] at hxr; simp only [lnE, put_length] <;> omega) | fail)) only [syA, List.isEmpty_nil, List.isEmpty_cons, List.nil_append, argFr, D, E, T, C, undefv, eqF, aeq, sheqs, sheq, Option.isNone_none, Option.isNone_some, Option.getD_some, Option.getD_none, rdCells, cellsOf, fill, putAt, if_true, if_false, reduceIte, ↓reduceIte, reduceCtorEq, decide_true, decide_false, decide_eq_true_eq, decide_eq_false_iff_not, decide_not, Bool.not_true, Bool.not_false, Bool.not_not, Bool.not_eq_true', Bool.and_true, Bool.true_and, Bool.and_false, Bool.false_and, Bool.and_self, Bool.or_true, Bool.true_or, Bool.or_false, Bool.false_or, Bool.or_self, Bool.false_eq_true, Bool.and_eq_true, Bool.or_eq_true, and_true, true_and, and_false, false_and, or_true, true_or, or_false, false_or, not_true_eq_false, not_false_eq_true, eq_self, Option.map_some, Option.map_none, Option.bind_some, Option.bind_none, Nat.reduceEqDiff, Nat.reduceAdd, Nat.reduceSub, Nat.reduceMul, Nat.reduceLT, Nat.reduceLeDiff, Nat.reducePow, Nat.testBit_eq_decide_div_mod_eq, Nat.reduceDiv, Nat.reduceMod, Nat.zero_add, Nat.add_zero, Nat.sub_self, Nat.le_refl, Nat.lt_irrefl, Nat.mul_one, Int.mul_one, Int.one_mul, Int.sub_zero, Int.add_zero, Int.zero_add, Int.reduceLT, Int.reduceLE, Int.reduceGT, Int.reduceGE, Int.reduceToNat, Int.reducePow, Int.reduceNeg, Int.reduceBEq, Int.reduceBNe, Int.reduceEq, Int.reduceAdd, Int.reduceSub, Int.reduceMul, beq_iff_eq, bne_iff_ne, bne_self_eq_false, bne_eq_false_iff_eq, beq_eq_false_iff_ne, ne_eq, beq_self_eq_true, List.all_cons, List.all_nil, cellv, sc, flatv, refs, refsF, refsC, List.flatMap_cons, List.flatMap_nil, List.append_nil, List.append_assoc, List.cons_append, List.length_append, List.length_set, Int.cast_ofNat_Int, List.length_cons, List.length_nil, List.getElem?_cons_zero, List.getElem?_cons_succ, List.set_cons_zero, List.set_cons_succ, List.take_succ_cons, List.take_zero, List.drop_zero, List.drop_succ_cons, List.contains_nil, Int.toNat_natCast, Int.lt_irrefl, Nat.min_eq_left, Nat.min_eq_right, syR, Int.le_refl, e1]
      exact ⟨fr, rfl, e2⟩
/-- What the span k holds. -/
def want (ok : Bool) (w k : Nat) (i : Int) (c j : Nat) : Nat := if ok = true ∧ k = w ∧ (j : Int) = i then c else 0
theorem apart_inner {hp : List Blk} {A : Arn} {SB : Blk} {V : Value} {bk : List Nat} {ok : Bool} {w k c tt : Nat} {i : Int} (hby : By bk) (hn : bk.length ≤ 100) (hc : c < 256) (hw : ∀ (j : Nat) (h : j < bk.length), bk[j] = want ok w k i c j) :
    ∀ (rem j : Nat), j + rem = bk.length → ∃ fr,
    Liter env lb6_0 [19, 3, 2, 1, 18, 17, 11, 9, 12, 20] (hp.length + 4) [(19, .slice (some ⟨hp.length + 3, 0, some bk.length⟩) bk.length 1), (3, .int .u8 c), (2, .int .i64 i), (1, .int .i64 w), (18, .int .i64 k), (17, .bool ok), (11, V), (9, arP hp.length), (12, .int .i64 tt), (20, .int .i64 j)]
      ⟨put (hp ++ [default, default, SB, .cells bk.length true (u8s bk)]) hp.length (hp.length + 1) A, hp.length, [], []⟩ =
      some (.exit 4, fr, ⟨put (hp ++ [default, default, SB, .cells bk.length true (u8s bk)]) hp.length (hp.length + 1) A, hp.length, [], []⟩) ∧
      fr.get 11 = some V ∧ fr.get 9 = some (arP hp.length) ∧ fr.get 12 = some (.int .i64 tt) ∧ fr.get 17 = some (.bool ok) ∧ fr.get 18 = some (.int .i64 k) ∧ fr.get 1 = some (.int .i64 w) ∧ fr.get 2 = some (.int .i64 i) ∧ fr.get 3 = some (.int .u8 c)
  | 0, j, e => by
    obtain rfl : j = bk.length := by omega
    rw [iter_by lb6_0.eq_1]
    simp (disch := (first | omega | (simp only [lnE, put_length] <;> omega) | (refine Fit.mono ‹Fit _ _ _› ?_; simp only [lnE, put_length] <;> omega) | (refine Fit.draw ‹Fit _ _ _› ?_ ?_ <;> (simp only [lnE, put_length] <;> omega)) | (refine Fit.hid1 ‹Fit _ _ _› ?_ ?_ <;> (simp only [lnE, put_length] <;> omega)) | (refine Fit.draw1 ‹Fit _ _ _› ?_ ?_ ?_ <;> (simp only [lnE, put_length] <;> omega)) | (refine Fit.range0 ?_ ?_ <;> (simp only [lnE, put_length] <;> omega)) | (refine ArOk.mono ‹ArOk _ _ _ _ _› ?_; simp only [lnE, put_length] <;> omega) | (refine ArOk.hid ‹ArOk _ _ _ _ _› ?_ ?_ <;> (simp only [lnE, put_length] <;> omega)) | (refine ArOk.hid0 ‹ArOk _ _ _ _ _› ?_ ?_ <;> (simp only [lnE, put_length] <;> omega)) | (intro xr hxr; simp [AM.refs, refsF, refsC] at hxr; simp only [lnE, put_length] <;> omega) | fail)) only [syA, List.isEmpty_nil, List.isEmpty_cons, List.nil_append, argFr, D, E, T, C, undefv, eqF, aeq, sheqs, sheq, Option.isNone_none, Option.isNone_some, Option.getD_some, Option.getD_none, rdCells, cellsOf, fill, putAt, if_true, if_false, reduceIte, ↓reduceIte, reduceCtorEq, decide_true, decide_false, decide_eq_true_eq, decide_eq_false_iff_not, decide_not, Bool.not_true, Bool.not_false, Bool.not_not, Bool.not_eq_true', Bool.and_true, Bool.true_and, Bool.and_false, Bool.false_and, Bool.and_self, Bool.or_true, Bool.true_or, Bool.or_false, Bool.false_or, Bool.or_self, Bool.false_eq_true, Bool.and_eq_true, Bool.or_eq_true, and_true, true_and, and_false, false_and, or_true, true_or, or_false, false_or, not_true_eq_false, not_false_eq_true, eq_self, Option.map_some, Option.map_none, Option.bind_some, Option.bind_none, Nat.reduceEqDiff, Nat.reduceAdd, Nat.reduceSub, Nat.reduceMul, Nat.reduceLT, Nat.reduceLeDiff, Nat.reducePow, Nat.testBit_eq_decide_div_mod_eq, Nat.reduceDiv, Nat.reduceMod, Nat.zero_add, Nat.add_zero, Nat.sub_self, Nat.le_refl, Nat.lt_irrefl, Nat.mul_one, Int.mul_one, Int.one_mul, Int.sub_zero, Int.add_zero, Int.zero_add, Int.reduceLT, Int.reduceLE, Int.reduceGT, Int.reduceGE, Int.reduceToNat, Int.reducePow, Int.reduceNeg, Int.reduceBEq, Int.reduceBNe, Int.reduceEq, Int.reduceAdd, Int.reduceSub, Int.reduceMul, beq_iff_eq, bne_iff_ne, bne_self_eq_false, bne_eq_false_iff_eq, beq_eq_false_iff_ne, ne_eq, beq_self_eq_true, List.all_cons, List.all_nil, cellv, sc, flatv, refs, refsF, refsC, List.flatMap_cons, List.flatMap_nil, List.append_nil, List.append_assoc, List.cons_append, List.length_append, List.length_set, Int.cast_ofNat_Int, List.length_cons, List.length_nil, List.getElem?_cons_zero, List.getElem?_cons_succ, List.set_cons_zero, List.set_cons_succ, List.take_succ_cons, List.take_zero, List.drop_zero, List.drop_succ_cons, List.contains_nil, Int.toNat_natCast, Int.lt_irrefl, Nat.min_eq_left, Nat.min_eq_right, syR, Int.le_refl]
    exact ⟨_, rfl, rfl, rfl, rfl, rfl, rfl, rfl, rfl, rfl⟩
  | rem + 1, j, e => by
    have hj : j < bk.length := by omega
    have hF : Fit hp.length hp.length [] := ⟨Nat.le_refl _, Low.nil _⟩
    obtain ⟨fr, e1, e2⟩ := apart_inner hby hn hc hw (hp := hp) (A := A) (SB := SB) (V := V) (tt := tt) rem (j + 1) (by omega)
    have h1 : (j : Int) < bk.length := by omega
    have h2 : 0 ≤ (j : Int) ∧ (j : Int) < bk.length := by omega
    have hcell : (u8s bk)[j]? = some (.int .u8 (bk[j] : Int)) := by rw [u8s_get, List.getElem?_eq_getElem hj]; rfl
    rw [hw j hj] at hcell
    simp only [Int.natCast_add, Int.natCast_one] at e1
    rw [iter_by lb6_0.eq_1]
    cases ok with
    | false =>
      have hz : want false w k i c j = 0 := by simp [want]
      rw [hz] at hcell
      simp (disch := (first | omega | (simp only [lnE, put_length] <;> omega) | (refine Fit.mono ‹Fit _ _ _› ?_; simp only [lnE, put_length] <;> omega) | (refine Fit.draw ‹Fit _ _ _› ?_ ?_ <;> (simp only [lnE, put_length] <;> omega)) | (refine Fit.hid1 ‹Fit _ _ _› ?_ ?_ <;> (simp only [lnE, put_length] <;> omega)) | (refine Fit.draw1 ‹Fit _ _ _› ?_ ?_ ?_ <;> (simp only [lnE, put_length] <;> omega)) | (refine Fit.range0 ?_ ?_ <;> (simp only [lnE, put_length] <;> omega)) | (refine ArOk.mono ‹ArOk _ _ _ _ _› ?_; simp only [lnE, put_length] <;> omega) | (refine ArOk.hid ‹ArOk _ _ _ _ _› ?_ ?_ <;> (simp only [lnE, put_length] <;> omega)) | (refine ArOk.hid0 ‹ArOk _ _ _ _ _› ?_ ?_ <;> (simp only [lnE, put_length] <;> omega)) | (intro xr hxr; simp [AM.refs, refsF, refsC] at hxr; simp only [lnE, put_length] <;> omega) | fail)) only [syA, List.isEmpty_nil, List.isEmpty_cons, List.nil_append, argFr, D, E, T, C, undefv, eqF, aeq, sheqs, sheq, Option.isNone_none, Option.isNone_some, Option.getD_some, Option.getD_none, rdCells, cellsOf, fill, putAt, if_true, if_false, reduceIte, ↓reduceIte, reduceCtorEq, decide_true, decide_false, decide_eq_true_eq, decide_eq_false_iff_not, decide_not, Bool.not_true, Bool.not_false, Bool.not_not, Bool.not_eq_true', Bool.and_true, Bool.true_and, Bool.and_false, Bool.false_and, Bool.and_self, Bool.or_true, Bool.true_or, Bool.or_false, Bool.false_or, Bool.or_self, Bool.false_eq_true, Bool.and_eq_true, Bool.or_eq_true, and_true, true_and, and_false, false_and, or_true, true_or, or_false, false_or, not_true_eq_false, not_false_eq_true, eq_self, Option.map_some, Option.map_none, Option.bind_some, Option.bind_none, Nat.reduceEqDiff, Nat.reduceAdd, Nat.reduceSub, Nat.reduceMul, Nat.reduceLT, Nat.reduceLeDiff, Nat.reducePow, Nat.testBit_eq_decide_div_mod_eq, Nat.reduceDiv, Nat.reduceMod, Nat.zero_add, Nat.add_zero, Nat.sub_self, Nat.le_refl, Nat.lt_irrefl, Nat.mul_one, Int.mul_one, Int.one_mul, Int.sub_zero, Int.add_zero, Int.zero_add, Int.reduceLT, Int.reduceLE, Int.reduceGT, Int.reduceGE, Int.reduceToNat, Int.reducePow, Int.reduceNeg, Int.reduceBEq, Int.reduceBNe, Int.reduceEq, Int.reduceAdd, Int.reduceSub, Int.reduceMul, beq_iff_eq, bne_iff_ne, bne_self_eq_false, bne_eq_false_iff_eq, beq_eq_false_iff_ne, ne_eq, beq_self_eq_true, List.all_cons, List.all_nil, cellv, sc, flatv, refs, refsF, refsC, List.flatMap_cons, List.flatMap_nil, List.append_nil, List.append_assoc, List.cons_append, List.length_append, List.length_set, Int.cast_ofNat_Int, List.length_cons, List.length_nil, List.getElem?_cons_zero, List.getElem?_cons_succ, List.set_cons_zero, List.set_cons_succ, List.take_succ_cons, List.take_zero, List.drop_zero, List.drop_succ_cons, List.contains_nil, Int.toNat_natCast, Int.lt_irrefl, Nat.min_eq_left, Nat.min_eq_right, syR, Int.le_refl, hF.not0, hF.not1, hF.up0, hF.up1, h1, h2, hcell, e1]
      exact ⟨fr, rfl, e2⟩
    | true =>
      by_cases hk : k = w
      · have hk' : ((k : Int) == w) = true := by rw [hk]; simp
        by_cases hi : (j : Int) = i
        · have hi' : ((j : Int) == i) = true := by rw [hi]; simp
          have hz : want true w k i c j = c := by simp [want, hk, hi]
          rw [hz] at hcell
          simp (disch := (first | omega | (simp only [lnE, put_length] <;> omega) | (refine Fit.mono ‹Fit _ _ _› ?_; simp only [lnE, put_length] <;> omega) | (refine Fit.draw ‹Fit _ _ _› ?_ ?_ <;> (simp only [lnE, put_length] <;> omega)) | (refine Fit.hid1 ‹Fit _ _ _› ?_ ?_ <;> (simp only [lnE, put_length] <;> omega)) | (refine Fit.draw1 ‹Fit _ _ _› ?_ ?_ ?_ <;> (simp only [lnE, put_length] <;> omega)) | (refine Fit.range0 ?_ ?_ <;> (simp only [lnE, put_length] <;> omega)) | (refine ArOk.mono ‹ArOk _ _ _ _ _› ?_; simp only [lnE, put_length] <;> omega) | (refine ArOk.hid ‹ArOk _ _ _ _ _› ?_ ?_ <;> (simp only [lnE, put_length] <;> omega)) | (refine ArOk.hid0 ‹ArOk _ _ _ _ _› ?_ ?_ <;> (simp only [lnE, put_length] <;> omega)) | (intro xr hxr; simp [AM.refs, refsF, refsC] at hxr; simp only [lnE, put_length] <;> omega) | fail)) only [syA, List.isEmpty_nil, List.isEmpty_cons, List.nil_append, argFr, D, E, T, C, undefv, eqF, aeq, sheqs, sheq, Option.isNone_none, Option.isNone_some, Option.getD_some, Option.getD_none, rdCells, cellsOf, fill, putAt, if_true, if_false, reduceIte, ↓reduceIte, reduceCtorEq, decide_true, decide_false, decide_eq_true_eq, decide_eq_false_iff_not, decide_not, Bool.not_true, Bool.not_false, Bool.not_not, Bool.not_eq_true', Bool.and_true, Bool.true_and, Bool.and_false, Bool.false_and, Bool.and_self, Bool.or_true, Bool.true_or, Bool.or_false, Bool.false_or, Bool.or_self, Bool.false_eq_true, Bool.and_eq_true, Bool.or_eq_true, and_true, true_and, and_false, false_and, or_true, true_or, or_false, false_or, not_true_eq_false, not_false_eq_true, eq_self, Option.map_some, Option.map_none, Option.bind_some, Option.bind_none, Nat.reduceEqDiff, Nat.reduceAdd, Nat.reduceSub, Nat.reduceMul, Nat.reduceLT, Nat.reduceLeDiff, Nat.reducePow, Nat.testBit_eq_decide_div_mod_eq, Nat.reduceDiv, Nat.reduceMod, Nat.zero_add, Nat.add_zero, Nat.sub_self, Nat.le_refl, Nat.lt_irrefl, Nat.mul_one, Int.mul_one, Int.one_mul, Int.sub_zero, Int.add_zero, Int.zero_add, Int.reduceLT, Int.reduceLE, Int.reduceGT, Int.reduceGE, Int.reduceToNat, Int.reducePow, Int.reduceNeg, Int.reduceBEq, Int.reduceBNe, Int.reduceEq, Int.reduceAdd, Int.reduceSub, Int.reduceMul, beq_iff_eq, bne_iff_ne, bne_self_eq_false, bne_eq_false_iff_eq, beq_eq_false_iff_ne, ne_eq, beq_self_eq_true, List.all_cons, List.all_nil, cellv, sc, flatv, refs, refsF, refsC, List.flatMap_cons, List.flatMap_nil, List.append_nil, List.append_assoc, List.cons_append, List.length_append, List.length_set, Int.cast_ofNat_Int, List.length_cons, List.length_nil, List.getElem?_cons_zero, List.getElem?_cons_succ, List.set_cons_zero, List.set_cons_succ, List.take_succ_cons, List.take_zero, List.drop_zero, List.drop_succ_cons, List.contains_nil, Int.toNat_natCast, Int.lt_irrefl, Nat.min_eq_left, Nat.min_eq_right, syR, Int.le_refl, hF.not0, hF.not1, hF.up0, hF.up1, h1, h2, hcell, hk', hi', e1]
          exact ⟨fr, rfl, e2⟩
        · have hi' : ((j : Int) == i) = false := by simpa using hi
          have hz : want true w k i c j = 0 := by simp [want, hi]
          rw [hz] at hcell
          simp (disch := (first | omega | (simp only [lnE, put_length] <;> omega) | (refine Fit.mono ‹Fit _ _ _› ?_; simp only [lnE, put_length] <;> omega) | (refine Fit.draw ‹Fit _ _ _› ?_ ?_ <;> (simp only [lnE, put_length] <;> omega)) | (refine Fit.hid1 ‹Fit _ _ _› ?_ ?_ <;> (simp only [lnE, put_length] <;> omega)) | (refine Fit.draw1 ‹Fit _ _ _› ?_ ?_ ?_ <;> (simp only [lnE, put_length] <;> omega)) | (refine Fit.range0 ?_ ?_ <;> (simp only [lnE, put_length] <;> omega)) | (refine ArOk.mono ‹ArOk _ _ _ _ _› ?_; simp only [lnE, put_length] <;> omega) | (refine ArOk.hid ‹ArOk _ _ _ _ _› ?_ ?_ <;> (simp only [lnE, put_length] <;> omega)) | (refine ArOk.hid0 ‹ArOk _ _ _ _ _› ?_ ?_ <;> (simp only [lnE, put_length] <;> omega)) | (intro xr hxr; simp [AM.refs, refsF, refsC] at hxr; simp only [lnE, put_length] <;> omega) | fail)) only [syA, List.isEmpty_nil, List.isEmpty_cons, List.nil_append, argFr, D, E, T, C, undefv, eqF, aeq, sheqs, sheq, Option.isNone_none, Option.isNone_some, Option.getD_some, Option.getD_none, rdCells, cellsOf, fill, putAt, if_true, if_false, reduceIte, ↓reduceIte, reduceCtorEq, decide_true, decide_false, decide_eq_true_eq, decide_eq_false_iff_not, decide_not, Bool.not_true, Bool.not_false, Bool.not_not, Bool.not_eq_true', Bool.and_true, Bool.true_and, Bool.and_false, Bool.false_and, Bool.and_self, Bool.or_true, Bool.true_or, Bool.or_false, Bool.false_or, Bool.or_self, Bool.false_eq_true, Bool.and_eq_true, Bool.or_eq_true, and_true, true_and, and_false, false_and, or_true, true_or, or_false, false_or, not_true_eq_false, not_false_eq_true, eq_self, Option.map_some, Option.map_none, Option.bind_some, Option.bind_none, Nat.reduceEqDiff, Nat.reduceAdd, Nat.reduceSub, Nat.reduceMul, Nat.reduceLT, Nat.reduceLeDiff, Nat.reducePow, Nat.testBit_eq_decide_div_mod_eq, Nat.reduceDiv, Nat.reduceMod, Nat.zero_add, Nat.add_zero, Nat.sub_self, Nat.le_refl, Nat.lt_irrefl, Nat.mul_one, Int.mul_one, Int.one_mul, Int.sub_zero, Int.add_zero, Int.zero_add, Int.reduceLT, Int.reduceLE, Int.reduceGT, Int.reduceGE, Int.reduceToNat, Int.reducePow, Int.reduceNeg, Int.reduceBEq, Int.reduceBNe, Int.reduceEq, Int.reduceAdd, Int.reduceSub, Int.reduceMul, beq_iff_eq, bne_iff_ne, bne_self_eq_false, bne_eq_false_iff_eq, beq_eq_false_iff_ne, ne_eq, beq_self_eq_true, List.all_cons, List.all_nil, cellv, sc, flatv, refs, refsF, refsC, List.flatMap_cons, List.flatMap_nil, List.append_nil, List.append_assoc, List.cons_append, List.length_append, List.length_set, Int.cast_ofNat_Int, List.length_cons, List.length_nil, List.getElem?_cons_zero, List.getElem?_cons_succ, List.set_cons_zero, List.set_cons_succ, List.take_succ_cons, List.take_zero, List.drop_zero, List.drop_succ_cons, List.contains_nil, Int.toNat_natCast, Int.lt_irrefl, Nat.min_eq_left, Nat.min_eq_right, syR, Int.le_refl, hF.not0, hF.not1, hF.up0, hF.up1, h1, h2, hcell, hk', hi', e1]
          exact ⟨fr, rfl, e2⟩
      · have hk' : ((k : Int) == w) = false := by rw [beq_eq_false_iff_ne]; omega
        have hz : want true w k i c j = 0 := by simp [want, hk]
        rw [hz] at hcell
        simp (disch := (first | omega | (simp only [lnE, put_length] <;> omega) | (refine Fit.mono ‹Fit _ _ _› ?_; simp only [lnE, put_length] <;> omega) | (refine Fit.draw ‹Fit _ _ _› ?_ ?_ <;> (simp only [lnE, put_length] <;> omega)) | (refine Fit.hid1 ‹Fit _ _ _› ?_ ?_ <;> (simp only [lnE, put_length] <;> omega)) | (refine Fit.draw1 ‹Fit _ _ _› ?_ ?_ ?_ <;> (simp only [lnE, put_length] <;> omega)) | (refine Fit.range0 ?_ ?_ <;> (simp only [lnE, put_length] <;> omega)) | (refine ArOk.mono ‹ArOk _ _ _ _ _› ?_; simp only [lnE, put_length] <;> omega) | (refine ArOk.hid ‹ArOk _ _ _ _ _› ?_ ?_ <;> (simp only [lnE, put_length] <;> omega)) | (refine ArOk.hid0 ‹ArOk _ _ _ _ _› ?_ ?_ <;> (simp only [lnE, put_length] <;> omega)) | (intro xr hxr; simp [AM.refs, refsF, refsC] at hxr; simp only [lnE, put_length] <;> omega) | fail)) only [syA, List.isEmpty_nil, List.isEmpty_cons, List.nil_append, argFr, D, E, T, C, undefv, eqF, aeq, sheqs, sheq, Option.isNone_none, Option.isNone_some, Option.getD_some, Option.getD_none, rdCells, cellsOf, fill, putAt, if_true, if_false, reduceIte, ↓reduceIte, reduceCtorEq, decide_true, decide_false, decide_eq_true_eq, decide_eq_false_iff_not, decide_not, Bool.not_true, Bool.not_false, Bool.not_not, Bool.not_eq_true', Bool.and_true, Bool.true_and, Bool.and_false, Bool.false_and, Bool.and_self, Bool.or_true, Bool.true_or, Bool.or_false, Bool.false_or, Bool.or_self, Bool.false_eq_true, Bool.and_eq_true, Bool.or_eq_true, and_true, true_and, and_false, false_and, or_true, true_or, or_false, false_or, not_true_eq_false, not_false_eq_true, eq_self, Option.map_some, Option.map_none, Option.bind_some, Option.bind_none, Nat.reduceEqDiff, Nat.reduceAdd, Nat.reduceSub, Nat.reduceMul, Nat.reduceLT, Nat.reduceLeDiff, Nat.reducePow, Nat.testBit_eq_decide_div_mod_eq, Nat.reduceDiv, Nat.reduceMod, Nat.zero_add, Nat.add_zero, Nat.sub_self, Nat.le_refl, Nat.lt_irrefl, Nat.mul_one, Int.mul_one, Int.one_mul, Int.sub_zero, Int.add_zero, Int.zero_add, Int.reduceLT, Int.reduceLE, Int.reduceGT, Int.reduceGE, Int.reduceToNat, Int.reducePow, Int.reduceNeg, Int.reduceBEq, Int.reduceBNe, Int.reduceEq, Int.reduceAdd, Int.reduceSub, Int.reduceMul, beq_iff_eq, bne_iff_ne, bne_self_eq_false, bne_eq_false_iff_eq, beq_eq_false_iff_ne, ne_eq, beq_self_eq_true, List.all_cons, List.all_nil, cellv, sc, flatv, refs, refsF, refsC, List.flatMap_cons, List.flatMap_nil, List.append_nil, List.append_assoc, List.cons_append, List.length_append, List.length_set, Int.cast_ofNat_Int, List.length_cons, List.length_nil, List.getElem?_cons_zero, List.getElem?_cons_succ, List.set_cons_zero, List.set_cons_succ, List.take_succ_cons, List.take_zero, List.drop_zero, List.drop_succ_cons, List.contains_nil, Int.toNat_natCast, Int.lt_irrefl, Nat.min_eq_left, Nat.min_eq_right, syR, Int.le_refl, hF.not0, hF.not1, hF.up0, hF.up1, h1, h2, hcell, hk', e1]
        exact ⟨fr, rfl, e2⟩
/-- The arena's bytes behind the one that was set. -/
def afterB (tt at0 : Nat) (ok : Bool) (i : Int) (c : Nat) : List Nat := if ok = true then (List.replicate tt 0).set (at0 + i.toNat) c else List.replicate tt 0
theorem afterB_len (tt at0 : Nat) (ok : Bool) (i : Int) (c : Nat) : (afterB tt at0 ok i c).length = tt := by
  unfold afterB; split <;> simp
theorem afterB_by {tt at0 : Nat} {ok : Bool} {i : Int} {c : Nat} (hc : c < 256) : By (afterB tt at0 ok i c) := by
  unfold afterB
  split
  · intro x hx
    rcases List.mem_or_eq_of_mem_set hx with h | rfl
    · rw [List.mem_replicate] at h; omega
    · exact hc
  · intro x hx; rw [List.mem_replicate] at hx; omega
theorem afterB_get {tt at0 : Nat} {ok : Bool} {i : Int} {c m : Nat} (h : m < tt) : (afterB tt at0 ok i c)[m]? = some (if ok = true ∧ m = at0 + i.toNat then c else 0) := by
  unfold afterB
  split
  · rename_i hk
    rw [List.getElem?_set]
    by_cases e : at0 + i.toNat = m
    · subst e; simp [hk, h]
    · have : ¬ m = at0 + i.toNat := fun q => e q.symm
      simp [e, this, h]
  · rename_i hk
    simp [hk, h]
def spanB (ns : List Nat) (w k : Nat) (ok : Bool) (i : Int) (c : Nat) : List Nat := ((afterB (tot ns ns.length) (tot ns w) ok i c).drop (tot ns k)).take (ns.getD k 0)
theorem spanB_len {ns : List Nat} {w k : Nat} {ok : Bool} {i : Int} {c : Nat} (hk : k < ns.length) : (spanB ns w k ok i c).length = ns.getD k 0 := by
  have h1 := tot_succ hk
  have h2 := tot_mono' (ns := ns) (j := k + 1) (k := ns.length) (by omega) (Nat.le_refl _)
  have h3 : ns.getD k 0 = ns[k] := by rw [List.getD_eq_getElem?_getD, List.getElem?_eq_getElem hk]; rfl
  simp [spanB, afterB_len]
  rw [List.getD_eq_getElem?_getD] at h3
  omega
theorem spanB_want {ns : List Nat} {w k : Nat} {ok : Bool} {i : Int} {c : Nat} (hk : k < ns.length) (hw : w < ns.length) (hok : ok = true → 0 ≤ i ∧ i < ns.getD w 0) (j : Nat) (h : j < (spanB ns w k ok i c).length) : (spanB ns w k ok i c)[j] = want ok w k i c j := by
  have hl := spanB_len (ns := ns) (w := w) (k := k) (ok := ok) (i := i) (c := c) hk
  have h3 : ∀ k (hk : k < ns.length), ns.getD k 0 = ns[k] := fun k hk => by rw [List.getD_eq_getElem?_getD, List.getElem?_eq_getElem hk]; rfl
  have h1 := tot_succ hk
  have h2 := tot_mono' (ns := ns) (j := k + 1) (k := ns.length) (by omega) (Nat.le_refl _)
  have g1 := tot_succ hw
  rw [h3 k hk] at hl
  have hget : (spanB ns w k ok i c)[j]? = some (if ok = true ∧ tot ns k + j = tot ns w + i.toNat then c else 0) := by
    unfold spanB
    rw [List.getElem?_take_of_lt (by rw [h3 k hk]; omega), List.getElem?_drop, afterB_get (by omega)]
  rw [List.getElem?_eq_getElem h] at hget
  injection hget with hget
  rw [hget]
  unfold want
  cases ok with
  | false => simp
  | true =>
    obtain ⟨i0, i1⟩ := hok rfl
    rw [h3 w hw] at i1
    have key : (tot ns k + j = tot ns w + i.toNat) ↔ (k = w ∧ (j : Int) = i) := by
      constructor
      · intro e
        rcases Nat.lt_trichotomy k w with hkw | hkw | hkw
        · have := tot_mono' (ns := ns) (j := k + 1) (k := w) hkw (by omega)
          omega
        · subst hkw; exact ⟨rfl, by omega⟩
        · have := tot_mono' (ns := ns) (j := w + 1) (k := k) hkw (by omega)
          omega
      · rintro ⟨rfl, e⟩; omega
    simp only [true_and]
    by_cases q : tot ns k + j = tot ns w + i.toNat
    · rw [if_pos q, if_pos (key.1 q)]
    · rw [if_neg q, if_neg (fun e => q (key.2 e))]
theorem apart_check {hp : List Blk} {ns : List Nat} {w c : Nat} {ok : Bool} {i : Int} (h100 : ∀ n ∈ ns, n ≤ 100) (hn : ns.length ≤ 20) (h0 : 0 < ns.length) (hw : w < ns.length) (hc : c < 256) (hok : ok = true → 0 ≤ i ∧ i < ns.getD w 0) :
    ∀ (rem k : Nat), k + rem = ns.length → ∃ fr,
    Liter env lb6_1 [11, 9, 12, 17, 18, 1, 2, 3] (hp.length + 3) [(11, .slice (some ⟨hp.length + 2, 0, some (ns.length * 2)⟩) ns.length 2), (9, arP hp.length), (12, .int .i64 (tot ns ns.length : Nat)), (17, .bool ok), (18, .int .i64 k), (1, .int .i64 w), (2, .int .i64 i), (3, .int .u8 c)]
      ⟨put (hp ++ [default, default, .cells (ns.length * 2) true (spC ns ns.length)]) hp.length (hp.length + 1) (Arn.laid 2000 (afterB (tot ns ns.length) (tot ns w) ok i c)), hp.length, [], []⟩ =
      some (.exit 2, fr, ⟨put (hp ++ [default, default, .cells (ns.length * 2) true (spC ns ns.length)]) hp.length (hp.length + 1) (Arn.laid 2000 (afterB (tot ns ns.length) (tot ns w) ok i c)), hp.length, [], []⟩) ∧
      fr.get 9 = some (arP hp.length) ∧ fr.get 12 = some (.int .i64 (tot ns ns.length : Nat))
  | 0, k, e => by
    obtain rfl : k = ns.length := by omega
    rw [iter_by lb6_1.eq_1]
    simp (disch := (first | omega | (simp only [lnE, put_length] <;> omega) | (refine Fit.mono ‹Fit _ _ _› ?_; simp only [lnE, put_length] <;> omega) | (refine Fit.draw ‹Fit _ _ _› ?_ ?_ <;> (simp only [lnE, put_length] <;> omega)) | (refine Fit.hid1 ‹Fit _ _ _› ?_ ?_ <;> (simp only [lnE, put_length] <;> omega)) | (refine Fit.draw1 ‹Fit _ _ _› ?_ ?_ ?_ <;> (simp only [lnE, put_length] <;> omega)) | (refine Fit.range0 ?_ ?_ <;> (simp only [lnE, put_length] <;> omega)) | (refine ArOk.mono ‹ArOk _ _ _ _ _› ?_; simp only [lnE, put_length] <;> omega) | (refine ArOk.hid ‹ArOk _ _ _ _ _› ?_ ?_ <;> (simp only [lnE, put_length] <;> omega)) | (refine ArOk.hid0 ‹ArOk _ _ _ _ _› ?_ ?_ <;> (simp only [lnE, put_length] <;> omega)) | (intro xr hxr; simp [AM.refs, refsF, refsC] at hxr; simp only [lnE, put_length] <;> omega) | fail)) only [syA, List.isEmpty_nil, List.isEmpty_cons, List.nil_append, argFr, D, E, T, C, undefv, eqF, aeq, sheqs, sheq, Option.isNone_none, Option.isNone_some, Option.getD_some, Option.getD_none, rdCells, cellsOf, fill, putAt, if_true, if_false, reduceIte, ↓reduceIte, reduceCtorEq, decide_true, decide_false, decide_eq_true_eq, decide_eq_false_iff_not, decide_not, Bool.not_true, Bool.not_false, Bool.not_not, Bool.not_eq_true', Bool.and_true, Bool.true_and, Bool.and_false, Bool.false_and, Bool.and_self, Bool.or_true, Bool.true_or, Bool.or_false, Bool.false_or, Bool.or_self, Bool.false_eq_true, Bool.and_eq_true, Bool.or_eq_true, and_true, true_and, and_false, false_and, or_true, true_or, or_false, false_or, not_true_eq_false, not_false_eq_true, eq_self, Option.map_some, Option.map_none, Option.bind_some, Option.bind_none, Nat.reduceEqDiff, Nat.reduceAdd, Nat.reduceSub, Nat.reduceMul, Nat.reduceLT, Nat.reduceLeDiff, Nat.reducePow, Nat.testBit_eq_decide_div_mod_eq, Nat.reduceDiv, Nat.reduceMod, Nat.zero_add, Nat.add_zero, Nat.sub_self, Nat.le_refl, Nat.lt_irrefl, Nat.mul_one, Int.mul_one, Int.one_mul, Int.sub_zero, Int.add_zero, Int.zero_add, Int.reduceLT, Int.reduceLE, Int.reduceGT, Int.reduceGE, Int.reduceToNat, Int.reducePow, Int.reduceNeg, Int.reduceBEq, Int.reduceBNe, Int.reduceEq, Int.reduceAdd, Int.reduceSub, Int.reduceMul, beq_iff_eq, bne_iff_ne, bne_self_eq_false, bne_eq_false_iff_eq, beq_eq_false_iff_ne, ne_eq, beq_self_eq_true, List.all_cons, List.all_nil, cellv, sc, flatv, refs, refsF, refsC, List.flatMap_cons, List.flatMap_nil, List.append_nil, List.append_assoc, List.cons_append, List.length_append, List.length_set, Int.cast_ofNat_Int, List.length_cons, List.length_nil, List.getElem?_cons_zero, List.getElem?_cons_succ, List.set_cons_zero, List.set_cons_succ, List.take_succ_cons, List.take_zero, List.drop_zero, List.drop_succ_cons, List.contains_nil, Int.toNat_natCast, Int.lt_irrefl, Nat.min_eq_left, Nat.min_eq_right, syR, Int.le_refl]
    exact ⟨_, rfl, rfl, rfl⟩
  | rem + 1, k, e => by
    have hk : k < ns.length := by omega
    have hF : Fit hp.length hp.length [] := ⟨Nat.le_refl _, Low.nil _⟩
    obtain ⟨fr, e1, e2⟩ := apart_check h100 hn h0 hw hc hok (hp := hp) rem (k + 1) (by omega)
    have hT := tot_le h100 ns.length (Nat.le_refl _)
    have hts := tot_succ hk
    have htm := tot_mono' (ns := ns) (j := k + 1) (k := ns.length) (by omega) (Nat.le_refl _)
    have hgd : ns.getD k 0 = ns[k] := by rw [List.getD_eq_getElem?_getD, List.getElem?_eq_getElem hk]; rfl
    have hk100 := h100 _ (List.getElem_mem hk)
    have hbl := spanB_len (ns := ns) (w := w) (k := k) (ok := ok) (i := i) (c := c) hk
    have hbw := fun j h => spanB_want (ns := ns) (w := w) (k := k) (ok := ok) (i := i) (c := c) hk hw hok j h
    have hby : By (spanB ns w k ok i c) := ((afterB_by hc).drop _).take _
    obtain ⟨fr2, f1, f2, f3, f4, f5, f6, f7, f8, f9⟩ := apart_inner (hp := hp) (A := Arn.laid 2000 (afterB (tot ns ns.length) (tot ns w) ok i c)) (SB := .cells (ns.length * 2) true (spC ns ns.length)) (V := .slice (some ⟨hp.length + 2, 0, some (ns.length * 2)⟩) ns.length 2) (tt := tot ns ns.length) hby (by omega) hc hbw (spanB ns w k ok i c).length 0 (by omega)
    have kk : ArOk (hp.length + 2) hp.length (hp.length + 1) [] (Arn.laid 2000 (afterB (tot ns ns.length) (tot ns w) ok i c)) := ArOk.laid (by omega) (by omega) (by omega) (afterB_by hc) (by rw [afterB_len]; omega) (by omega) rfl rfl
    have lw := fun B => load_walk (d := []) (L := hp.length) (H := []) (hp := hp ++ [default, default, B]) (r := hp.length) (q := hp.length + 1) (hF.mono (by simp)) (kk.mono (by simp)) (tot ns k : Nat) (ns.getD k 0 : Nat)
    have hlo : (Arn.laid 2000 (afterB (tot ns ns.length) (tot ns w) ok i c)).loadO (tot ns k : Nat) (ns.getD k 0 : Nat) = some (spanB ns w k ok i c) := by
      have hh : (Arn.laid 2000 (afterB (tot ns ns.length) (tot ns w) ok i c)).has (tot ns k : Nat) (ns.getD k 0 : Nat) = true := by
        rw [Arn.has_iff, laid_live, afterB_len]; omega
      simp only [Arn.loadO, hh, if_true, Int.toNat_natCast]
      unfold spanB Arn.laid
      congr 1
      rw [List.drop_append_of_le_length (by rw [afterB_len]; omega), List.take_append_of_le_length (by simp [afterB_len]; rw [List.getD_eq_getElem?_getD] at hgd; omega)]
    simp only [hlo] at lw
    have hs1 := spC_at (ns := ns) hk
    have hs2 := spC_len_at (ns := ns) hk
    have hs3 := spC_row (ns := ns) hk
    have hsl := spC_len ns ns.length
    have h1 : (k : Int) < ns.length := by omega
    have h2 : 0 ≤ (k : Int) ∧ (k : Int) < ns.length := by omega
    have h3 : k * 2 + 2 ≤ ns.length * 2 := by omega
    generalize hA : Arn.laid 2000 (afterB (tot ns ns.length) (tot ns w) ok i c) = A at *
    generalize spanB ns w k ok i c = bk at *
    simp only [Int.natCast_zero, hbl] at f1
    simp only [Int.natCast_add, Int.natCast_one] at e1
    rw [iter_by lb6_1.eq_1]
    simp (disch := (first | omega | (simp only [lnE, put_length] <;> omega) | (refine Fit.mono ‹Fit _ _ _› ?_; simp only [lnE, put_length] <;> omega) | (refine Fit.draw ‹Fit _ _ _› ?_ ?_ <;> (simp only [lnE, put_length] <;> omega)) | (refine Fit.hid1 ‹Fit _ _ _› ?_ ?_ <;> (simp only [lnE, put_length] <;> omega)) | (refine Fit.draw1 ‹Fit _ _ _› ?_ ?_ ?_ <;> (simp only [lnE, put_length] <;> omega)) | (refine Fit.range0 ?_ ?_ <;> (simp only [lnE, put_length] <;> omega)) | (refine ArOk.mono ‹ArOk _ _ _ _ _› ?_; simp only [lnE, put_length] <;> omega) | (refine ArOk.hid ‹ArOk _ _ _ _ _› ?_ ?_ <;> (simp only [lnE, put_length] <;> omega)) | (refine ArOk.hid0 ‹ArOk _ _ _ _ _› ?_ ?_ <;> (simp only [lnE, put_length] <;> omega)) | (intro xr hxr; simp [AM.refs, refsF, refsC] at hxr; simp only [lnE, put_length] <;> omega) | fail)) only [syA, List.isEmpty_nil, List.isEmpty_cons, List.nil_append, argFr, D, E, T, C, undefv, eqF, aeq, sheqs, sheq, Option.isNone_none, Option.isNone_some, Option.getD_some, Option.getD_none, rdCells, cellsOf, fill, putAt, if_true, if_false, reduceIte, ↓reduceIte, reduceCtorEq, decide_true, decide_false, decide_eq_true_eq, decide_eq_false_iff_not, decide_not, Bool.not_true, Bool.not_false, Bool.not_not, Bool.not_eq_true', Bool.and_true, Bool.true_and, Bool.and_false, Bool.false_and, Bool.and_self, Bool.or_true, Bool.true_or, Bool.or_false, Bool.false_or, Bool.or_self, Bool.false_eq_true, Bool.and_eq_true, Bool.or_eq_true, and_true, true_and, and_false, false_and, or_true, true_or, or_false, false_or, not_true_eq_false, not_false_eq_true, eq_self, Option.map_some, Option.map_none, Option.bind_some, Option.bind_none, Nat.reduceEqDiff, Nat.reduceAdd, Nat.reduceSub, Nat.reduceMul, Nat.reduceLT, Nat.reduceLeDiff, Nat.reducePow, Nat.testBit_eq_decide_div_mod_eq, Nat.reduceDiv, Nat.reduceMod, Nat.zero_add, Nat.add_zero, Nat.sub_self, Nat.le_refl, Nat.lt_irrefl, Nat.mul_one, Int.mul_one, Int.one_mul, Int.sub_zero, Int.add_zero, Int.zero_add, Int.reduceLT, Int.reduceLE, Int.reduceGT, Int.reduceGE, Int.reduceToNat, Int.reducePow, Int.reduceNeg, Int.reduceBEq, Int.reduceBNe, Int.reduceEq, Int.reduceAdd, Int.reduceSub, Int.reduceMul, beq_iff_eq, bne_iff_ne, bne_self_eq_false, bne_eq_false_iff_eq, beq_eq_false_iff_ne, ne_eq, beq_self_eq_true, List.all_cons, List.all_nil, cellv, sc, flatv, refs, refsF, refsC, List.flatMap_cons, List.flatMap_nil, List.append_nil, List.append_assoc, List.cons_append, List.length_append, List.length_set, Int.cast_ofNat_Int, List.length_cons, List.length_nil, List.getElem?_cons_zero, List.getElem?_cons_succ, List.set_cons_zero, List.set_cons_succ, List.take_succ_cons, List.take_zero, List.drop_zero, List.drop_succ_cons, List.contains_nil, Int.toNat_natCast, Int.lt_irrefl, Nat.min_eq_left, Nat.min_eq_right, syR, Int.le_refl, hF.not0, hF.not1, hF.up0, hF.up1, h1, h2, h3, hs1, hs2, hs3, hsl, spR, lw, hbl, f1, f2, f3, f4, f5, f6, f7, f8, f9, sl_some, slB_some]
    have hg := gcFr_put_cut (hp := hp ++ [default, default]) (L := hp.length) (H := []) (A := A) (r := hp.length) (q := hp.length + 1)
      (nw := [Blk.cells (ns.length * 2) true (spC ns ns.length), Blk.cells (ns.getD k 0) true (u8s bk)])
      (fr := [(11, .slice (some ⟨hp.length + 2, 0, some (ns.length * 2)⟩) ns.length 2), (9, arP hp.length), (12, .int .i64 (tot ns ns.length : Nat)), (17, .bool ok), (18, .int .i64 ((k : Int) + 1)), (1, .int .i64 w), (2, .int .i64 i), (3, .int .u8 c)])
      (by simp) (by simp) 1 (by simp) (by simp [refs, refsF, refsC, arP]; omega)
    simp only [List.length_append, List.length_cons, List.length_nil, Nat.zero_add, Nat.reduceAdd, Nat.add_assoc, List.append_assoc, List.cons_append, List.nil_append, List.take_succ_cons, List.take_zero] at hg
    rw [hg]
    simp (disch := (first | omega | (simp only [lnE, put_length] <;> omega) | (refine Fit.mono ‹Fit _ _ _› ?_; simp only [lnE, put_length] <;> omega) | (refine Fit.draw ‹Fit _ _ _› ?_ ?_ <;> (simp only [lnE, put_length] <;> omega)) | (refine Fit.hid1 ‹Fit _ _ _› ?_ ?_ <;> (simp only [lnE, put_length] <;> omega)) | (refine Fit.draw1 ‹Fit _ _ _› ?_ ?_ ?_ <;> (simp only [lnE, put_length] <;> omega)) | (refine Fit.range0 ?_ ?_ <;> (simp only [lnE, put_length] <;> omega)) | (refine ArOk.mono ‹ArOk _ _ _ _ _› ?_; simp only [lnE, put_length] <;> omega) | (refine ArOk.hid ‹ArOk _ _ _ _ _› ?_ ?_ <;> (simp only [lnE, put_length] <;> omega)) | (refine ArOk.hid0 ‹ArOk _ _ _ _ _› ?_ ?_ <;> (simp only [lnE, put_length] <;> omega)) | (intro xr hxr; simp [AM.refs, refsF, refsC] at hxr; simp only [lnE, put_length] <;> omega) | fail)) only [syA, List.isEmpty_nil, List.isEmpty_cons, List.nil_append, argFr, D, E, T, C, undefv, eqF, aeq, sheqs, sheq, Option.isNone_none, Option.isNone_some, Option.getD_some, Option.getD_none, rdCells, cellsOf, fill, putAt, if_true, if_false, reduceIte, ↓reduceIte, reduceCtorEq, decide_true, decide_false, decide_eq_true_eq, decide_eq_false_iff_not, decide_not, Bool.not_true, Bool.not_false, Bool.not_not, Bool.not_eq_true', Bool.and_true, Bool.true_and, Bool.and_false, Bool.false_and, Bool.and_self, Bool.or_true, Bool.true_or, Bool.or_false, Bool.false_or, Bool.or_self, Bool.false_eq_true, Bool.and_eq_true, Bool.or_eq_true, and_true, true_and, and_false, false_and, or_true, true_or, or_false, false_or, not_true_eq_false, not_false_eq_true, eq_self, Option.map_some, Option.map_none, Option.bind_some, Option.bind_none, Nat.reduceEqDiff, Nat.reduceAdd, Nat.reduceSub, Nat.reduceMul, Nat.reduceLT, Nat.reduceLeDiff, Nat.reducePow, Nat.testBit_eq_decide_div_mod_eq, Nat.reduceDiv, Nat.reduceMod, Nat.zero_add, Nat.add_zero, Nat.sub_self, Nat.le_refl, Nat.lt_irrefl, Nat.mul_one, Int.mul_one, Int.one_mul, Int.sub_zero, Int.add_zero, Int.zero_add, Int.reduceLT, Int.reduceLE, Int.reduceGT, Int.reduceGE, Int.reduceToNat, Int.reducePow, Int.reduceNeg, Int.reduceBEq, Int.reduceBNe, Int.reduceEq, Int.reduceAdd, Int.reduceSub, Int.reduceMul, beq_iff_eq, bne_iff_ne, bne_self_eq_false, bne_eq_false_iff_eq, beq_eq_false_iff_ne, ne_eq, beq_self_eq_true, List.all_cons, List.all_nil, cellv, sc, flatv, refs, refsF, refsC, List.flatMap_cons, List.flatMap_nil, List.append_nil, List.append_assoc, List.cons_append, List.length_append, List.length_set, Int.cast_ofNat_Int, List.length_cons, List.length_nil, List.getElem?_cons_zero, List.getElem?_cons_succ, List.set_cons_zero, List.set_cons_succ, List.take_succ_cons, List.take_zero, List.drop_zero, List.drop_succ_cons, List.contains_nil, Int.toNat_natCast, Int.lt_irrefl, Nat.min_eq_left, Nat.min_eq_right, syR, Int.le_refl, e1]
    exact ⟨fr, rfl, e2⟩
end ArA
end Go.Proofs.Ytfefeikkjebfoaa
