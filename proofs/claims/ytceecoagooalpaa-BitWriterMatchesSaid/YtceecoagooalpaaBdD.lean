/-
  THE BIT WRITER's laws: what was written is read back. Conditions: none.
-/
import Derived.Test.YtceecoagooalpaaBdC
set_option linter.all false
section
namespace Go.Proofs.Ytceecoagooalpaa
namespace Bt
open Go Go.RowKit AM ArEnv

def want (d : Dd) : Nat := if d.pad then 0 else d.v
theorem piece_num {l : List Nat} {d : Dd} (h : (piece l d).length ≠ 0) : num (piece l d) = want d := by
  unfold piece want at *
  cases hp : d.pad with
  | true => simp only [if_true]; exact num_zeros _
  | false =>
    rw [hp] at h
    simp only [Bool.false_eq_true, if_false] at h ⊢
    cases hf : fitsV d.v d.w with
    | false => rw [hf] at h; simp at h
    | true =>
      simp only [if_true]
      rw [num_bitsAt]
      unfold fitsV at hf
      rw [decide_eq_true_eq, Nat.div_eq_zero_iff] at hf
      have := Nat.pow_pos (n := d.w.toNat) (show 0 < 2 by decide)
      exact Nat.mod_eq_of_lt (by omega)
theorem piece_width {l : List Nat} {d : Dd} (hp : d.pad = false) (h : (piece l d).length ≠ 0) : ((piece l d).length : Int) = d.w := by
  unfold piece at *
  rw [hp] at h ⊢
  simp only [Bool.false_eq_true, if_false] at h ⊢
  cases hf : fitsV d.v d.w with
  | false => rw [hf] at h; simp at h
  | true =>
    simp only [if_true]
    unfold fitsV at hf
    rw [decide_eq_true_eq] at hf
    rw [bitsAt_length]
    omega
theorem piece_pad {l : List Nat} {d : Dd} (hp : d.pad = true) : ((l ++ piece l d).length) % 8 = 0 := by
  unfold piece
  rw [if_pos hp]
  simp [padN]
  omega
section
variable {hq : List Blk} {L : Nat} {H : List Nat} {a k s : Nat}
theorem check_step {ds : List Dd} {v bv : Value} (V : Wv hq H a k (after ds)) (R : Rw hq H v ds) (B : Rd ⟨hq, L, H, []⟩ bv (byts (after ds))) (hs : hq[s]? = some (.cells ds.length true (is (froms ds ds.length)))) (hsH : H.contains s = false) (hds : ds.length ≤ 60) (hF : Fit hq.length L H) {i : Nat} (hi : i < ds.length) (hok : DOk ds[i]) :
    Liter env lb9_0 [7, 3, 0, 4, 6] hq.length [(7, .int .i64 i), (3, .pointer (some ⟨a, 0, some 0⟩)), (0, v), (4, .slice (some ⟨s, 0, some ds.length⟩) ds.length 1), (6, bv)] ⟨hq, L, H, []⟩
      = Liter env lb9_0 [7, 3, 0, 4, 6] hq.length [(7, .int .i64 ((i : Int) + 1)), (3, .pointer (some ⟨a, 0, some 0⟩)), (0, v), (4, .slice (some ⟨s, 0, some ds.length⟩) ds.length 1), (6, bv)] ⟨hq, L, H, []⟩ := by
  have hl := aft_length ds i
  have hl1 := aft_length ds (i + 1)
  have hsu := aft_succ ds hi
  have hpl := piece_length (aft ds i) ds[i]
  have hfi := froms_get ds ds.length hi
  have hlen := fun d => len_walk (L := L) V hF d
  have hle : (aft ds (i + 1)).length = (aft ds i).length + (piece (aft ds i) ds[i]).length := by rw [hsu, List.length_append]
  obtain ⟨r, hr⟩ := aft_rest ds (i + 1)
  have hall : after ds = aft ds i ++ piece (aft ds i) ds[i] ++ r := by rw [hr, hsu]
  have hbits : Bits (aft ds i ++ piece (aft ds i) ds[i] ++ r) := by rw [← hall]; exact V.bits
  have hbyl : (byts (after ds)).length = nb (after ds) := byts_length _
  have hmid : bitsIn (byts (after ds)) (aft ds i).length (piece (aft ds i) ds[i]).length = piece (aft ds i) ds[i] := by rw [hall]; exact bitsIn_mid hbits
  have htot : (after ds).length = (aft ds i).length + (piece (aft ds i) ds[i]).length + r.length := by rw [hall]; simp; omega
  have hget := get_walk B (p := (aft ds i).length) (w := (piece (aft ds i) ds[i]).length) hpl (by rw [hbyl]; unfold nb; omega) (by have := after_length ds []; simp only [List.length_nil] at this; rw [hbyl]; unfold nb after; omega) hF
  rw [hmid] at hget
  obtain ⟨b, cs, hve, hh, hb, r0, r1, r2, r3, r4⟩ := R.at_ hi
  obtain ⟨hv0, hw0, hw1⟩ := hok
  have hi1 : (i : Int) < (ds.length : Nat) := by omega
  have hi0 : (0 : Int) ≤ (i : Int) := by omega
  have hto : (if i + 1 < ds.length then ((aft ds (i + 1)).length : Nat) else (after ds).length) = (aft ds (i + 1)).length := by
    split
    · rfl
    · rw [← aft_all, show ds.length = i + 1 by omega]
  have hpn : (piece (aft ds i) ds[i]).length ≠ 0 → num (piece (aft ds i) ds[i]) = want ds[i] := piece_num
  have hpw : ds[i].pad = false → (piece (aft ds i) ds[i]).length ≠ 0 → ((piece (aft ds i) ds[i]).length : Int) = ds[i].w := piece_width
  have hpp : ds[i].pad = true → ((aft ds i ++ piece (aft ds i) ds[i]).length) % 8 = 0 := piece_pad
  rw [List.length_append] at hpp
  unfold want at hpn
  generalize hpL : (piece (aft ds i) ds[i]).length = pl at *
  generalize hnm : num (piece (aft ds i) ds[i]) = nm at *
  generalize hf : (aft ds i).length = f at *
  have hsub : ((f + pl : Nat) : Int) - (f : Int) = (pl : Nat) := by omega
  rw [iter_by lb9_0.eq_1]
  subst hve
  have hne : pl ≠ 0 → ¬ (((f + pl : Nat) : Int) = (f : Nat)) := fun h => by omega
  have hm8 : ds[i].pad = true → ((f + pl : Nat) : Int).tmod 8 = 0 := fun h => by
    have := hpp h
    rw [tmod_pos (by omega)]; omega
  by_cases hlast : i + 1 < ds.length
  · have hf1 := froms_get ds ds.length hlast
    rw [hle] at hf1
    have hj1 : (i : Int) + 1 < (ds.length : Nat) := by omega
    have hj0 : (0 : Int) ≤ (i : Int) + 1 := by omega
    cases hpd : ds[i].pad with
    | true =>
      rw [hpd] at r2 hm8 hpn
      have hm := hm8 rfl
      by_cases h0 : pl = 0
      · subst h0
        simp only [Nat.add_zero] at hf1
        simp (disch := (first | omega | (simp only [lnE] <;> omega) | (refine Fit.mono ‹Fit _ _ _› ?_ <;> (simp only [lnE] <;> omega)) | (refine Fit.draw ‹Fit _ _ _› ?_ ?_ <;> (simp only [lnE] <;> omega)) | (refine Fit.hid1 ‹Fit _ _ _› ?_ ?_ <;> (simp only [lnE] <;> omega)) | (refine Fit.draw1 ‹Fit _ _ _› ?_ ?_ ?_ <;> (simp only [lnE] <;> omega)) | (refine Fit.range0 ?_ ?_ <;> (simp only [lnE] <;> omega)) | fail)) only [syA, syB, argFr, D, E, T, C, undefv, eqF, aeq, sheqs, sheq, rdCells, cellsOf, fill, putAt, if_true, if_false, reduceIte, ↓reduceIte, reduceCtorEq, eq_self, Nat.reduceEqDiff, Nat.reduceAdd, Nat.reduceSub, Nat.reduceMul, Nat.reduceLT, Nat.reduceLeDiff, Nat.reducePow, Nat.reduceDiv, Nat.reduceMod, Int.reduceLT, Int.reduceLE, Int.reduceGT, Int.reduceGE, Int.reduceToNat, Int.reducePow, Int.reduceNeg, Int.reduceBEq, Int.reduceBNe, Int.reduceEq, Int.reduceAdd, Int.reduceSub, Int.reduceMul, cellv, sc, flatv, refs, refsF, refsC, hF.not0, hF.not1, hF.up0, hF.up1, hi0, hi1, hj0, hj1, hlen, hh, hb, r0, r1, r2, hs, hsH, hfi, hf1]
      · have hn1 := hne h0
        have hn2 := hpn h0
        simp only [if_true] at hn2
        subst hn2
        simp only [Int.natCast_zero] at hget
        simp (disch := (first | omega | (simp only [lnE] <;> omega) | (refine Fit.mono ‹Fit _ _ _› ?_ <;> (simp only [lnE] <;> omega)) | (refine Fit.draw ‹Fit _ _ _› ?_ ?_ <;> (simp only [lnE] <;> omega)) | (refine Fit.hid1 ‹Fit _ _ _› ?_ ?_ <;> (simp only [lnE] <;> omega)) | (refine Fit.draw1 ‹Fit _ _ _› ?_ ?_ ?_ <;> (simp only [lnE] <;> omega)) | (refine Fit.range0 ?_ ?_ <;> (simp only [lnE] <;> omega)) | fail)) only [syA, syB, argFr, D, E, T, C, undefv, eqF, aeq, sheqs, sheq, rdCells, cellsOf, fill, putAt, if_true, if_false, reduceIte, ↓reduceIte, reduceCtorEq, eq_self, Nat.reduceEqDiff, Nat.reduceAdd, Nat.reduceSub, Nat.reduceMul, Nat.reduceLT, Nat.reduceLeDiff, Nat.reducePow, Nat.reduceDiv, Nat.reduceMod, Int.reduceLT, Int.reduceLE, Int.reduceGT, Int.reduceGE, Int.reduceToNat, Int.reducePow, Int.reduceNeg, Int.reduceBEq, Int.reduceBNe, Int.reduceEq, Int.reduceAdd, Int.reduceSub, Int.reduceMul, cellv, sc, flatv, refs, refsF, refsC, hF.not0, hF.not1, hF.up0, hF.up1, hi0, hi1, hj0, hj1, hlen, hh, hb, r0, r1, r2, hs, hsH, hfi, hf1, hn1, hsub, hget, hm]
    | false =>
      rw [hpd] at r2 hpn hpw
      by_cases h0 : pl = 0
      · subst h0
        simp only [Nat.add_zero] at hf1
        simp (disch := (first | omega | (simp only [lnE] <;> omega) | (refine Fit.mono ‹Fit _ _ _› ?_ <;> (simp only [lnE] <;> omega)) | (refine Fit.draw ‹Fit _ _ _› ?_ ?_ <;> (simp only [lnE] <;> omega)) | (refine Fit.hid1 ‹Fit _ _ _› ?_ ?_ <;> (simp only [lnE] <;> omega)) | (refine Fit.draw1 ‹Fit _ _ _› ?_ ?_ ?_ <;> (simp only [lnE] <;> omega)) | (refine Fit.range0 ?_ ?_ <;> (simp only [lnE] <;> omega)) | fail)) only [syA, syB, argFr, D, E, T, C, undefv, eqF, aeq, sheqs, sheq, rdCells, cellsOf, fill, putAt, if_true, if_false, reduceIte, ↓reduceIte, reduceCtorEq, eq_self, Nat.reduceEqDiff, Nat.reduceAdd, Nat.reduceSub, Nat.reduceMul, Nat.reduceLT, Nat.reduceLeDiff, Nat.reducePow, Nat.reduceDiv, Nat.reduceMod, Int.reduceLT, Int.reduceLE, Int.reduceGT, Int.reduceGE, Int.reduceToNat, Int.reducePow, Int.reduceNeg, Int.reduceBEq, Int.reduceBNe, Int.reduceEq, Int.reduceAdd, Int.reduceSub, Int.reduceMul, cellv, sc, flatv, refs, refsF, refsC, hF.not0, hF.not1, hF.up0, hF.up1, hi0, hi1, hj0, hj1, hlen, hh, hb, r0, r1, r2, hs, hsH, hfi, hf1]
      · have hn1 := hne h0
        have hn2 := hpn h0
        have hn3 := hpw rfl h0
        simp only [Bool.false_eq_true, if_false] at hn2
        subst hn2
        rw [← hn3] at r1
        simp (disch := (first | omega | (simp only [lnE] <;> omega) | (refine Fit.mono ‹Fit _ _ _› ?_ <;> (simp only [lnE] <;> omega)) | (refine Fit.draw ‹Fit _ _ _› ?_ ?_ <;> (simp only [lnE] <;> omega)) | (refine Fit.hid1 ‹Fit _ _ _› ?_ ?_ <;> (simp only [lnE] <;> omega)) | (refine Fit.draw1 ‹Fit _ _ _› ?_ ?_ ?_ <;> (simp only [lnE] <;> omega)) | (refine Fit.range0 ?_ ?_ <;> (simp only [lnE] <;> omega)) | fail)) only [syA, syB, argFr, D, E, T, C, undefv, eqF, aeq, sheqs, sheq, rdCells, cellsOf, fill, putAt, if_true, if_false, reduceIte, ↓reduceIte, reduceCtorEq, eq_self, Nat.reduceEqDiff, Nat.reduceAdd, Nat.reduceSub, Nat.reduceMul, Nat.reduceLT, Nat.reduceLeDiff, Nat.reducePow, Nat.reduceDiv, Nat.reduceMod, Int.reduceLT, Int.reduceLE, Int.reduceGT, Int.reduceGE, Int.reduceToNat, Int.reducePow, Int.reduceNeg, Int.reduceBEq, Int.reduceBNe, Int.reduceEq, Int.reduceAdd, Int.reduceSub, Int.reduceMul, cellv, sc, flatv, refs, refsF, refsC, hF.not0, hF.not1, hF.up0, hF.up1, hi0, hi1, hj0, hj1, hlen, hh, hb, r0, r1, r2, hs, hsH, hfi, hf1, hn1, hsub, hget]
  · have hj1 : ¬ (i : Int) + 1 < (ds.length : Nat) := by omega
    rw [if_neg hlast, hle] at hto
    rw [hto] at hlen
    cases hpd : ds[i].pad with
    | true =>
      rw [hpd] at r2 hm8 hpn
      have hm := hm8 rfl
      by_cases h0 : pl = 0
      · subst h0
        simp only [Nat.add_zero] at hlen
        simp (disch := (first | omega | (simp only [lnE] <;> omega) | (refine Fit.mono ‹Fit _ _ _› ?_ <;> (simp only [lnE] <;> omega)) | (refine Fit.draw ‹Fit _ _ _› ?_ ?_ <;> (simp only [lnE] <;> omega)) | (refine Fit.hid1 ‹Fit _ _ _› ?_ ?_ <;> (simp only [lnE] <;> omega)) | (refine Fit.draw1 ‹Fit _ _ _› ?_ ?_ ?_ <;> (simp only [lnE] <;> omega)) | (refine Fit.range0 ?_ ?_ <;> (simp only [lnE] <;> omega)) | fail)) only [syA, syB, argFr, D, E, T, C, undefv, eqF, aeq, sheqs, sheq, rdCells, cellsOf, fill, putAt, if_true, if_false, reduceIte, ↓reduceIte, reduceCtorEq, eq_self, Nat.reduceEqDiff, Nat.reduceAdd, Nat.reduceSub, Nat.reduceMul, Nat.reduceLT, Nat.reduceLeDiff, Nat.reducePow, Nat.reduceDiv, Nat.reduceMod, Int.reduceLT, Int.reduceLE, Int.reduceGT, Int.reduceGE, Int.reduceToNat, Int.reducePow, Int.reduceNeg, Int.reduceBEq, Int.reduceBNe, Int.reduceEq, Int.reduceAdd, Int.reduceSub, Int.reduceMul, cellv, sc, flatv, refs, refsF, refsC, hF.not0, hF.not1, hF.up0, hF.up1, hi0, hi1, hj1, hlen, hh, hb, r0, r1, r2, hs, hsH, hfi]
      · have hn1 := hne h0
        have hn2 := hpn h0
        simp only [if_true] at hn2
        subst hn2
        simp only [Int.natCast_zero] at hget
        simp (disch := (first | omega | (simp only [lnE] <;> omega) | (refine Fit.mono ‹Fit _ _ _› ?_ <;> (simp only [lnE] <;> omega)) | (refine Fit.draw ‹Fit _ _ _› ?_ ?_ <;> (simp only [lnE] <;> omega)) | (refine Fit.hid1 ‹Fit _ _ _› ?_ ?_ <;> (simp only [lnE] <;> omega)) | (refine Fit.draw1 ‹Fit _ _ _› ?_ ?_ ?_ <;> (simp only [lnE] <;> omega)) | (refine Fit.range0 ?_ ?_ <;> (simp only [lnE] <;> omega)) | fail)) only [syA, syB, argFr, D, E, T, C, undefv, eqF, aeq, sheqs, sheq, rdCells, cellsOf, fill, putAt, if_true, if_false, reduceIte, ↓reduceIte, reduceCtorEq, eq_self, Nat.reduceEqDiff, Nat.reduceAdd, Nat.reduceSub, Nat.reduceMul, Nat.reduceLT, Nat.reduceLeDiff, Nat.reducePow, Nat.reduceDiv, Nat.reduceMod, Int.reduceLT, Int.reduceLE, Int.reduceGT, Int.reduceGE, Int.reduceToNat, Int.reducePow, Int.reduceNeg, Int.reduceBEq, Int.reduceBNe, Int.reduceEq, Int.reduceAdd, Int.reduceSub, Int.reduceMul, cellv, sc, flatv, refs, refsF, refsC, hF.not0, hF.not1, hF.up0, hF.up1, hi0, hi1, hj1, hlen, hh, hb, r0, r1, r2, hs, hsH, hfi, hn1, hsub, hget, hm]
    | false =>
      rw [hpd] at r2 hpn hpw
      by_cases h0 : pl = 0
      · subst h0
        simp only [Nat.add_zero] at hlen
        simp (disch := (first | omega | (simp only [lnE] <;> omega) | (refine Fit.mono ‹Fit _ _ _› ?_ <;> (simp only [lnE] <;> omega)) | (refine Fit.draw ‹Fit _ _ _› ?_ ?_ <;> (simp only [lnE] <;> omega)) | (refine Fit.hid1 ‹Fit _ _ _› ?_ ?_ <;> (simp only [lnE] <;> omega)) | (refine Fit.draw1 ‹Fit _ _ _› ?_ ?_ ?_ <;> (simp only [lnE] <;> omega)) | (refine Fit.range0 ?_ ?_ <;> (simp only [lnE] <;> omega)) | fail)) only [syA, syB, argFr, D, E, T, C, undefv, eqF, aeq, sheqs, sheq, rdCells, cellsOf, fill, putAt, if_true, if_false, reduceIte, ↓reduceIte, reduceCtorEq, eq_self, Nat.reduceEqDiff, Nat.reduceAdd, Nat.reduceSub, Nat.reduceMul, Nat.reduceLT, Nat.reduceLeDiff, Nat.reducePow, Nat.reduceDiv, Nat.reduceMod, Int.reduceLT, Int.reduceLE, Int.reduceGT, Int.reduceGE, Int.reduceToNat, Int.reducePow, Int.reduceNeg, Int.reduceBEq, Int.reduceBNe, Int.reduceEq, Int.reduceAdd, Int.reduceSub, Int.reduceMul, cellv, sc, flatv, refs, refsF, refsC, hF.not0, hF.not1, hF.up0, hF.up1, hi0, hi1, hj1, hlen, hh, hb, r0, r1, r2, hs, hsH, hfi]
      · have hn1 := hne h0
        have hn2 := hpn h0
        have hn3 := hpw rfl h0
        simp only [Bool.false_eq_true, if_false] at hn2
        subst hn2
        rw [← hn3] at r1
        simp (disch := (first | omega | (simp only [lnE] <;> omega) | (refine Fit.mono ‹Fit _ _ _› ?_ <;> (simp only [lnE] <;> omega)) | (refine Fit.draw ‹Fit _ _ _› ?_ ?_ <;> (simp only [lnE] <;> omega)) | (refine Fit.hid1 ‹Fit _ _ _› ?_ ?_ <;> (simp only [lnE] <;> omega)) | (refine Fit.draw1 ‹Fit _ _ _› ?_ ?_ ?_ <;> (simp only [lnE] <;> omega)) | (refine Fit.range0 ?_ ?_ <;> (simp only [lnE] <;> omega)) | fail)) only [syA, syB, argFr, D, E, T, C, undefv, eqF, aeq, sheqs, sheq, rdCells, cellsOf, fill, putAt, if_true, if_false, reduceIte, ↓reduceIte, reduceCtorEq, eq_self, Nat.reduceEqDiff, Nat.reduceAdd, Nat.reduceSub, Nat.reduceMul, Nat.reduceLT, Nat.reduceLeDiff, Nat.reducePow, Nat.reduceDiv, Nat.reduceMod, Int.reduceLT, Int.reduceLE, Int.reduceGT, Int.reduceGE, Int.reduceToNat, Int.reducePow, Int.reduceNeg, Int.reduceBEq, Int.reduceBNe, Int.reduceEq, Int.reduceAdd, Int.reduceSub, Int.reduceMul, cellv, sc, flatv, refs, refsF, refsC, hF.not0, hF.not1, hF.up0, hF.up1, hi0, hi1, hj1, hlen, hh, hb, r0, r1, r2, hs, hsH, hfi, hn1, hsub, hget]
theorem check_loop {ds : List Dd} {v bv : Value} (V : Wv hq H a k (after ds)) (R : Rw hq H v ds) (B : Rd ⟨hq, L, H, []⟩ bv (byts (after ds))) (hs : hq[s]? = some (.cells ds.length true (is (froms ds ds.length)))) (hsH : H.contains s = false) (hds : ds.length ≤ 60) (hF : Fit hq.length L H) (hok : ∀ d ∈ ds, DOk d) : ∀ (n i : Nat), i + n = ds.length →
    ∃ fr, Liter env lb9_0 [7, 3, 0, 4, 6] hq.length [(7, .int .i64 i), (3, .pointer (some ⟨a, 0, some 0⟩)), (0, v), (4, .slice (some ⟨s, 0, some ds.length⟩) ds.length 1), (6, bv)] ⟨hq, L, H, []⟩
      = some (.exit 2, fr, ⟨hq, L, H, []⟩) ∧ fr.get 3 = some (.pointer (some ⟨a, 0, some 0⟩)) ∧ fr.get 6 = some bv
  | 0, i, e => by
    obtain rfl : i = ds.length := by omega
    obtain ⟨p, e, rfl⟩ := R.len
    rw [iter_by lb9_0.eq_1]
    simp (disch := (first | omega | (simp only [lnE] <;> omega) | (refine Fit.mono ‹Fit _ _ _› ?_ <;> (simp only [lnE] <;> omega)) | (refine Fit.draw ‹Fit _ _ _› ?_ ?_ <;> (simp only [lnE] <;> omega)) | (refine Fit.hid1 ‹Fit _ _ _› ?_ ?_ <;> (simp only [lnE] <;> omega)) | (refine Fit.draw1 ‹Fit _ _ _› ?_ ?_ ?_ <;> (simp only [lnE] <;> omega)) | (refine Fit.range0 ?_ ?_ <;> (simp only [lnE] <;> omega)) | fail)) only [syA, syB, argFr, D, E, T, C, undefv, eqF, aeq, sheqs, sheq, rdCells, cellsOf, fill, putAt, if_true, if_false, reduceIte, ↓reduceIte, reduceCtorEq, eq_self, Nat.reduceEqDiff, Nat.reduceAdd, Nat.reduceSub, Nat.reduceMul, Nat.reduceLT, Nat.reduceLeDiff, Nat.reducePow, Nat.reduceDiv, Nat.reduceMod, Int.reduceLT, Int.reduceLE, Int.reduceGT, Int.reduceGE, Int.reduceToNat, Int.reducePow, Int.reduceNeg, Int.reduceBEq, Int.reduceBNe, Int.reduceEq, Int.reduceAdd, Int.reduceSub, Int.reduceMul, cellv, sc, flatv, refs, refsF, refsC]
    exact ⟨_, rfl, rfl, rfl⟩
  | n + 1, i, e => by
    have hi : i < ds.length := by omega
    rw [check_step V R B hs hsH hds hF hi (hok _ (List.getElem_mem hi))]
    have := check_loop V R B hs hsH hds hF hok n (i + 1) (by omega)
    simp only [Int.natCast_add, Int.natCast_one] at this
    exact this
theorem back_loop {q : List Blk} {ds : List Dd} {v : Value} (w : Ws q L H a q.length []) (hds : ds.length ≤ 60) (hok : ∀ d ∈ ds, DOk d) (R : Rw q H v ds) (hF : Fit q.length L H) : ∀ (n i : Nat), i + n = ds.length →
    ∃ fr, Liter env lb9_1 [4, 5, 3, 0] q.length [(4, slI q.length (froms ds i)), (5, .int .i64 i), (3, .pointer (some ⟨a, 0, some 0⟩)), (0, v)] ⟨frst q a ds i, L, H, dirt a [] (aft ds i)⟩
      = some (.exit 0, fr, ⟨frst q a ds ds.length, L, H, dirt a [] (after ds)⟩) ∧ fr.get 3 = some (.pointer (some ⟨a, 0, some 0⟩)) ∧ fr.get 4 = some (slI q.length (froms ds ds.length)) ∧ fr.get 0 = some v
  | 0, i, e => by
    obtain rfl : i = ds.length := by omega
    obtain ⟨p, e, rfl⟩ := R.len
    rw [iter_by lb9_1.eq_1, aft_all]
    simp (disch := (first | omega | (simp only [lnE] <;> omega) | (refine Fit.mono ‹Fit _ _ _› ?_ <;> (simp only [lnE] <;> omega)) | (refine Fit.draw ‹Fit _ _ _› ?_ ?_ <;> (simp only [lnE] <;> omega)) | (refine Fit.hid1 ‹Fit _ _ _› ?_ ?_ <;> (simp only [lnE] <;> omega)) | (refine Fit.draw1 ‹Fit _ _ _› ?_ ?_ ?_ <;> (simp only [lnE] <;> omega)) | (refine Fit.range0 ?_ ?_ <;> (simp only [lnE] <;> omega)) | fail)) only [syA, syB, argFr, D, E, T, C, undefv, eqF, aeq, sheqs, sheq, rdCells, cellsOf, fill, putAt, if_true, if_false, reduceIte, ↓reduceIte, reduceCtorEq, eq_self, Nat.reduceEqDiff, Nat.reduceAdd, Nat.reduceSub, Nat.reduceMul, Nat.reduceLT, Nat.reduceLeDiff, Nat.reducePow, Nat.reduceDiv, Nat.reduceMod, Int.reduceLT, Int.reduceLE, Int.reduceGT, Int.reduceGE, Int.reduceToNat, Int.reducePow, Int.reduceNeg, Int.reduceBEq, Int.reduceBNe, Int.reduceEq, Int.reduceAdd, Int.reduceSub, Int.reduceMul, cellv, sc, flatv, refs, refsF, refsC]
    exact ⟨_, rfl, rfl, rfl, rfl⟩
  | n + 1, i, e => by
    have hi : i < ds.length := by omega
    rw [back_next w hds hok R hF hi]
    have := back_loop w hds hok R hF n (i + 1) (by omega)
    simp only [Int.natCast_add, Int.natCast_one] at this
    exact this
end
/-! ### The operations as an argument -/
theorem deeds_sc (ds : List Dd) : ∀ v ∈ (ds.map drow).flatten, AM.sc v = true := fun v hv => by
  obtain ⟨l, hl, hv⟩ := List.mem_flatten.1 hv
  obtain ⟨d, _, rfl⟩ := List.mem_map.1 hl
  simp only [drow, List.mem_cons, List.not_mem_nil, or_false] at hv
  rcases hv with rfl | rfl | rfl <;> rfl
section
variable {P : Program} {W : World} {H : Type} {enc : TypeId × Value → H}
theorem trod_deed {t : TypeId} {f0 f1 f2 : Field} {fuel : Nat} {cs : List Value} {x : DataW H × List MemPlace} {base : Nat} {spare : Nat → Bool} {held : Bool} (ht : P.underlying t = some (.struct #[f0, f1, f2])) (h0 : P.underlying f0.type = some (.int .u32)) (h1 : P.underlying f1.type = some (.int .i64)) (h2 : P.underlying f2.type = some .bool) (o0 : f0.offset = 0) (o1 : f1.offset = 1) (o2 : f2.offset = 2) (c0 : P.cellsOf f0.type = 1) (c1 : P.cellsOf f1.type = 1) (c2 : P.cellsOf f2.type = 1) (hct : P.cellsOf t = 3)
    (h : DataW.trod enc P W base spare held fuel t cs = some x) : ∃ d : Dd, cs = drow d ∧ (drow d).length = 3 ∧ DOk d := by
  obtain ⟨xs, n, _, _, hl, hlen, hf⟩ := DataW.trod_struct ht h
  rw [hct] at hl
  have g0 := hf 0 f0 rfl
  have g1 := hf 1 f1 rfl
  have g2 := hf 2 f2 rfl
  rw [o0, c0] at g0
  rw [o1, c1] at g1
  rw [o2, c2] at g2
  match cs, hl with
  | [u, v, w], _ =>
    match xs, hlen with
    | [y0, y1, y2], _ =>
      simp only [List.drop_zero, List.drop_succ_cons, List.take_succ_cons, List.take_zero, List.getElem?_cons_zero, List.getElem?_cons_succ] at g0 g1 g2
      obtain ⟨a, e0, _, w0⟩ := DataW.trod_int h0 g0
      obtain ⟨b, e1, _, w1⟩ := DataW.trod_int h1 g1
      obtain ⟨c, e2, _⟩ := DataW.trod_bool h2 g2
      simp only [List.cons.injEq, and_true] at e0 e1 e2
      subst e0 e1 e2
      simp only [Lit.wf, Bool.and_eq_true, decide_eq_true_eq] at w0 w1
      have k0 : IntKind.u32.min = 0 := by decide
      have k1 : IntKind.u32.max = 4294967295 := by decide
      have k2 : IntKind.i64.min = -9223372036854775808 := by decide
      have k3 : IntKind.i64.max = 9223372036854775807 := by decide
      rw [k0, k1] at w0
      rw [k2, k3] at w1
      obtain ⟨a, rfl⟩ := Int.eq_ofNat_of_zero_le w0.1
      exact ⟨⟨a, b, c⟩, rfl, rfl, by show a < 4294967296; omega, w1.1, w1.2⟩
theorem open_deeds {t e : TypeId} {f0 f1 f2 : Field} {r : Reach} {b0 : Nat} {v : Value} {d : DataW H} {ps : List MemPlace} {base : Nat} {spare : Nat → Bool} {held : Bool} {tu ti tb : TypeId} (ht : P.underlying t = some (.slice e)) (he : P.underlying e = some (.struct #[f0, f1, f2])) (h0 : P.underlying tu = some (.int .u32)) (h1 : P.underlying ti = some (.int .i64)) (h2 : P.underlying tb = some .bool) (u0 : f0.type = tu ∧ f0.offset = 0) (u1 : f1.type = ti ∧ f1.offset = 1) (u2 : f2.type = tb ∧ f2.offset = 2) (c0 : P.cellsOf tu = 1) (c1 : P.cellsOf ti = 1) (c2 : P.cellsOf tb = 1) (hct : P.cellsOf e = 3)
    (hval : Value.okWide P W r b0 t v) (hd : DataW.Trod enc P W base spare held t v d ps) :
    ∃ (A : Option Addr) (ls : List Dd) (cap : Nat), v = .slice A ls.length cap ∧ At W A (ls.map drow).flatten ∧ (∀ d ∈ ls, DOk d) ∧ ls.length ≤ cap ∧ cap ≤ maxLen ∧ (A = none → ls.length = 0 ∧ cap = 0) ∧ (∀ a, A = some a → a.spot = none ∧ a.block < W.heap.size) := by
  obtain ⟨A, ls, cap, h1', h2', h3, h4⟩ := open_rows ht hct drow DOk (fun m cs x hx => trod_deed he (by rw [u0.1]; exact h0) (by rw [u1.1]; exact h1) (by rw [u2.1]; exact h2) u0.2 u1.2 u2.2 (by rw [u0.1]; exact c0) (by rw [u1.1]; exact c1) (by rw [u2.1]; exact c2) hct hx) hval hd
  exact ⟨A, ls, cap, h1', h2', fun d hd => (h3 d hd).2, h4⟩
end
theorem rw_arg {bs bs' : List Blk} {v : Value} {ds : List Dd} (h : (v = .slice none 0 0 ∧ ds.length = 0 ∧ bs' = []) ∨ (v = .slice (some ⟨bs.length, 0, some 0⟩) ds.length 0 ∧ bs' = [.cells 0 true (ds.map drow).flatten])) : Rw (bs ++ bs') [] v ds := by
  rcases h with ⟨rfl, h, rfl⟩ | ⟨rfl, rfl⟩
  · exact .inl ⟨rfl, List.eq_nil_of_length_eq_zero h⟩
  · exact .inr ⟨bs.length, rfl, rfl, get_new0 _⟩
/-- The law. -/
theorem back_run (ds : List Dd) (hok : ∀ d ∈ ds, DOk d) {bs : List Blk} {v : Value} (R : Rw bs [] v ds) :
    ∃ σ', Lrun env (.func 9) [v] ⟨bs, bs.length, [], []⟩ = some (.bool true, σ') := by
  rw [Lrun_sym 9 _ _ fn9]
  have hF : Fit bs.length bs.length [] := ⟨Nat.le_refl _, Low.nil _⟩
  by_cases h1 : (ds.length : Int) > 60
  · obtain ⟨p, e, rfl⟩ := R.len
    simp (disch := (first | omega | (simp only [lnE] <;> omega) | (refine Fit.mono ‹Fit _ _ _› ?_ <;> (simp only [lnE] <;> omega)) | (refine Fit.draw ‹Fit _ _ _› ?_ ?_ <;> (simp only [lnE] <;> omega)) | (refine Fit.hid1 ‹Fit _ _ _› ?_ ?_ <;> (simp only [lnE] <;> omega)) | (refine Fit.draw1 ‹Fit _ _ _› ?_ ?_ ?_ <;> (simp only [lnE] <;> omega)) | (refine Fit.range0 ?_ ?_ <;> (simp only [lnE] <;> omega)) | fail)) only [syA, syB, argFr, D, E, T, C, undefv, eqF, aeq, sheqs, sheq, rdCells, cellsOf, fill, putAt, if_true, if_false, reduceIte, ↓reduceIte, reduceCtorEq, eq_self, Nat.reduceEqDiff, Nat.reduceAdd, Nat.reduceSub, Nat.reduceMul, Nat.reduceLT, Nat.reduceLeDiff, Nat.reducePow, Nat.reduceDiv, Nat.reduceMod, Int.reduceLT, Int.reduceLE, Int.reduceGT, Int.reduceGE, Int.reduceToNat, Int.reducePow, Int.reduceNeg, Int.reduceBEq, Int.reduceBNe, Int.reduceEq, Int.reduceAdd, Int.reduceSub, Int.reduceMul, cellv, sc, flatv, refs, refsF, refsC, hF.not0, hF.not1, hF.up0, hF.up1, ac9, h1, wakes_walk]
    exact ⟨_, rfl⟩
  have n1 := fun d => new_walk hF d
  have hF1 : Fit (bs ++ [Wr 0 []]).length bs.length [] := hF.mono (by simp)
  have w1 : Ws (bs ++ [Wr 0 []]) bs.length [] bs.length (bs ++ [Wr 0 []]).length [] :=
    ⟨get_new0 _, fun h => absurd rfl h, fun _ => rfl, Nat.le_refl _, by simp, rfl, rfl, by simp, Bits.nil⟩
  have hbl : (bs ++ [Wr 0 []]).length = bs.length + 1 := by simp
  obtain ⟨fr1, l1, g3, g4, g0⟩ := back_loop w1 (by omega) hok (R.app [Wr 0 []]) hF1 ds.length 0 (by omega)
  have e1 : slI (bs ++ [Wr 0 []]).length (froms ds 0) = .slice none 0 0 := rfl
  have e2 : frst (bs ++ [Wr 0 []]) bs.length ds 0 = bs ++ [Wr 0 []] := rfl
  have e3 : dirt bs.length [] (aft ds 0) = [] := dirt_self _ []
  rw [e1, e2, e3, hbl] at l1
  simp only [Int.natCast_zero] at l1
  by_cases hN : ds.length = 0
  · have hn : ds = [] := List.eq_nil_of_length_eq_zero hN
    subst hn
    have b1 := fun d => bytes_walk w1.v (by simp) hF1 d
    have e4 : sl (bs ++ [Wr 0 []]).length (nb []) (ob []) = .slice none 0 0 := rfl
    have e5 : slB (nb []) (ob []) = [] := rfl
    rw [e4, e5] at b1
    simp only [List.append_nil] at b1
    have ln := fun d => len_walk w1.v hF1 d
    have gt := fun d => get_walk (d := d) (L := bs.length) (hp := bs ++ [Wr 0 []]) (H := []) (v := .slice none 0 0) (l := []) ⟨By.nil, .inl ⟨rfl, rfl⟩⟩ (p := 0) (w := 0) (by omega) (by simp) (by simp) hF1
    have e6 : num (bitsIn [] 0 0) = 0 := rfl
    rw [e6] at gt
    simp only [List.length_nil, Int.natCast_zero] at *
    have e7 : frst (bs ++ [Wr 0 []]) bs.length [] 0 = bs ++ [Wr 0 []] := rfl
    have e8 : after [] = [] := rfl
    rw [e7, e8, dirt_self] at l1
    have it := iter_by (env := env) lb9_0.eq_1
    have q7 : (7 : Int).tdiv 8 = 0 := by decide
    obtain ⟨p, e, rfl⟩ := R.len
    simp only [List.length_nil, Int.natCast_zero] at *
    simp (disch := (first | omega | (simp only [lnE] <;> omega) | (refine Fit.mono ‹Fit _ _ _› ?_ <;> (simp only [lnE] <;> omega)) | (refine Fit.draw ‹Fit _ _ _› ?_ ?_ <;> (simp only [lnE] <;> omega)) | (refine Fit.hid1 ‹Fit _ _ _› ?_ ?_ <;> (simp only [lnE] <;> omega)) | (refine Fit.draw1 ‹Fit _ _ _› ?_ ?_ ?_ <;> (simp only [lnE] <;> omega)) | (refine Fit.range0 ?_ ?_ <;> (simp only [lnE] <;> omega)) | fail)) only [syA, syB, argFr, D, E, T, C, undefv, eqF, aeq, sheqs, sheq, rdCells, cellsOf, fill, putAt, if_true, if_false, reduceIte, ↓reduceIte, reduceCtorEq, eq_self, Nat.reduceEqDiff, Nat.reduceAdd, Nat.reduceSub, Nat.reduceMul, Nat.reduceLT, Nat.reduceLeDiff, Nat.reducePow, Nat.reduceDiv, Nat.reduceMod, Int.reduceLT, Int.reduceLE, Int.reduceGT, Int.reduceGE, Int.reduceToNat, Int.reducePow, Int.reduceNeg, Int.reduceBEq, Int.reduceBNe, Int.reduceEq, Int.reduceAdd, Int.reduceSub, Int.reduceMul, cellv, sc, flatv, refs, refsF, refsC, hF.not0, hF.not1, hF.up0, hF.up1, ac9, n1, l1, g3, g4, g0, b1, ln, it, gt, q7, wakes_walk]
    exact ⟨_, rfl⟩
  have hlen := after_length ds []
  simp only [List.length_nil] at hlen
  have hlen' : (after ds).length ≤ 1920 := by unfold after; omega
  have ws := w1.app0 hF1 [Blk.cells ds.length true (is (froms ds ds.length))]
  have wq := ws.wset (m := after ds) (fun _ => rfl) (after_bits ds [] Bits.nil)
  have hFq0 : Fit ((bs ++ [Wr 0 []]) ++ [Blk.cells ds.length true (is (froms ds ds.length))]).length bs.length [] := hF1.mono (by simp)
  have hfr : frst (bs ++ [Wr 0 []]) bs.length ds ds.length = wset ((bs ++ [Wr 0 []]) ++ [Blk.cells ds.length true (is (froms ds ds.length))]) bs.length ((bs ++ [Wr 0 []]).length + 1) (after ds) := by
    unfold frst; rw [if_neg hN, aft_all]
  have hfs : (frst (bs ++ [Wr 0 []]) bs.length ds ds.length)[bs.length + 1]? = some (.cells ds.length true (is (froms ds ds.length))) := by
    rw [hfr]
    have := wset_other (m := after ds) ws (i := bs.length + 1) (by simp) (by omega) (by simp)
    simp only [List.length_cons, List.length_nil, Nat.zero_add] at this
    rw [this, ← hbl, get_new0]
  have hRq : Rw (frst (bs ++ [Wr 0 []]) bs.length ds ds.length) [] v ds := R.more fun b x hx hh => by
    have hlt := (List.getElem?_eq_some_iff.1 hx).1
    refine ⟨?_, rfl⟩
    rw [hfr]
    have := wset_other (m := after ds) ws (i := b) (by simp; omega) (by omega) (by simp; omega)
    simp only [List.length_cons, List.length_nil, Nat.zero_add] at this
    rw [this, List.append_assoc, List.getElem?_append_left hlt, hx]
  simp only [List.length_cons, List.length_nil, Nat.zero_add] at wq
  rw [← hfr] at wq
  have hFq := fit_wset (a := bs.length) (k := (bs ++ [Wr 0 []]).length + 1) (m := after ds) hFq0
  rw [← hfr] at hFq
  have e4 : slI (bs ++ [Wr 0 []]).length (froms ds ds.length) = .slice (some ⟨bs.length + 1, 0, some ds.length⟩) ds.length 1 := by rw [slI_froms _ _ hN, hbl]
  rw [e4] at g4
  generalize frst (bs ++ [Wr 0 []]) bs.length ds ds.length = Q at *
  have b1 := fun d => bytes_walk wq.v (by omega) hFq d
  have V2 := wq.v.app (slB (nb (after ds)) (ob (after ds)))
  have hFb : Fit (Q ++ slB (nb (after ds)) (ob (after ds))).length bs.length [] := hFq.mono (by simp)
  have ln := fun d => len_walk V2 hFb d
  have B : Rd ⟨Q ++ slB (nb (after ds)) (ob (after ds)), bs.length, [], []⟩ (sl Q.length (nb (after ds)) (ob (after ds))) (byts (after ds)) := by
    have := sl_rd (h := Q) (L := bs.length) (H := []) (d := []) (g := nb (after ds)) (o := ob (after ds)) rfl (by rw [ob_getD]; exact byts_by wq.bits)
    rwa [ob_getD] at this
  have hls : lenF (sl Q.length (nb (after ds)) (ob (after ds))) = some (.int .i64 (nb (after ds))) := by rw [lenF_sl, ob_getD, byts_length]
  obtain ⟨fr2, l2, k3, k6⟩ := check_loop V2 (hRq.app _) B (by rw [List.getElem?_append_left (List.getElem?_eq_some_iff.1 hfs).1, hfs]) rfl (by omega) hFb hok ds.length 0 (by omega)
  simp only [Int.natCast_zero] at l2
  have gt := fun d => get_walk (d := d) (B.locked (d' := d)) (p := (after ds).length) (w := 8 * nb (after ds) - (after ds).length) (by unfold nb; omega) (by rw [byts_length]; unfold nb; omega) (by rw [byts_length]; unfold nb; omega) hFb
  rw [bitsIn_rest wq.bits, num_zeros] at gt
  have q1 : (((after ds).length : Nat) + 7 : Int).tdiv 8 = (nb (after ds) : Nat) := by rw [tdiv_pos (by omega)]; unfold nb; omega
  have q2 : 8 * ((nb (after ds) : Nat) : Int) - ((after ds).length : Nat) = ((8 * nb (after ds) - (after ds).length : Nat) : Int) := by unfold nb; omega
  have hnb : nb (after ds) ≤ 300 := by unfold nb; omega
  obtain ⟨p, e, hv⟩ := R.len
  subst hv
  generalize hbv : sl Q.length (nb (after ds)) (ob (after ds)) = bv at *
  have hbvn : nb (after ds) < 9223372036854775807 := by omega
  have hD : ∀ t ∈ joinDirty [] (dirt bs.length [] (after ds)), bs.length ≤ t := fun t ht => by
    rcases mem_join _ _ _ ht with ht | ht
    · cases ht
    · rw [mem_dirt ht]; omega
  simp only [List.length_append] at l2
  simp (disch := (first | omega | (simp only [lnE] <;> omega) | (refine Fit.mono ‹Fit _ _ _› ?_ <;> (simp only [lnE] <;> omega)) | (refine Fit.draw ‹Fit _ _ _› ?_ ?_ <;> (simp only [lnE] <;> omega)) | (refine Fit.hid1 ‹Fit _ _ _› ?_ ?_ <;> (simp only [lnE] <;> omega)) | (refine Fit.draw1 ‹Fit _ _ _› ?_ ?_ ?_ <;> (simp only [lnE] <;> omega)) | (refine Fit.range0 ?_ ?_ <;> (simp only [lnE] <;> omega)) | fail)) only [syA, syB, argFr, D, E, T, C, undefv, eqF, aeq, sheqs, sheq, rdCells, cellsOf, fill, putAt, if_true, if_false, reduceIte, ↓reduceIte, reduceCtorEq, eq_self, Nat.reduceEqDiff, Nat.reduceAdd, Nat.reduceSub, Nat.reduceMul, Nat.reduceLT, Nat.reduceLeDiff, Nat.reducePow, Nat.reduceDiv, Nat.reduceMod, Int.reduceLT, Int.reduceLE, Int.reduceGT, Int.reduceGE, Int.reduceToNat, Int.reducePow, Int.reduceNeg, Int.reduceBEq, Int.reduceBNe, Int.reduceEq, Int.reduceAdd, Int.reduceSub, Int.reduceMul, cellv, sc, flatv, refs, refsF, refsC, hF.not0, hF.not1, hF.up0, hF.up1, ac9, h1, n1, l1, g3, g4, g0, b1, ln, hls, q1, q2, l2, k3, k6, gt, wakes_walk]
  exact gc_end hD _ _ _
theorem back_arg (ds : List Dd) (hok : ∀ d ∈ ds, DOk d) (v : Value) {bs bs' : List Blk} (h : (v = .slice none 0 0 ∧ ds.length = 0 ∧ bs' = []) ∨ (v = .slice (some ⟨bs.length, 0, some 0⟩) ds.length 0 ∧ bs' = [.cells 0 true (ds.map drow).flatten])) :
    ∃ σ', Lrun env (.func 9) [v] ⟨bs ++ bs', (bs ++ bs').length, [], []⟩ = some (.bool true, σ') := back_run ds hok (rw_arg h)
end Bt
end Go.Proofs.Ytceecoagooalpaa
end
