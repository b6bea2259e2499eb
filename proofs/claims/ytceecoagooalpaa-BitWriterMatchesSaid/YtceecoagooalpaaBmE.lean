/-
  THE BIT WRITER's laws: the writer and the reference, operation by operation. Conditions: none.
-/
import Derived.Test.YtceecoagooalpaaBmD
set_option linter.all false
section
namespace Go.Proofs.Ytceecoagooalpaa
namespace Bt
open Go Go.RowKit AM ArEnv
variable {q P P1 P2 P4 : List Blk} {L : Nat} {H : List Nat} {a r kw kr : Nat}

def mfr (r a : Nat) (vd vb : Value) (at_ width : Int) (i : Int) : Fr := [(10, .pointer (some ⟨r, 0, some 0⟩)), (9, .pointer (some ⟨a, 0, some 0⟩)), (0, vd), (2, .int .i64 at_), (3, .int .i64 width), (1, vb), (11, .int .i64 i)]
theorem match_step {ds : List Dd} {vd vb : Value} {at_ width : Int} {i : Nat} {l l' D0 D1 D2 : List Nat} (hi : i < ds.length) (hds : ds.length ≤ 60) (R0 : Rw P H vd ds) (R1 : Rw P1 H vd ds) (hok : DOk ds[i]) (hl' : l'.length ≤ 2000) (hb' : Bits l') (hLr : L ≤ P2.length) (hFq : Fit P2.length L H)
    (hdoes : Lrun env (.func 24) [.pointer (some ⟨a, 0, some 0⟩), .agg (drow ds[i]).toArray] ⟨P, L, H, D0⟩ = some (.tuple #[.int .i64 (dnum l ds[i]), .bool (dok ds[i])], ⟨P1, L, H, D1⟩))
    (hpad : ds[i].pad = true → Lrun env (.func 25) [.pointer (some ⟨r, 0, some 0⟩)] ⟨P1, L, H, D1⟩ = some (.int .i64 (padN l), ⟨P2, L, H, D2⟩))
    (hput : ds[i].pad = false → Lrun env (.func 26) [.pointer (some ⟨r, 0, some 0⟩), .int .u32 ds[i].v, .int .i64 ds[i].w] ⟨P1, L, H, D1⟩ = some (.bool (fitsV ds[i].v ds[i].w), ⟨P2, L, H, D2⟩))
    (V : Wv P2 H a kw l') (hr : P2[r]? = some (Rr kr l')) (hHr : H.contains r = false) (hib : l'.length ≠ 0 → P2[kr]? = some (Ib l')) (hHk : l'.length ≠ 0 → H.contains kr = false)
    (hgc : gcFr q.length (mfr r a vd vb at_ width ((i : Int) + 1)) ⟨P2 ++ (slB (nb l') (ob l') ++ slB (nb l') (ob l')), L, H, D2⟩ = some (mfr r a vd vb at_ width ((i : Int) + 1), ⟨P4, L, H, D2⟩)) :
    Liter env lb8_0 [10, 9, 0, 2, 3, 1, 11] q.length (mfr r a vd vb at_ width i) ⟨P, L, H, D0⟩
      = Liter env lb8_0 [10, 9, 0, 2, 3, 1, 11] q.length (mfr r a vd vb at_ width ((i : Int) + 1)) ⟨P4, L, H, D2⟩ := by
  have hi1 : (i : Int) < (ds.length : Nat) := by omega
  have hi0 : (0 : Int) ≤ (i : Int) := by omega
  have hFl : Fit P2.length P2.length H := ⟨Nat.le_refl _, hFq.2⟩
  have hFl2 : Fit (P2 ++ slB (nb l') (ob l')).length (P2 ++ slB (nb l') (ob l')).length H := ⟨Nat.le_refl _, hFq.2.mono (by simp)⟩
  have ln := fun d => len_walk V hFl d
  have by1 := fun d => bytes_walk V (by omega) hFl d
  have by2 := fun d => refbytes_walk (hp := P2 ++ slB (nb l') (ob l')) (s := kr) hb' (fun h => by rw [List.getElem?_append_left (List.getElem?_eq_some_iff.1 (hib h)).1, hib h]) hHk (by omega) hFl2 d
  obtain ⟨b, cs, hve, hh, hb, r0, r1, r2, r3, r4⟩ := R0.at_ hi
  obtain ⟨b', cs', hve', hh', hb1, s0, s1, s2, s3, s4⟩ := R1.at_ hi
  rw [hve] at hve'
  cases hve'
  subst hve
  unfold mfr at *
  rw [iter_by lb8_0.eq_1]
  unfold Rr at hr
  have hrl := (List.getElem?_eq_some_iff.1 hr).1
  unfold dnum dok at hdoes
  have hn32 : ∀ n : Nat, (((n : Int) == (n : Int)) = true) := fun n => by simp
  by_cases h0 : l'.length = 0
  · have e1 : ob l' = none := if_pos h0
    have e2 : slI kr l' = .slice none 0 0 := if_pos h0
    rw [e1] at by1 by2 hgc
    rw [e2] at by2 hr
    rw [h0] at ln
    simp only [sl_none, slB_none, List.append_nil, Int.natCast_zero] at by1 by2 hgc ln
    cases hpd : ds[i].pad with
    | true =>
      rw [hpd] at r2 s2 hdoes
      have hp := hpad hpd
      simp only [if_true, Bool.true_or] at hdoes
      simp (disch := (first | omega | (simp only [lnE] <;> omega) | (refine Fit.mono ‹Fit _ _ _› ?_ <;> (simp only [lnE] <;> omega)) | (refine Fit.draw ‹Fit _ _ _› ?_ ?_ <;> (simp only [lnE] <;> omega)) | (refine Fit.hid1 ‹Fit _ _ _› ?_ ?_ <;> (simp only [lnE] <;> omega)) | (refine Fit.draw1 ‹Fit _ _ _› ?_ ?_ ?_ <;> (simp only [lnE] <;> omega)) | (refine Fit.range0 ?_ ?_ <;> (simp only [lnE] <;> omega)) | fail)) only [syA, syB, argFr, D, E, T, C, undefv, eqF, aeq, sheqs, sheq, rdCells, cellsOf, fill, putAt, if_true, if_false, reduceIte, ↓reduceIte, reduceCtorEq, eq_self, Nat.reduceEqDiff, Nat.reduceAdd, Nat.reduceSub, Nat.reduceMul, Nat.reduceLT, Nat.reduceLeDiff, Nat.reducePow, Nat.reduceDiv, Nat.reduceMod, Int.reduceLT, Int.reduceLE, Int.reduceGT, Int.reduceGE, Int.reduceToNat, Int.reducePow, Int.reduceNeg, Int.reduceBEq, Int.reduceBNe, Int.reduceEq, Int.reduceAdd, Int.reduceSub, Int.reduceMul, cellv, sc, flatv, refs, refsF, refsC, hi0, hi1, hh, hb, hb1, r3, r4, hdoes, s2, hp, ln, hr, hHr, by1, by2, hgc]
    | false =>
      rw [hpd] at r2 s2 hdoes
      have hp := hput hpd
      simp only [Bool.false_eq_true, if_false, Bool.false_or, Int.natCast_zero] at hdoes
      cases hf : fitsV ds[i].v ds[i].w with
      | true =>
        rw [hf] at hdoes hp
        simp (disch := (first | omega | (simp only [lnE] <;> omega) | (refine Fit.mono ‹Fit _ _ _› ?_ <;> (simp only [lnE] <;> omega)) | (refine Fit.draw ‹Fit _ _ _› ?_ ?_ <;> (simp only [lnE] <;> omega)) | (refine Fit.hid1 ‹Fit _ _ _› ?_ ?_ <;> (simp only [lnE] <;> omega)) | (refine Fit.draw1 ‹Fit _ _ _› ?_ ?_ ?_ <;> (simp only [lnE] <;> omega)) | (refine Fit.range0 ?_ ?_ <;> (simp only [lnE] <;> omega)) | fail)) only [syA, syB, argFr, D, E, T, C, undefv, eqF, aeq, sheqs, sheq, rdCells, cellsOf, fill, putAt, if_true, if_false, reduceIte, ↓reduceIte, reduceCtorEq, eq_self, Nat.reduceEqDiff, Nat.reduceAdd, Nat.reduceSub, Nat.reduceMul, Nat.reduceLT, Nat.reduceLeDiff, Nat.reducePow, Nat.reduceDiv, Nat.reduceMod, Int.reduceLT, Int.reduceLE, Int.reduceGT, Int.reduceGE, Int.reduceToNat, Int.reducePow, Int.reduceNeg, Int.reduceBEq, Int.reduceBNe, Int.reduceEq, Int.reduceAdd, Int.reduceSub, Int.reduceMul, cellv, sc, flatv, refs, refsF, refsC, hi0, hi1, hh, hb, hb1, r3, r4, hdoes, s0, s1, s2, hp, ln, hr, hHr, by1, by2, hgc]
      | false =>
        rw [hf] at hdoes hp
        simp (disch := (first | omega | (simp only [lnE] <;> omega) | (refine Fit.mono ‹Fit _ _ _› ?_ <;> (simp only [lnE] <;> omega)) | (refine Fit.draw ‹Fit _ _ _› ?_ ?_ <;> (simp only [lnE] <;> omega)) | (refine Fit.hid1 ‹Fit _ _ _› ?_ ?_ <;> (simp only [lnE] <;> omega)) | (refine Fit.draw1 ‹Fit _ _ _› ?_ ?_ ?_ <;> (simp only [lnE] <;> omega)) | (refine Fit.range0 ?_ ?_ <;> (simp only [lnE] <;> omega)) | fail)) only [syA, syB, argFr, D, E, T, C, undefv, eqF, aeq, sheqs, sheq, rdCells, cellsOf, fill, putAt, if_true, if_false, reduceIte, ↓reduceIte, reduceCtorEq, eq_self, Nat.reduceEqDiff, Nat.reduceAdd, Nat.reduceSub, Nat.reduceMul, Nat.reduceLT, Nat.reduceLeDiff, Nat.reducePow, Nat.reduceDiv, Nat.reduceMod, Int.reduceLT, Int.reduceLE, Int.reduceGT, Int.reduceGE, Int.reduceToNat, Int.reducePow, Int.reduceNeg, Int.reduceBEq, Int.reduceBNe, Int.reduceEq, Int.reduceAdd, Int.reduceSub, Int.reduceMul, cellv, sc, flatv, refs, refsF, refsC, hi0, hi1, hh, hb, hb1, r3, r4, hdoes, s0, s1, s2, hp, ln, hr, hHr, by1, by2, hgc]
  · have e1 : ob l' = some (byts l') := if_neg h0
    have hbl : (byts l').length = nb l' := byts_length ..
    rw [e1] at by1 by2 hgc
    rw [slI_some h0] at by2 hr
    simp only [sl_some, slB_some, hbl, List.length_append, List.length_cons, List.length_nil, Nat.zero_add, List.append_assoc, List.cons_append, List.nil_append] at by1 by2 hgc
    have hst1 : ∀ nw L d, St.str ⟨P2 ++ Blk.cells (nb l') true (u8s (byts l')) :: nw, L, H, d⟩ (.slice (some ⟨P2.length, 0, some (nb l')⟩) (nb l') 1) = some (b8 (byts l')) := fun nw L d => by
      have := (Rd.whole (hp := P2 ++ Blk.cells (nb l') true (u8s (byts l')) :: nw) (L := L) (d := d) (e := 1) (get_new0 _) hFq.not0 (byts_by hb') (.inr rfl)).str
      rwa [hbl] at this
    have hst2 : ∀ L d, St.str ⟨P2 ++ [Blk.cells (nb l') true (u8s (byts l')), Blk.cells (nb l') true (u8s (byts l'))], L, H, d⟩ (.slice (some ⟨P2.length + 1, 0, some (nb l')⟩) (nb l') 1) = some (b8 (byts l')) := fun L d => by
      have := (Rd.whole (hp := P2 ++ [Blk.cells (nb l') true (u8s (byts l')), Blk.cells (nb l') true (u8s (byts l'))]) (L := L) (d := d) (b := P2.length + 1) (e := 1) (by rw [get_new]; rfl) (hFq.not1 1) (byts_by hb') (.inr rfl)).str
      rwa [hbl] at this
    cases hpd : ds[i].pad with
    | true =>
      rw [hpd] at r2 s2 hdoes
      have hp := hpad hpd
      simp only [if_true, Bool.true_or] at hdoes
      simp (disch := (first | omega | (simp only [lnE] <;> omega) | (refine Fit.mono ‹Fit _ _ _› ?_ <;> (simp only [lnE] <;> omega)) | (refine Fit.draw ‹Fit _ _ _› ?_ ?_ <;> (simp only [lnE] <;> omega)) | (refine Fit.hid1 ‹Fit _ _ _› ?_ ?_ <;> (simp only [lnE] <;> omega)) | (refine Fit.draw1 ‹Fit _ _ _› ?_ ?_ ?_ <;> (simp only [lnE] <;> omega)) | (refine Fit.range0 ?_ ?_ <;> (simp only [lnE] <;> omega)) | fail)) only [syA, syB, argFr, D, E, T, C, undefv, eqF, aeq, sheqs, sheq, rdCells, cellsOf, fill, putAt, if_true, if_false, reduceIte, ↓reduceIte, reduceCtorEq, eq_self, Nat.reduceEqDiff, Nat.reduceAdd, Nat.reduceSub, Nat.reduceMul, Nat.reduceLT, Nat.reduceLeDiff, Nat.reducePow, Nat.reduceDiv, Nat.reduceMod, Int.reduceLT, Int.reduceLE, Int.reduceGT, Int.reduceGE, Int.reduceToNat, Int.reducePow, Int.reduceNeg, Int.reduceBEq, Int.reduceBNe, Int.reduceEq, Int.reduceAdd, Int.reduceSub, Int.reduceMul, cellv, sc, flatv, refs, refsF, refsC, hi0, hi1, hh, hb, hb1, r3, r4, hdoes, s2, hp, ln, hr, hHr, by1, by2, hst1, hst2, hgc]
    | false =>
      rw [hpd] at r2 s2 hdoes
      have hp := hput hpd
      simp only [Bool.false_eq_true, if_false, Bool.false_or, Int.natCast_zero] at hdoes
      cases hf : fitsV ds[i].v ds[i].w with
      | true =>
        rw [hf] at hdoes hp
        simp (disch := (first | omega | (simp only [lnE] <;> omega) | (refine Fit.mono ‹Fit _ _ _› ?_ <;> (simp only [lnE] <;> omega)) | (refine Fit.draw ‹Fit _ _ _› ?_ ?_ <;> (simp only [lnE] <;> omega)) | (refine Fit.hid1 ‹Fit _ _ _› ?_ ?_ <;> (simp only [lnE] <;> omega)) | (refine Fit.draw1 ‹Fit _ _ _› ?_ ?_ ?_ <;> (simp only [lnE] <;> omega)) | (refine Fit.range0 ?_ ?_ <;> (simp only [lnE] <;> omega)) | fail)) only [syA, syB, argFr, D, E, T, C, undefv, eqF, aeq, sheqs, sheq, rdCells, cellsOf, fill, putAt, if_true, if_false, reduceIte, ↓reduceIte, reduceCtorEq, eq_self, Nat.reduceEqDiff, Nat.reduceAdd, Nat.reduceSub, Nat.reduceMul, Nat.reduceLT, Nat.reduceLeDiff, Nat.reducePow, Nat.reduceDiv, Nat.reduceMod, Int.reduceLT, Int.reduceLE, Int.reduceGT, Int.reduceGE, Int.reduceToNat, Int.reducePow, Int.reduceNeg, Int.reduceBEq, Int.reduceBNe, Int.reduceEq, Int.reduceAdd, Int.reduceSub, Int.reduceMul, cellv, sc, flatv, refs, refsF, refsC, hi0, hi1, hh, hb, hb1, r3, r4, hdoes, s0, s1, s2, hp, ln, hr, hHr, by1, by2, hst1, hst2, hgc]
      | false =>
        rw [hf] at hdoes hp
        simp (disch := (first | omega | (simp only [lnE] <;> omega) | (refine Fit.mono ‹Fit _ _ _› ?_ <;> (simp only [lnE] <;> omega)) | (refine Fit.draw ‹Fit _ _ _› ?_ ?_ <;> (simp only [lnE] <;> omega)) | (refine Fit.hid1 ‹Fit _ _ _› ?_ ?_ <;> (simp only [lnE] <;> omega)) | (refine Fit.draw1 ‹Fit _ _ _› ?_ ?_ ?_ <;> (simp only [lnE] <;> omega)) | (refine Fit.range0 ?_ ?_ <;> (simp only [lnE] <;> omega)) | fail)) only [syA, syB, argFr, D, E, T, C, undefv, eqF, aeq, sheqs, sheq, rdCells, cellsOf, fill, putAt, if_true, if_false, reduceIte, ↓reduceIte, reduceCtorEq, eq_self, Nat.reduceEqDiff, Nat.reduceAdd, Nat.reduceSub, Nat.reduceMul, Nat.reduceLT, Nat.reduceLeDiff, Nat.reducePow, Nat.reduceDiv, Nat.reduceMod, Int.reduceLT, Int.reduceLE, Int.reduceGT, Int.reduceGE, Int.reduceToNat, Int.reducePow, Int.reduceNeg, Int.reduceBEq, Int.reduceBNe, Int.reduceEq, Int.reduceAdd, Int.reduceSub, Int.reduceMul, cellv, sc, flatv, refs, refsF, refsC, hi0, hi1, hh, hb, hb1, r3, r4, hdoes, s0, s1, s2, hp, ln, hr, hHr, by1, by2, hst1, hst2, hgc]
/-- The two writers' blocks after an operation. -/
def ms (q : List Blk) (a r : Nat) (l : List Nat) : List Blk := if l.length = 0 then q else (q.set a (Wr (q.length + 1) l)).set r (Rr q.length l) ++ [Ib l, Wb l]
def md (a r : Nat) (l : List Nat) : List Nat := if l.length = 0 then [] else [r, a]
theorem gc_pair {fr : Fr} {nw : List Blk} {x y : Nat} {l : List Nat} (hal : a < q.length) (hrl : r < q.length) (har : a ≠ r) (h0 : l.length ≠ 0) (hx : nw[x]? = some (Ib l)) (hy : nw[y]? = some (Wb l)) (hxy : x ≠ y) (hv : ∀ p ∈ fr, ∀ z ∈ refs p.2, z < q.length) :
    gcFr q.length fr ⟨(q.set a (Wr (q.length + y) l)).set r (Rr (q.length + x) l) ++ nw, L, H, [r, a]⟩ = some (fr, ⟨(q.set a (Wr (q.length + 1) l)).set r (Rr q.length l) ++ [Ib l, Wb l], L, H, [r, a]⟩) := by
  have hb : ((q.set a (Wr (q.length + y) l)).set r (Rr (q.length + x) l)).length = q.length := by simp
  have hgx : ((q.set a (Wr (q.length + y) l)).set r (Rr (q.length + x) l) ++ nw)[q.length + x]? = some (Ib l) := by
    rw [List.getElem?_append_right (by simp), hb, Nat.add_sub_cancel_left]; exact hx
  have hgy : ((q.set a (Wr (q.length + y) l)).set r (Rr (q.length + x) l) ++ nw)[q.length + y]? = some (Wb l) := by
    rw [List.getElem?_append_right (by simp), hb, Nat.add_sub_cancel_left]; exact hy
  have hga : ((q.set a (Wr (q.length + y) l)).set r (Rr (q.length + x) l))[a]? = some (Wr (q.length + y) l) := by
    rw [List.getElem?_set_ne (Ne.symm har), List.getElem?_set_self hal]
  have hgr : ((q.set a (Wr (q.length + y) l)).set r (Rr (q.length + x) l))[r]? = some (Rr (q.length + x) l) := List.getElem?_set_self (by simpa using hrl)
  have hra : refsAt ((q.set a (Wr (q.length + y) l)).set r (Rr (q.length + x) l)) a = [q.length + y] := by unfold refsAt; rw [hga]; exact Wr_refs h0
  have hrr : refsAt ((q.set a (Wr (q.length + y) l)).set r (Rr (q.length + x) l)) r = [q.length + x] := by unfold refsAt; rw [hgr]; exact Rr_refs h0
  have hvs : ((fr.map (·.2)).flatMap refs).filter (q.length ≤ ·) = [] := by
    rw [List.filter_eq_nil_iff]
    intro z hz
    obtain ⟨v, h1, h2⟩ := List.mem_flatMap.1 hz
    obtain ⟨p, h3, rfl⟩ := List.mem_map.1 h1
    have := hv p h3 z h2
    simpa using this
  have := gc_many (h := (q.set a (Wr (q.length + y) l)).set r (Rr (q.length + x) l)) (nw := nw) (L := L) (H := H) (d := [r, a]) (vs := fr.map (·.2)) (R := [q.length + x, q.length + y]) (by simp [nodupB]; exact Ne.symm har) (by rw [hb]; intro t ht; simp at ht; rcases ht with rfl | rfl <;> assumption) (by
    simp only [List.filter_append, List.flatMap_cons, List.flatMap_nil, List.append_nil, hra, hrr, hb, hvs, List.nil_append]
    simp) (by simp) (by simp) (fun z hz => by
      simp only [List.mem_cons, List.not_mem_nil, or_false] at hz
      rcases hz with rfl | rfl
      · exact ⟨_, _, hgx⟩
      · exact ⟨_, _, hgy⟩)
  rw [hb] at this
  unfold gcFr
  rw [this]
  have f1 : firsts [q.length + x, q.length + y] [] = [q.length + x, q.length + y] := by simp [firsts]; omega
  rw [f1]
  have p1 : plc q.length [q.length + x, q.length + y] (q.length + x) = q.length := by simp [plc]; omega
  have p2 : plc q.length [q.length + x, q.length + y] (q.length + y) = q.length + 1 := by
    have : (q.length + x == q.length + y) = false := by simp; omega
    simp [plc, List.idxOf_cons, this]; omega
  have hvv : (fr.map (·.2)).map (ren (plc q.length [q.length + x, q.length + y])) = fr.map (·.2) := map_id' fun v h1 => by
    obtain ⟨p, h3, rfl⟩ := List.mem_map.1 h1
    exact ren_id fun z h2 => plc_old (hv p h3 z h2)
  have hm : (((q.set a (Wr (q.length + y) l)).set r (Rr (q.length + x) l)).modify r (renB (plc q.length [q.length + x, q.length + y]))).modify a (renB (plc q.length [q.length + x, q.length + y])) = (q.set a (Wr (q.length + 1) l)).set r (Rr q.length l) := by
    refine List.ext_getElem? fun i => ?_
    simp only [List.getElem?_modify]
    by_cases c : a = i
    · subst c
      rw [hga, List.getElem?_set_ne (Ne.symm har), List.getElem?_set_self hal, Wr_some h0, Wr_some h0]
      simp [renB, renC, p2, Ne.symm har]
    · by_cases c2 : r = i
      · subst c2
        rw [hgr, List.getElem?_set_self (by simpa using hrl), Rr_some h0, Rr_some h0]
        simp [renB, renC, p1, har]
      · rw [List.getElem?_set_ne c2, List.getElem?_set_ne c, List.getElem?_set_ne c2, List.getElem?_set_ne c]
        simp [c, c2]
  simp only [Option.map_some, hvv, zip_self, renAll, hm, List.map_cons, List.map_nil, List.getD_eq_getElem?_getD, hgx, hgy, Option.getD_some]
end Bt
end Go.Proofs.Ytceecoagooalpaa
end
