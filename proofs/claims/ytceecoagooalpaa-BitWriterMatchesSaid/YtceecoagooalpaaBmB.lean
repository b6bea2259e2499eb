/-
  THE BIT WRITER's reference: Put and Pad. Conditions: none.
-/
import Derived.Test.YtceecoagooalpaaBmA
set_option linter.all false
section
namespace Go.Proofs.Ytceecoagooalpaa
namespace Bt
open Go Go.RowKit AM ArEnv
variable {hp : List Blk} {L : Nat} {H : List Nat} {a k : Nat} {l m : List Nat}

theorem refput_walk (w : Rs hp L H a k l) {v n : Nat} (hv : v < 4294967296) (hn : n ≤ 32) (hs : l.length ≤ 1000000) (hF : Fit hp.length L H) (hf : v / 2 ^ n = 0) (d : List Nat) :
    Lrun env (.func 26) [.pointer (some ⟨a, 0, some 0⟩), .int .u32 v, .int .i64 n] ⟨hp, L, H, d⟩ = some (.bool true, ⟨rset hp a k (l ++ bitsAt v n), L, H, joinDirty d (dirR a (l ++ bitsAt v n))⟩) := by
  rw [Lrun_sym 26 _ _ fn26]
  have h1 := number_walk hv hn hF []
  rw [decide_eq_true hf] at h1
  have hl := bitsAt_length v n
  have hw := w.w
  have hH := w.aH
  have hkH := w.kH
  have hal : (a < L) = False := eq_false (by have := w.aL; omega)
  have hlt := w.lt
  have haa : ∀ y, (hp.set a y)[a]? = some y := fun y => List.getElem?_set_self hlt
  generalize hbb : bitsAt v n = bits at *
  by_cases h0 : n = 0
  · have hb0 : bits = [] := List.eq_nil_of_length_eq_zero (by omega)
    subst hb0
    have e1 : slN hp.length [] = .slice none 0 0 := rfl
    have e2 : slNB [] = [] := rfl
    rw [e1, e2, List.append_nil] at h1
    rw [List.append_nil]
    by_cases hl0 : l.length = 0
    · have : l = [] := List.eq_nil_of_length_eq_zero hl0
      subst this
      rw [Rr_nil] at hw
      have hss := set_same hw
      rw [rset_nil rfl, show dirR a [] = [] from rfl]
      simp (disch := (first | omega | (simp only [lnE] <;> omega) | (refine Fit.mono ‹Fit _ _ _› ?_ <;> (simp only [lnE] <;> omega)) | (refine Fit.draw ‹Fit _ _ _› ?_ ?_ <;> (simp only [lnE] <;> omega)) | (refine Fit.hid1 ‹Fit _ _ _› ?_ ?_ <;> (simp only [lnE] <;> omega)) | (refine Fit.draw1 ‹Fit _ _ _› ?_ ?_ ?_ <;> (simp only [lnE] <;> omega)) | (refine Fit.range0 ?_ ?_ <;> (simp only [lnE] <;> omega)) | fail)) only [syA, syB, argFr, D, E, T, C, undefv, eqF, aeq, sheqs, sheq, rdCells, cellsOf, fill, putAt, if_true, if_false, reduceIte, ↓reduceIte, reduceCtorEq, eq_self, Nat.reduceEqDiff, Nat.reduceAdd, Nat.reduceSub, Nat.reduceMul, Nat.reduceLT, Nat.reduceLeDiff, Nat.reducePow, Nat.reduceDiv, Nat.reduceMod, Int.reduceLT, Int.reduceLE, Int.reduceGT, Int.reduceGE, Int.reduceToNat, Int.reducePow, Int.reduceNeg, Int.reduceBEq, Int.reduceBNe, Int.reduceEq, Int.reduceAdd, Int.reduceSub, Int.reduceMul, cellv, sc, flatv, refs, refsF, refsC, hF.not0, hF.not1, hF.up0, hF.up1, ac26, h1, hw, hH, hal, hss, append_nil0]
    · rw [Rr_some hl0] at hw
      have hss := set_same hw
      have hself : rset hp a k l = hp := by rw [rset_old hl0 (w.klt hl0), set_same w.w, set_same (w.b hl0)]
      rw [hself, dirR_some hl0]
      simp (disch := (first | omega | (simp only [lnE] <;> omega) | (refine Fit.mono ‹Fit _ _ _› ?_ <;> (simp only [lnE] <;> omega)) | (refine Fit.draw ‹Fit _ _ _› ?_ ?_ <;> (simp only [lnE] <;> omega)) | (refine Fit.hid1 ‹Fit _ _ _› ?_ ?_ <;> (simp only [lnE] <;> omega)) | (refine Fit.draw1 ‹Fit _ _ _› ?_ ?_ ?_ <;> (simp only [lnE] <;> omega)) | (refine Fit.range0 ?_ ?_ <;> (simp only [lnE] <;> omega)) | fail)) only [syA, syB, argFr, D, E, T, C, undefv, eqF, aeq, sheqs, sheq, rdCells, cellsOf, fill, putAt, if_true, if_false, reduceIte, ↓reduceIte, reduceCtorEq, eq_self, Nat.reduceEqDiff, Nat.reduceAdd, Nat.reduceSub, Nat.reduceMul, Nat.reduceLT, Nat.reduceLeDiff, Nat.reducePow, Nat.reduceDiv, Nat.reduceMod, Int.reduceLT, Int.reduceLE, Int.reduceGT, Int.reduceGE, Int.reduceToNat, Int.reducePow, Int.reduceNeg, Int.reduceBEq, Int.reduceBNe, Int.reduceEq, Int.reduceAdd, Int.reduceSub, Int.reduceMul, cellv, sc, flatv, refs, refsF, refsC, hF.not0, hF.not1, hF.up0, hF.up1, ac26, h1, hw, hH, hal, hss, append_zero]
  · have e1 : slN hp.length bits = .slice (some ⟨hp.length, 0, some (sg bits)⟩) n 1 := by unfold slN; rw [if_neg (by omega), hl]
    have e2 : slNB bits = [.cells (sg bits) true (is bits)] := if_neg (by omega)
    rw [e1, e2] at h1
    have hle : n ≤ (is bits).length := by rw [is_length]; omega
    have htk : (is bits).take n = is bits := List.take_of_length_le (by rw [is_length]; omega)
    have hlb : (l ++ bits).length ≠ 0 := by simp only [List.length_append]; omega
    rw [dirR_some hlb]
    by_cases hl0 : l.length = 0
    · have : l = [] := List.eq_nil_of_length_eq_zero hl0
      subst this
      have hk := w.k0 rfl
      subst hk
      rw [Rr_nil] at hw
      rw [List.nil_append] at hlb ⊢
      have happ := append_is0 (hp := hp ++ [.cells (sg bits) true (is bits)]) (L := L) (H := H) (d := []) (m := bits) (by omega) (by omega)
      simp only [hl, List.length_append, List.length_cons, List.length_nil, Nat.zero_add, List.append_assoc, List.cons_append, List.nil_append] at happ
      simp (disch := (first | omega | (simp only [lnE] <;> omega) | (refine Fit.mono ‹Fit _ _ _› ?_ <;> (simp only [lnE] <;> omega)) | (refine Fit.draw ‹Fit _ _ _› ?_ ?_ <;> (simp only [lnE] <;> omega)) | (refine Fit.hid1 ‹Fit _ _ _› ?_ ?_ <;> (simp only [lnE] <;> omega)) | (refine Fit.draw1 ‹Fit _ _ _› ?_ ?_ ?_ <;> (simp only [lnE] <;> omega)) | (refine Fit.range0 ?_ ?_ <;> (simp only [lnE] <;> omega)) | fail)) only [syA, syB, argFr, D, E, T, C, undefv, eqF, aeq, sheqs, sheq, rdCells, cellsOf, fill, putAt, if_true, if_false, reduceIte, ↓reduceIte, reduceCtorEq, eq_self, Nat.reduceEqDiff, Nat.reduceAdd, Nat.reduceSub, Nat.reduceMul, Nat.reduceLT, Nat.reduceLeDiff, Nat.reducePow, Nat.reduceDiv, Nat.reduceMod, Int.reduceLT, Int.reduceLE, Int.reduceGT, Int.reduceGE, Int.reduceToNat, Int.reducePow, Int.reduceNeg, Int.reduceBEq, Int.reduceBNe, Int.reduceEq, Int.reduceAdd, Int.reduceSub, Int.reduceMul, cellv, sc, flatv, refs, refsF, refsC, hF.not0, hF.not1, hF.up0, hF.up1, ac26, h1, hw, hH, hal, hle, htk, happ]
      rw [gc_into (k := 1) (g := n) (cs := is bits) (by simp) (by simp [AM.refs, refsF, refsC]) (haa _) (by simp [refsB, refsC]) rfl, gcX_some, List.set_set, rset_new hlb, Rr_some hlb]
      simp only [renB, List.map_cons, List.map_nil, renC, plc_one, hl, Ib]
    · rw [Rr_some hl0] at hw
      have hkb := w.b hl0
      have hkl := w.klt hl0
      have hak := w.ne
      have happ := append_isg (hp := hp ++ [.cells (sg bits) true (is bits)]) (L := L) (H := H) (d := []) (b := k) (g := l.length) (l := l) (m := bits) (by rw [List.getElem?_append_left hkl, hkb]; rfl) w.kL w.kH (by omega) (by omega)
      rw [hl, List.set_append_left _ _ hkl] at happ
      have hka : ∀ x, (hp.set k x)[a]? = hp[a]? := fun x => List.getElem?_set_ne (Ne.symm hak)
      simp (disch := (first | omega | (simp only [lnE] <;> omega) | (refine Fit.mono ‹Fit _ _ _› ?_ <;> (simp only [lnE] <;> omega)) | (refine Fit.draw ‹Fit _ _ _› ?_ ?_ <;> (simp only [lnE] <;> omega)) | (refine Fit.hid1 ‹Fit _ _ _› ?_ ?_ <;> (simp only [lnE] <;> omega)) | (refine Fit.draw1 ‹Fit _ _ _› ?_ ?_ ?_ <;> (simp only [lnE] <;> omega)) | (refine Fit.range0 ?_ ?_ <;> (simp only [lnE] <;> omega)) | fail)) only [syA, syB, argFr, D, E, T, C, undefv, eqF, aeq, sheqs, sheq, rdCells, cellsOf, fill, putAt, if_true, if_false, reduceIte, ↓reduceIte, reduceCtorEq, eq_self, Nat.reduceEqDiff, Nat.reduceAdd, Nat.reduceSub, Nat.reduceMul, Nat.reduceLT, Nat.reduceLeDiff, Nat.reducePow, Nat.reduceDiv, Nat.reduceMod, Int.reduceLT, Int.reduceLE, Int.reduceGT, Int.reduceGE, Int.reduceToNat, Int.reducePow, Int.reduceNeg, Int.reduceBEq, Int.reduceBNe, Int.reduceEq, Int.reduceAdd, Int.reduceSub, Int.reduceMul, cellv, sc, flatv, refs, refsF, refsC, hF.not0, hF.not1, hF.up0, hF.up1, ac26, h1, hw, hH, hal, hle, htk, happ, hka]
      rw [gc_none' (by simp) (by simp [AM.refs, refsF, refsC]) (by simpa using hlt) (by
        intro t ht r hr
        simp only [List.mem_cons, List.not_mem_nil, or_false] at ht
        subst ht
        unfold refsAt at hr
        rw [List.getElem?_set_self (by simpa using hlt)] at hr
        simp [refsB, refsC] at hr
        omega), gcX_some, rset_old hlb hkl, Rr_some hlb, List.length_append, hl, List.set_comm _ _ hak]
      unfold Ib
      rw [List.length_append, hl]
/-- The zeros that fill the last byte, one by one. -/
theorem refpad_loop {l0 : List Nat} (w : Rs hp L H a k l0) (h0 : l0.length ≠ 0) (hF : Fit hp.length L H) (hs : l0.length ≤ 100000) : ∀ (n i : Nat), i + n = padN l0 → 0 < i ∨ n = 0 ∨ 0 < n →
    ∃ fr, Liter env lb25_0 [3, 0] hp.length [(3, .int .i64 i), (0, .pointer (some ⟨a, 0, some 0⟩))] ⟨rset hp a k (l0 ++ List.replicate i 0), L, H, if i = 0 then [] else [a]⟩
      = some (.exit 0, fr, ⟨rset hp a k (padB l0), L, H, if padN l0 = 0 then [] else [a]⟩) ∧ fr.get 3 = some (.int .i64 (padN l0))
  | 0, i, e, _ => by
    obtain rfl : i = padN l0 := by omega
    have w' := w.rset (m := padB l0) (fun h => by rw [padB_length] at h; omega) (padB_bits w.bits)
    have hw := w'.w
    have hH := w.aH
    have hpl : (padB l0).length ≠ 0 := by rw [padB_length]; omega
    rw [Rr_some hpl] at hw
    have hm : (((padB l0).length : Nat) : Int).tmod 8 = 0 := by rw [tmod_pos (by omega), padB_length]; unfold padN; omega
    rw [iter_by lb25_0.eq_1]
    rw [show l0 ++ List.replicate (padN l0) 0 = padB l0 from rfl]
    simp (disch := (first | omega | (simp only [lnE] <;> omega) | (refine Fit.mono ‹Fit _ _ _› ?_ <;> (simp only [lnE] <;> omega)) | (refine Fit.draw ‹Fit _ _ _› ?_ ?_ <;> (simp only [lnE] <;> omega)) | (refine Fit.hid1 ‹Fit _ _ _› ?_ ?_ <;> (simp only [lnE] <;> omega)) | (refine Fit.draw1 ‹Fit _ _ _› ?_ ?_ ?_ <;> (simp only [lnE] <;> omega)) | (refine Fit.range0 ?_ ?_ <;> (simp only [lnE] <;> omega)) | fail)) only [syA, syB, argFr, D, E, T, C, undefv, eqF, aeq, sheqs, sheq, rdCells, cellsOf, fill, putAt, if_true, if_false, reduceIte, ↓reduceIte, reduceCtorEq, eq_self, Nat.reduceEqDiff, Nat.reduceAdd, Nat.reduceSub, Nat.reduceMul, Nat.reduceLT, Nat.reduceLeDiff, Nat.reducePow, Nat.reduceDiv, Nat.reduceMod, Int.reduceLT, Int.reduceLE, Int.reduceGT, Int.reduceGE, Int.reduceToNat, Int.reducePow, Int.reduceNeg, Int.reduceBEq, Int.reduceBNe, Int.reduceEq, Int.reduceAdd, Int.reduceSub, Int.reduceMul, cellv, sc, flatv, refs, refsF, refsC, hw, hH, hm]
    exact ⟨_, rfl, rfl⟩
  | n + 1, i, e, _ => by
    obtain ⟨fr, ih, h3⟩ := refpad_loop w h0 hF hs n (i + 1) (by omega) (.inl (by omega))
    refine ⟨fr, ?_, h3⟩
    have hp8 : padN l0 < 8 := by unfold padN; omega
    have hml : (l0 ++ List.replicate i 0).length = l0.length + i := by simp
    have w' := w.rset (m := l0 ++ List.replicate i 0) (fun h => by omega) (w.bits.append (Bits.zeros _))
    have hw := w'.w
    have hH := w.aH
    have hkl := w'.klt (by omega)
    have hlt := w'.lt
    have hal : (a < L) = False := eq_false (by have := w.aL; omega)
    rw [Rr_some (by omega), hml] at hw
    have hm : ¬ ((l0.length + i : Nat) : Int).tmod 8 = 0 := by rw [tmod_pos (by omega)]; unfold padN at e; omega
    have hlen := rset_length (m := l0 ++ List.replicate i 0) w h0
    have hsn : l0 ++ List.replicate (i + 1) 0 = l0 ++ List.replicate i 0 ++ [0] := by rw [List.replicate_succ', List.append_assoc]
    have happ := append_isg (hp := rset hp a k (l0 ++ List.replicate i 0) ++ [.cells 0 true [.int .i64 0]]) (L := L) (H := H) (b := k) (g := l0.length + i) (l := l0 ++ List.replicate i 0) (m := [0]) (d := if i = 0 then [] else [a]) (by rw [List.getElem?_append_left hkl, w'.b (by omega)]; first | done | (unfold Ib; rw [hml])) w.kL w.kH (by simp) (by rw [hml]; simp; omega)
    rw [hml, List.set_append_left _ _ hkl, ← hsn] at happ
    simp only [List.length_cons, List.length_nil, Nat.zero_add, is, List.map_cons, List.map_nil, Int.natCast_zero] at happ
    have hww := rset_rset (m := l0 ++ List.replicate i 0) w (n := l0 ++ List.replicate (i + 1) 0) (by simp)
    rw [if_neg (by omega : ¬ i + 1 = 0)] at ih
    simp only [Int.natCast_add, Int.natCast_one] at ih
    have hka : ∀ x, ((rset hp a k (l0 ++ List.replicate i 0)).set k x)[a]? = (rset hp a k (l0 ++ List.replicate i 0))[a]? := fun x => List.getElem?_set_ne (Ne.symm w.ne)
    have hFq : Fit (rset hp a k (l0 ++ List.replicate i 0)).length L H := by rw [hlen]; exact hF
    have q0 := hFq.not0
    have q1 := hFq.up0
    rw [iter_by lb25_0.eq_1]
    have hdd : (if i = 0 then ([] : List Nat) else [a]).contains a = true ∨ i = 0 := by
      by_cases c : i = 0
      · exact .inr c
      · exact .inl (by rw [if_neg c]; simp)
    simp (disch := (first | omega | (simp only [lnE] <;> omega) | (refine Fit.mono ‹Fit _ _ _› ?_ <;> (simp only [lnE] <;> omega)) | (refine Fit.draw ‹Fit _ _ _› ?_ ?_ <;> (simp only [lnE] <;> omega)) | (refine Fit.hid1 ‹Fit _ _ _› ?_ ?_ <;> (simp only [lnE] <;> omega)) | (refine Fit.draw1 ‹Fit _ _ _› ?_ ?_ ?_ <;> (simp only [lnE] <;> omega)) | (refine Fit.range0 ?_ ?_ <;> (simp only [lnE] <;> omega)) | fail)) only [syA, syB, argFr, D, E, T, C, undefv, eqF, aeq, sheqs, sheq, rdCells, cellsOf, fill, putAt, if_true, if_false, reduceIte, ↓reduceIte, reduceCtorEq, eq_self, Nat.reduceEqDiff, Nat.reduceAdd, Nat.reduceSub, Nat.reduceMul, Nat.reduceLT, Nat.reduceLeDiff, Nat.reducePow, Nat.reduceDiv, Nat.reduceMod, Int.reduceLT, Int.reduceLE, Int.reduceGT, Int.reduceGE, Int.reduceToNat, Int.reducePow, Int.reduceNeg, Int.reduceBEq, Int.reduceBNe, Int.reduceEq, Int.reduceAdd, Int.reduceSub, Int.reduceMul, cellv, sc, flatv, refs, refsF, refsC, hw, hH, hal, hm, sm1, q0, q1, happ, hka]
    have hdr : (if (if i = 0 then ([] : List Nat) else [a]).contains a = true then (if i = 0 then [] else [a]) else a :: (if i = 0 then [] else [a])) = [a] := by
      by_cases c : i = 0 <;> simp [c]
    rw [hdr]
    have hmn : (l0 ++ List.replicate (i + 1) 0).length = l0.length + i + 1 := by simp; omega
    have hcell : ((rset hp a k (l0 ++ List.replicate i 0)).set k (Blk.cells (l0.length + i + 1) true (List.map (fun n : Nat => Value.int IntKind.i64 (n : Int)) (l0 ++ List.replicate (i + 1) 0)))).set a (Blk.cells 0 false [.slice (some ⟨k, 0, some (l0.length + i + 1)⟩) (l0.length + i + 1) 1]) = rset hp a k (l0 ++ List.replicate (i + 1) 0) := by
      rw [← hww, rset_old (by omega) hkl, List.set_comm _ _ w.ne, Rr_some (by omega), hmn]
      unfold Ib is
      rw [hmn]
    rw [hcell]
    have wn := w.rset (m := l0 ++ List.replicate (i + 1) 0) (fun h => by omega) (w.bits.append (Bits.zeros _))
    have hln := rset_length (m := l0 ++ List.replicate (i + 1) 0) w h0
    unfold gcFr
    rw [gc_none' hln (by
      intro v hv r hr
      simp only [List.map_cons, List.map_nil, List.mem_cons, List.not_mem_nil, or_false] at hv
      rcases hv with rfl | rfl
      · simp [AM.refs, refsF, refsC] at hr
      · simp [AM.refs, refsF, refsC] at hr; rw [← hln]; subst hr; exact wn.lt) (by
      intro t ht
      simp only [List.mem_cons, List.not_mem_nil, or_false] at ht
      subst ht; rw [← hln]; exact wn.lt) (by
      intro t ht r hr
      simp only [List.mem_cons, List.not_mem_nil, or_false] at ht
      subst ht
      unfold refsAt at hr
      rw [wn.w] at hr
      simp only [Rr_refs (m := l0 ++ List.replicate (i + 1) 0) (by omega), List.mem_cons, List.not_mem_nil, or_false] at hr
      subst hr
      rw [← hln]; exact wn.klt (by omega))]
    simp only [Option.map_some, List.map_cons, List.map_nil, List.zip_cons_cons, List.zip_nil_left, againX_some]
    exact ih
theorem refpad_walk (w : Rs hp L H a k l) (hs : l.length ≤ 100000) (hF : Fit hp.length L H) (d : List Nat) :
    Lrun env (.func 25) [.pointer (some ⟨a, 0, some 0⟩)] ⟨hp, L, H, d⟩ = some (.int .i64 (padN l), ⟨rset hp a k (padB l), L, H, joinDirty d (if padN l = 0 then [] else [a])⟩) := by
  rw [Lrun_sym 25 _ _ fn25]
  by_cases h0 : l.length = 0
  · have hn : l = [] := List.eq_nil_of_length_eq_zero h0
    subst hn
    have hw := w.w
    have hH := w.aH
    rw [Rr_nil] at hw
    have e1 : padN [] = 0 := rfl
    have e2 : padB [] = [] := rfl
    rw [e1, e2, rset_nil rfl, if_pos rfl]
    have it := iter_by (env := env) lb25_0.eq_1
    have q0 : (0 : Int).tmod 8 = 0 := by decide
    simp (disch := (first | omega | (simp only [lnE] <;> omega) | (refine Fit.mono ‹Fit _ _ _› ?_ <;> (simp only [lnE] <;> omega)) | (refine Fit.draw ‹Fit _ _ _› ?_ ?_ <;> (simp only [lnE] <;> omega)) | (refine Fit.hid1 ‹Fit _ _ _› ?_ ?_ <;> (simp only [lnE] <;> omega)) | (refine Fit.draw1 ‹Fit _ _ _› ?_ ?_ ?_ <;> (simp only [lnE] <;> omega)) | (refine Fit.range0 ?_ ?_ <;> (simp only [lnE] <;> omega)) | fail)) only [syA, syB, argFr, D, E, T, C, undefv, eqF, aeq, sheqs, sheq, rdCells, cellsOf, fill, putAt, if_true, if_false, reduceIte, ↓reduceIte, reduceCtorEq, eq_self, Nat.reduceEqDiff, Nat.reduceAdd, Nat.reduceSub, Nat.reduceMul, Nat.reduceLT, Nat.reduceLeDiff, Nat.reducePow, Nat.reduceDiv, Nat.reduceMod, Int.reduceLT, Int.reduceLE, Int.reduceGT, Int.reduceGE, Int.reduceToNat, Int.reducePow, Int.reduceNeg, Int.reduceBEq, Int.reduceBNe, Int.reduceEq, Int.reduceAdd, Int.reduceSub, Int.reduceMul, cellv, sc, flatv, refs, refsF, refsC, hF.not0, hF.not1, hF.up0, hF.up1, ac25, it, hw, hH, q0, Int.natCast_zero]
  · obtain ⟨fr, h1, h2⟩ := refpad_loop w h0 hF hs (padN l) 0 (by omega) (by omega)
    have e0 : l ++ List.replicate 0 0 = l := by simp
    have hself : rset hp a k l = hp := by rw [rset_old h0 (w.klt h0), set_same w.w, set_same (w.b h0)]
    rw [e0, hself, if_pos rfl] at h1
    simp only [Int.natCast_zero] at h1
    have hln := rset_length (m := padB l) w h0
    have hj : joinDirty [] (if padN l = 0 then [] else [a]) = (if padN l = 0 then [] else [a]) := by split <;> simp [joinDirty]
    have hgs : ∀ D, gc hp.length [.int .i64 (padN l)] ⟨rset hp a k (padB l), L, H, D⟩ = some ([.int .i64 (padN l)], ⟨rset hp a k (padB l), L, H, D⟩) := fun D => gc_same (by rw [hln]; omega)
    simp (disch := (first | omega | (simp only [lnE] <;> omega) | (refine Fit.mono ‹Fit _ _ _› ?_ <;> (simp only [lnE] <;> omega)) | (refine Fit.draw ‹Fit _ _ _› ?_ ?_ <;> (simp only [lnE] <;> omega)) | (refine Fit.hid1 ‹Fit _ _ _› ?_ ?_ <;> (simp only [lnE] <;> omega)) | (refine Fit.draw1 ‹Fit _ _ _› ?_ ?_ ?_ <;> (simp only [lnE] <;> omega)) | (refine Fit.range0 ?_ ?_ <;> (simp only [lnE] <;> omega)) | fail)) only [syA, syB, argFr, D, E, T, C, undefv, eqF, aeq, sheqs, sheq, rdCells, cellsOf, fill, putAt, if_true, if_false, reduceIte, ↓reduceIte, reduceCtorEq, eq_self, Nat.reduceEqDiff, Nat.reduceAdd, Nat.reduceSub, Nat.reduceMul, Nat.reduceLT, Nat.reduceLeDiff, Nat.reducePow, Nat.reduceDiv, Nat.reduceMod, Int.reduceLT, Int.reduceLE, Int.reduceGT, Int.reduceGE, Int.reduceToNat, Int.reducePow, Int.reduceNeg, Int.reduceBEq, Int.reduceBNe, Int.reduceEq, Int.reduceAdd, Int.reduceSub, Int.reduceMul, cellv, sc, flatv, refs, refsF, refsC, hF.not0, hF.not1, hF.up0, hF.up1, ac25, h1, h2, hj, hgs]
end Bt
end Go.Proofs.Ytceecoagooalpaa
end
