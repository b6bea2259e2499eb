/-
  SORTED SUFFIXES: walks of the reference's Order and Turn. Conditions: none.
-/
import Derived.Test.YtlphmnhkkhcjfaaSufWalk
set_option linter.all false
namespace Go.Proofs.Ytlphmnhkkhcjfaa
namespace AM
open Go Go.RowKit
theorem Rd.ren_one {σ : St} {v : Value} {l : List Nat} (h : Rd σ v l) {n m : Nat} (hn : σ.heap.length ≤ n) : ren (AM.one n m) v = v := by
  rcases h.form with ⟨rfl, rfl⟩ | ⟨b, o, g, e, pl, cs, rfl, _, hh, hb, _⟩
  · rfl
  · have := (List.getElem?_eq_some_iff.1 hb).1
    simp only [ren, renF, renC, one_old (show b < n by omega)]
theorem Rd.refs_lt {σ : St} {v : Value} {l : List Nat} (h : Rd σ v l) {n : Nat} (hn : σ.heap.length ≤ n) : ∀ r ∈ AM.refs v, r < n := fun r hr => by have := h.refs r hr; omega
end AM
namespace ArA
open Go Go.RowKit AM ArEnv
section
variable {hp : List Blk} {L : Nat} {H d : List Nat}
theorem oout_loop {hq : List Blk} (hF : Fit hq.length L H) {v : Value} {t : List Nat} (hr : Rd ⟨hq, L, H, []⟩ v t) (hm : t.length ≤ 1000) :
    ∀ n i : Nat, i + n = t.length + 1 → ∃ fr,
    Liter env lb70_1 [0, 4, 3] hq.length [(0, v), (4, .int .i64 i), (3, iv hq.length (ordR t i))] ⟨hq ++ ib (ordR t i), L, H, []⟩ =
      some (.exit 0, fr, ⟨hq ++ ib (ordR t (t.length + 1)), L, H, []⟩) ∧ fr.get 3 = some (iv hq.length (ordR t (t.length + 1)))
  | 0, i, hn => by
    obtain rfl : i = t.length + 1 := by omega
    have hlen := hr.lenF
    have c1 : ¬ ((t.length + 1 : Nat) : Int) ≤ t.length := by omega
    rw [iter_by lb70_1.eq_1]
    simp (disch := (first | omega | (simp only [lnE] <;> omega) | (refine Fit.mono ‹Fit _ _ _› ?_ <;> (simp only [lnE] <;> omega)) | (refine Fit.draw ‹Fit _ _ _› ?_ ?_ <;> (simp only [lnE] <;> omega)) | (refine Fit.hid1 ‹Fit _ _ _› ?_ ?_ <;> (simp only [lnE] <;> omega)) | (refine Fit.draw1 ‹Fit _ _ _› ?_ ?_ ?_ <;> (simp only [lnE] <;> omega)) | (refine Fit.range0 ?_ ?_ <;> (simp only [lnE] <;> omega)) | fail)) only [syA, syB, argFr, D, E, T, C, undefv, eqF, aeq, sheqs, sheq, rdCells, cellsOf, fill, putAt, if_true, if_false, reduceIte, ↓reduceIte, reduceCtorEq, eq_self, Nat.reduceEqDiff, Nat.reduceAdd, Nat.reduceSub, Nat.reduceMul, Nat.reduceLT, Nat.reduceLeDiff, Nat.reducePow, Nat.reduceDiv, Nat.reduceMod, Int.reduceLT, Int.reduceLE, Int.reduceGT, Int.reduceGE, Int.reduceToNat, Int.reducePow, Int.reduceNeg, Int.reduceBEq, Int.reduceBNe, Int.reduceEq, Int.reduceAdd, Int.reduceSub, Int.reduceMul, cellv, sc, flatv, refs, refsF, refsC, hF.not0, hF.not1, hF.up0, hF.up1, hlen, c1]
    exact ⟨_, rfl, rfl⟩
  | n + 1, i, hn => by
    have hlen := hr.lenF
    have hi : i ≤ t.length := by omega
    obtain ⟨fr, e1, e2⟩ := oout_loop hF hr hm n (i + 1) (by omega)
    have c1 : (i : Int) ≤ t.length := by omega
    have hol := ordR_len t (n := i) (by omega)
    have hom : ∀ j ∈ ordR t i, j ≤ t.length := fun j hj => by
      have := List.mem_range.1 ((ordR_ok t i (by omega)).1.mem_iff.1 hj); omega
    have hstep : ordR t (i + 1) = insO t i (ordR t i) := rfl
    have hrf := fun m (r : Nat) (h : r ∈ refs v) => hr.refs_lt (n := hq.length + m) (Nat.le_add_right _ _) r h
    have hrn := fun m => hr.ren_one (n := hq.length) (m := m) (Nat.le_refl _)
    rw [iter_by lb70_1.eq_1]
    rw [hstep] at e1
    generalize ordR t i = out at *
    by_cases h0 : out = []
    · subst h0
      obtain rfl : i = 0 := hol.symm
      obtain ⟨gr, f1, f2, f3, f4, f5⟩ := oin_loop (hp := hq) (b := hq.length) hF hr (by omega) hi hom (by simp) (fun h => absurd rfl h) hF.not0 0 (Nat.le_refl _)
      simp only [insK, Int.natCast_zero, iv_nil] at f1 f2 f4 f5 c1
      have hins : insO t 0 [] = [0] := rfl
      rw [hins, iv_cons, ib_cons] at e1
      simp only [iv_nil, ib_nil, List.append_nil, Int.natCast_zero, List.length_nil, Nat.zero_add, Int.natCast_one] at e1 ⊢
      have s1 : sliceF 1 (.slice none 0 0) none (some (.int .i64 0)) none = some (.slice none 0 0) := rfl
      have s2 : sliceF 1 (.slice none 0 0) (some (.int .i64 0)) none none = some (.slice none 0 0) := rfl
      have a1 := capp_nil (hp := hq ++ [.cells 0 true [.int .i64 0]]) (L := L) (H := H) (d := []) (vs := [.int .i64 0]) (by simp) (by simp) rfl rfl
      simp only [List.length_cons, List.length_nil, Nat.zero_add, List.append_assoc, List.cons_append, List.nil_append, List.length_append] at a1
      simp (disch := (first | omega | (simp only [lnE] <;> omega) | (refine Fit.mono ‹Fit _ _ _› ?_ <;> (simp only [lnE] <;> omega)) | (refine Fit.draw ‹Fit _ _ _› ?_ ?_ <;> (simp only [lnE] <;> omega)) | (refine Fit.hid1 ‹Fit _ _ _› ?_ ?_ <;> (simp only [lnE] <;> omega)) | (refine Fit.draw1 ‹Fit _ _ _› ?_ ?_ ?_ <;> (simp only [lnE] <;> omega)) | (refine Fit.range0 ?_ ?_ <;> (simp only [lnE] <;> omega)) | fail)) only [syA, syB, argFr, D, E, T, C, undefv, eqF, aeq, sheqs, sheq, rdCells, cellsOf, fill, putAt, if_true, if_false, reduceIte, ↓reduceIte, reduceCtorEq, eq_self, Nat.reduceEqDiff, Nat.reduceAdd, Nat.reduceSub, Nat.reduceMul, Nat.reduceLT, Nat.reduceLeDiff, Nat.reducePow, Nat.reduceDiv, Nat.reduceMod, Int.reduceLT, Int.reduceLE, Int.reduceGT, Int.reduceGE, Int.reduceToNat, Int.reducePow, Int.reduceNeg, Int.reduceBEq, Int.reduceBNe, Int.reduceEq, Int.reduceAdd, Int.reduceSub, Int.reduceMul, cellv, sc, flatv, refs, refsF, refsC, hF.not0, hF.not1, hF.up0, hF.up1, hlen, c1, f1, f2, f3, f4, f5, s1, s2, append_nil0, append_zero, small, a1]
      have hg := gcFr_one (hp := hq) (L := L) (H := H) (nw := [.cells 0 true [.int .i64 0], .cells 1 true [.int .i64 0]]) (fr := [(0, v), (4, .int .i64 1), (3, .slice (some ⟨hq.length + 1, 0, some 1⟩) 1 1)]) 1 rfl
        (by simp [refs, refsF, refsC]; exact fun r h => .inl (hrf 0 r h)) (by simp [refs, refsF, refsC])
      simp only [List.map_cons, List.map_nil, hrn] at hg
      simp only [ren, renF, renC, one_new] at hg
      rw [hg]
      simp (disch := (first | omega | (simp only [lnE] <;> omega) | (refine Fit.mono ‹Fit _ _ _› ?_ <;> (simp only [lnE] <;> omega)) | (refine Fit.draw ‹Fit _ _ _› ?_ ?_ <;> (simp only [lnE] <;> omega)) | (refine Fit.hid1 ‹Fit _ _ _› ?_ ?_ <;> (simp only [lnE] <;> omega)) | (refine Fit.draw1 ‹Fit _ _ _› ?_ ?_ ?_ <;> (simp only [lnE] <;> omega)) | (refine Fit.range0 ?_ ?_ <;> (simp only [lnE] <;> omega)) | fail)) only [syA, syB, argFr, D, E, T, C, undefv, eqF, aeq, sheqs, sheq, rdCells, cellsOf, fill, putAt, if_true, if_false, reduceIte, ↓reduceIte, reduceCtorEq, eq_self, Nat.reduceEqDiff, Nat.reduceAdd, Nat.reduceSub, Nat.reduceMul, Nat.reduceLT, Nat.reduceLeDiff, Nat.reducePow, Nat.reduceDiv, Nat.reduceMod, Int.reduceLT, Int.reduceLE, Int.reduceGT, Int.reduceGE, Int.reduceToNat, Int.reducePow, Int.reduceNeg, Int.reduceBEq, Int.reduceBNe, Int.reduceEq, Int.reduceAdd, Int.reduceSub, Int.reduceMul, cellv, sc, flatv, refs, refsF, refsC, hF.not0, hF.not1, hF.up0, hF.up1]
      exact ⟨fr, e1, e2⟩
    · have hol0 : 0 < out.length := List.length_pos_iff.2 h0
      obtain ⟨gr, f1, f2, f3, f4, f5⟩ := oin_loop (hp := hq ++ [.cells out.length true (i64n out)]) (b := hq.length) (hF.mono (by simp)) hr.app (by omega) hi hom (by omega) (fun _ => by rw [get_new0]) hF.not0 out.length (Nat.le_refl _)
      have hkl := insK_le t i out out.length
      have hil : (insO t i out).length = out.length + 1 := by simp [insO]; omega
      have hin : insO t i out ≠ [] := by intro h; rw [h] at hil; simp at hil
      have hio : insO t i out = out.take (insK t i out out.length) ++ i :: out.drop (insK t i out out.length) := rfl
      rw [iv_ne hin, ib_ne hin, hil, hio] at e1
      rw [iv_ne h0] at f1 f5
      simp only [iv_ne h0, ib_ne h0]
      have hl2 : lenF (.slice (some ⟨hq.length, 0, some out.length⟩) out.length 1) = some (.int .i64 out.length) := rfl
      generalize insK t i out out.length = k at *
      have hd : (i64n out).length = out.length := i64n_len out
      by_cases hk0 : k = 0
      · subst hk0
        have c2 : (0 : Int) ≤ out.length := by omega
        have n1 : ∀ nw L' d', St.news ⟨hq ++ ([.cells out.length true (i64n out)] ++ nw), L', H, d'⟩ 1 (.slice (some ⟨hq.length, 0, some out.length⟩) 0 1) = some (0, []) := fun nw L' d' => by
          have := inews (σ := ⟨hq ++ ([.cells out.length true (i64n out)] ++ nw), L', H, d'⟩) (b := hq.length) (o := 0) (m := 0) (e := 1) (g := out.length) (cs := i64n out) (pl := true) hF.not0 (by rw [List.cons_append, get_new0]) (by omega)
          simpa using this
        have n2 : ∀ nw L' d', St.news ⟨hq ++ ([.cells out.length true (i64n out)] ++ nw), L', H, d'⟩ 1 (.slice (some ⟨hq.length, 0, some out.length⟩) out.length 1) = some (out.length, i64n out) := fun nw L' d' => by
          have := inews (σ := ⟨hq ++ ([.cells out.length true (i64n out)] ++ nw), L', H, d'⟩) (b := hq.length) (o := 0) (m := out.length) (e := 1) (g := out.length) (cs := i64n out) (pl := true) hF.not0 (by rw [List.cons_append, get_new0]) (by omega)
          rw [List.drop_zero, List.take_of_length_le (by omega)] at this; exact this
        have a1 := capp_nil (hp := hq ++ [.cells out.length true (i64n out), .cells 0 true [.int .i64 i]]) (L := L) (H := H) (d := []) (vs := [.int .i64 i]) (by simp) (by simp) rfl rfl
        have a2 := capp_full (hp := hq ++ [.cells out.length true (i64n out), .cells 0 true [.int .i64 i], .cells 1 true [.int .i64 i]]) (L := L) (b := hq.length + 2) (H := H) (d := []) (cs := [.int .i64 i]) (vs := i64n out) (by rw [get_new]; rfl) (by have := hF.1; omega) (hF.not1 2) (by simp; omega) (i64n_cellv _) (i64n_sc _)
        simp only [List.length_cons, List.length_nil, Nat.zero_add, List.append_assoc, List.cons_append, List.nil_append, List.length_append, set_new, List.set_cons_succ, List.set_cons_zero, hd, Nat.add_comm 1, Nat.reduceAdd] at a1 a2 n1 n2
        simp only [List.take_zero, List.drop_zero, List.nil_append, i64n_cons] at e1
        simp only [List.length_append, List.length_cons, List.length_nil, Nat.zero_add, Int.natCast_zero] at f1 f2
        simp (disch := (first | omega | (simp only [lnE] <;> omega) | (refine Fit.mono ‹Fit _ _ _› ?_ <;> (simp only [lnE] <;> omega)) | (refine Fit.draw ‹Fit _ _ _› ?_ ?_ <;> (simp only [lnE] <;> omega)) | (refine Fit.hid1 ‹Fit _ _ _› ?_ ?_ <;> (simp only [lnE] <;> omega)) | (refine Fit.draw1 ‹Fit _ _ _› ?_ ?_ ?_ <;> (simp only [lnE] <;> omega)) | (refine Fit.range0 ?_ ?_ <;> (simp only [lnE] <;> omega)) | fail)) only [syA, syB, argFr, D, E, T, C, undefv, eqF, aeq, sheqs, sheq, rdCells, cellsOf, fill, putAt, if_true, if_false, reduceIte, ↓reduceIte, reduceCtorEq, eq_self, Nat.reduceEqDiff, Nat.reduceAdd, Nat.reduceSub, Nat.reduceMul, Nat.reduceLT, Nat.reduceLeDiff, Nat.reducePow, Nat.reduceDiv, Nat.reduceMod, Int.reduceLT, Int.reduceLE, Int.reduceGT, Int.reduceGE, Int.reduceToNat, Int.reducePow, Int.reduceNeg, Int.reduceBEq, Int.reduceBNe, Int.reduceEq, Int.reduceAdd, Int.reduceSub, Int.reduceMul, cellv, sc, flatv, refs, refsF, refsC, hF.not0, hF.not1, hF.up0, hF.up1, hlen, hl2, c1, c2, f1, f2, f3, f4, f5, append_nil0, append_zero, small, Nat.sub_zero, Nat.reduceAdd, n1, n2, a1, a2]
        have hg := gcFr_one (hp := hq) (L := L) (H := H) (nw := [.cells out.length true (i64n out), .cells 0 true [.int .i64 i], .cells (out.length + 1) true (.int .i64 i :: i64n out)]) (fr := [(0, v), (4, .int .i64 (i + 1 : Nat)), (3, .slice (some ⟨hq.length + 2, 0, some (out.length + 1)⟩) (out.length + 1) 1)]) 2 rfl
          (by simp [refs, refsF, refsC]; exact fun r h => .inl (hrf 0 r h)) (by simp [refs, refsF, refsC])
        simp only [List.map_cons, List.map_nil, hrn] at hg
        simp only [ren, renF, renC, one_new] at hg
        have hi1 : ((i : Nat) : Int) + 1 = ((i + 1 : Nat) : Int) := by omega
        rw [hi1, hg]
        simp (disch := (first | omega | (simp only [lnE] <;> omega) | (refine Fit.mono ‹Fit _ _ _› ?_ <;> (simp only [lnE] <;> omega)) | (refine Fit.draw ‹Fit _ _ _› ?_ ?_ <;> (simp only [lnE] <;> omega)) | (refine Fit.hid1 ‹Fit _ _ _› ?_ ?_ <;> (simp only [lnE] <;> omega)) | (refine Fit.draw1 ‹Fit _ _ _› ?_ ?_ ?_ <;> (simp only [lnE] <;> omega)) | (refine Fit.range0 ?_ ?_ <;> (simp only [lnE] <;> omega)) | fail)) only [syA, syB, argFr, D, E, T, C, undefv, eqF, aeq, sheqs, sheq, rdCells, cellsOf, fill, putAt, if_true, if_false, reduceIte, ↓reduceIte, reduceCtorEq, eq_self, Nat.reduceEqDiff, Nat.reduceAdd, Nat.reduceSub, Nat.reduceMul, Nat.reduceLT, Nat.reduceLeDiff, Nat.reducePow, Nat.reduceDiv, Nat.reduceMod, Int.reduceLT, Int.reduceLE, Int.reduceGT, Int.reduceGE, Int.reduceToNat, Int.reducePow, Int.reduceNeg, Int.reduceBEq, Int.reduceBNe, Int.reduceEq, Int.reduceAdd, Int.reduceSub, Int.reduceMul, cellv, sc, flatv, refs, refsF, refsC, hF.not0, hF.not1, hF.up0, hF.up1, e1]
        exact ⟨fr, rfl, e2⟩
      · have c2 : (0 : Int) ≤ k ∧ (k : Int) ≤ out.length := by omega
        have lk : (out.take k).length = k := by simp; omega
        have lkd : (out.drop k).length = out.length - k := by simp
        have hki : (i64n (out.take k)).length = k := by rw [i64n_len, lk]
        have hdi : (i64n (out.drop k)).length = out.length - k := by rw [i64n_len, lkd]
        have n1 : ∀ nw L' d', St.news ⟨hq ++ ([.cells out.length true (i64n out)] ++ nw), L', H, d'⟩ 1 (.slice (some ⟨hq.length, 0, some out.length⟩) k 1) = some (k, i64n (out.take k)) := fun nw L' d' => by
          have := inews (σ := ⟨hq ++ ([.cells out.length true (i64n out)] ++ nw), L', H, d'⟩) (b := hq.length) (o := 0) (m := k) (e := 1) (g := out.length) (cs := i64n out) (pl := true) hF.not0 (by rw [List.cons_append, get_new0]) (by omega)
          rw [List.drop_zero, i64n_take] at this; exact this
        have n2 : ∀ nw L' d', St.news ⟨hq ++ ([.cells out.length true (i64n out)] ++ nw), L', H, d'⟩ 1 (.slice (some ⟨hq.length, k, some out.length⟩) (out.length - k) 1) = some (out.length - k, i64n (out.drop k)) := fun nw L' d' => by
          have := inews (σ := ⟨hq ++ ([.cells out.length true (i64n out)] ++ nw), L', H, d'⟩) (b := hq.length) (o := k) (m := out.length - k) (e := 1) (g := out.length) (cs := i64n out) (pl := true) hF.not0 (by rw [List.cons_append, get_new0]) (by omega)
          rw [i64n_drop, i64n_take, List.take_of_length_le (by omega)] at this; exact this
        have hne : i64n (out.take k) ≠ [] := by intro h; rw [h] at hki; exact hk0 hki.symm
        have a1 := capp_nil (hp := hq ++ [.cells out.length true (i64n out)]) (L := L) (H := H) (d := []) (vs := i64n (out.take k)) hne (by omega) (i64n_cellv _) (i64n_sc _)
        have a2 := capp_full (hp := hq ++ [.cells out.length true (i64n out), .cells k true (i64n (out.take k)), .cells 0 true [.int .i64 i]]) (L := L) (b := hq.length + 1) (H := H) (d := []) (cs := i64n (out.take k)) (vs := [.int .i64 i]) (by rw [get_new, hki]; rfl) (by have := hF.1; omega) (hF.not1 1) (by simp [hki]; omega) rfl rfl
        have a3 := capp_full (hp := hq ++ [.cells out.length true (i64n out), .cells (k + 1) true (i64n (out.take k) ++ [.int .i64 i]), .cells 0 true [.int .i64 i]]) (L := L) (b := hq.length + 1) (H := H) (d := []) (cs := i64n (out.take k) ++ [.int .i64 i]) (vs := i64n (out.drop k)) (by rw [get_new]; simp [hki]) (by have := hF.1; omega) (hF.not1 1) (by simp [hki, hdi]; omega) (i64n_cellv _) (i64n_sc _)
        have e4 : k + 1 + (out.length - k) = out.length + 1 := by omega
        simp only [List.length_cons, List.length_nil, Nat.zero_add, List.append_assoc, List.cons_append, List.nil_append, List.length_append, set_new, List.set_cons_succ, List.set_cons_zero, hki, hdi, e4] at a1 a2 a3 n1 n2
        simp only [i64n_app, i64n_cons] at e1
        simp only [List.length_append, List.length_cons, List.length_nil, Nat.zero_add] at f1 f2
        simp (disch := (first | omega | (simp only [lnE] <;> omega) | (refine Fit.mono ‹Fit _ _ _› ?_ <;> (simp only [lnE] <;> omega)) | (refine Fit.draw ‹Fit _ _ _› ?_ ?_ <;> (simp only [lnE] <;> omega)) | (refine Fit.hid1 ‹Fit _ _ _› ?_ ?_ <;> (simp only [lnE] <;> omega)) | (refine Fit.draw1 ‹Fit _ _ _› ?_ ?_ ?_ <;> (simp only [lnE] <;> omega)) | (refine Fit.range0 ?_ ?_ <;> (simp only [lnE] <;> omega)) | fail)) only [syA, syB, argFr, D, E, T, C, undefv, eqF, aeq, sheqs, sheq, rdCells, cellsOf, fill, putAt, if_true, if_false, reduceIte, ↓reduceIte, reduceCtorEq, eq_self, Nat.reduceEqDiff, Nat.reduceAdd, Nat.reduceSub, Nat.reduceMul, Nat.reduceLT, Nat.reduceLeDiff, Nat.reducePow, Nat.reduceDiv, Nat.reduceMod, Int.reduceLT, Int.reduceLE, Int.reduceGT, Int.reduceGE, Int.reduceToNat, Int.reducePow, Int.reduceNeg, Int.reduceBEq, Int.reduceBNe, Int.reduceEq, Int.reduceAdd, Int.reduceSub, Int.reduceMul, cellv, sc, flatv, refs, refsF, refsC, hF.not0, hF.not1, hF.up0, hF.up1, hlen, hl2, c1, c2, f1, f2, f3, f4, f5, append_nil0, append_zero, small, n1, n2, a1, a2, a3]
        have hg := gcFr_one (hp := hq) (L := L) (H := H) (nw := [.cells out.length true (i64n out), .cells (out.length + 1) true (i64n (out.take k) ++ .int .i64 i :: i64n (out.drop k)), .cells 0 true [.int .i64 i]]) (fr := [(0, v), (4, .int .i64 (i + 1 : Nat)), (3, .slice (some ⟨hq.length + 1, 0, some (out.length + 1)⟩) (out.length + 1) 1)]) 1 rfl
          (by simp [refs, refsF, refsC]; exact fun r h => .inl (hrf 0 r h)) (by simp [refs, refsF, refsC])
        simp only [List.map_cons, List.map_nil, hrn] at hg
        simp only [ren, renF, renC, one_new] at hg
        have hi1 : ((i : Nat) : Int) + 1 = ((i + 1 : Nat) : Int) := by omega
        rw [hi1, hg]
        simp (disch := (first | omega | (simp only [lnE] <;> omega) | (refine Fit.mono ‹Fit _ _ _› ?_ <;> (simp only [lnE] <;> omega)) | (refine Fit.draw ‹Fit _ _ _› ?_ ?_ <;> (simp only [lnE] <;> omega)) | (refine Fit.hid1 ‹Fit _ _ _› ?_ ?_ <;> (simp only [lnE] <;> omega)) | (refine Fit.draw1 ‹Fit _ _ _› ?_ ?_ ?_ <;> (simp only [lnE] <;> omega)) | (refine Fit.range0 ?_ ?_ <;> (simp only [lnE] <;> omega)) | fail)) only [syA, syB, argFr, D, E, T, C, undefv, eqF, aeq, sheqs, sheq, rdCells, cellsOf, fill, putAt, if_true, if_false, reduceIte, ↓reduceIte, reduceCtorEq, eq_self, Nat.reduceEqDiff, Nat.reduceAdd, Nat.reduceSub, Nat.reduceMul, Nat.reduceLT, Nat.reduceLeDiff, Nat.reducePow, Nat.reduceDiv, Nat.reduceMod, Int.reduceLT, Int.reduceLE, Int.reduceGT, Int.reduceGE, Int.reduceToNat, Int.reducePow, Int.reduceNeg, Int.reduceBEq, Int.reduceBNe, Int.reduceEq, Int.reduceAdd, Int.reduceSub, Int.reduceMul, cellv, sc, flatv, refs, refsF, refsC, hF.not0, hF.not1, hF.up0, hF.up1, e1]
        exact ⟨fr, rfl, e2⟩
/-- The rows' order. -/
theorem order_walk {hq : List Blk} (hF : Fit hq.length L H) {v : Value} {t : List Nat} (hr : Rd ⟨hq, L, H, []⟩ v t) (hm : t.length ≤ 1000) :
    Lrun env (.func 70) [v] ⟨hq, L, H, d⟩ = some (.slice (some ⟨hq.length, 0, some (t.length + 1)⟩) (t.length + 1) 1, ⟨hq ++ [.cells (t.length + 1) true (i64n (ordR t (t.length + 1)))], L, H, d⟩) := by
  obtain ⟨fr, e1, e2⟩ := oout_loop hF hr hm (t.length + 1) 0 (by omega)
  have hol := ordR_len t (n := t.length + 1) (Nat.le_refl _)
  have hne : ordR t (t.length + 1) ≠ [] := by intro h; rw [h] at hol; simp at hol
  have z : ordR t 0 = [] := rfl
  rw [z, iv_nil, ib_nil, List.append_nil, ib_ne hne, hol] at e1
  rw [iv_ne hne, hol] at e2
  rw [Int.natCast_zero] at e1
  rw [Lrun_sym 70 _ _ fn70]
  simp (disch := (first | omega | (simp only [lnE] <;> omega) | (refine Fit.mono ‹Fit _ _ _› ?_ <;> (simp only [lnE] <;> omega)) | (refine Fit.draw ‹Fit _ _ _› ?_ ?_ <;> (simp only [lnE] <;> omega)) | (refine Fit.hid1 ‹Fit _ _ _› ?_ ?_ <;> (simp only [lnE] <;> omega)) | (refine Fit.draw1 ‹Fit _ _ _› ?_ ?_ ?_ <;> (simp only [lnE] <;> omega)) | (refine Fit.range0 ?_ ?_ <;> (simp only [lnE] <;> omega)) | fail)) only [syA, syB, argFr, D, E, T, C, undefv, eqF, aeq, sheqs, sheq, rdCells, cellsOf, fill, putAt, if_true, if_false, reduceIte, ↓reduceIte, reduceCtorEq, eq_self, Nat.reduceEqDiff, Nat.reduceAdd, Nat.reduceSub, Nat.reduceMul, Nat.reduceLT, Nat.reduceLeDiff, Nat.reducePow, Nat.reduceDiv, Nat.reduceMod, Int.reduceLT, Int.reduceLE, Int.reduceGT, Int.reduceGE, Int.reduceToNat, Int.reducePow, Int.reduceNeg, Int.reduceBEq, Int.reduceBNe, Int.reduceEq, Int.reduceAdd, Int.reduceSub, Int.reduceMul, cellv, sc, flatv, refs, refsF, refsC, hF.not0, hF.not1, hF.up0, hF.up1, ac70, e1, e2]
  rw [gc_keep 0 rfl (by simp [refs, refsF, refsC]) (by simp [refs, refsF, refsC])]
  simp (disch := (first | omega | (simp only [lnE] <;> omega) | (refine Fit.mono ‹Fit _ _ _› ?_ <;> (simp only [lnE] <;> omega)) | (refine Fit.draw ‹Fit _ _ _› ?_ ?_ <;> (simp only [lnE] <;> omega)) | (refine Fit.hid1 ‹Fit _ _ _› ?_ ?_ <;> (simp only [lnE] <;> omega)) | (refine Fit.draw1 ‹Fit _ _ _› ?_ ?_ ?_ <;> (simp only [lnE] <;> omega)) | (refine Fit.range0 ?_ ?_ <;> (simp only [lnE] <;> omega)) | fail)) only [syA, syB, argFr, D, E, T, C, undefv, eqF, aeq, sheqs, sheq, rdCells, cellsOf, fill, putAt, if_true, if_false, reduceIte, ↓reduceIte, reduceCtorEq, eq_self, Nat.reduceEqDiff, Nat.reduceAdd, Nat.reduceSub, Nat.reduceMul, Nat.reduceLT, Nat.reduceLeDiff, Nat.reducePow, Nat.reduceDiv, Nat.reduceMod, Int.reduceLT, Int.reduceLE, Int.reduceGT, Int.reduceGE, Int.reduceToNat, Int.reducePow, Int.reduceNeg, Int.reduceBEq, Int.reduceBNe, Int.reduceEq, Int.reduceAdd, Int.reduceSub, Int.reduceMul, cellv, sc, flatv, refs, refsF, refsC, hF.not0, hF.not1, hF.up0, hF.up1, ren, renF, renC, one_new0, List.map_cons, List.map_nil]
end
end ArA
end Go.Proofs.Ytlphmnhkkhcjfaa
