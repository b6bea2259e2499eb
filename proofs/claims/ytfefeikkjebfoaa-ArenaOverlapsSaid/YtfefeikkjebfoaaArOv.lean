/-
  THE ARENA: the law of overlapping spans, run on the abstract machine. Conditions: none.
-/
import Derived.Test.YtfefeikkjebfoaaArLaw
set_option linter.all false
namespace Go.Proofs.Ytfefeikkjebfoaa
namespace AM
open Go Go.RowKit
theorem laid_setByte {N : Nat} {l : List Nat} {s len i : Int} {c : Nat} (hn : l.length ≤ N) : (Arn.laid N l).setByte s len i c = Arn.laid N (if (Arn.laid N l).part s len i 1 = true then l.set (s + i).toNat c else l) := by
  unfold Arn.setByte
  by_cases h : (Arn.laid N l).part s len i 1 = true
  · rw [if_pos h, if_pos h]
    have := Arn.part_iff.1 h
    rw [laid_live] at this
    have hi : (s + i).toNat < l.length := by omega
    simp only [Arn.setAt, Arn.laid, List.length_set, Arn.mk.injEq, and_true]
    rw [putN_one (by simp; omega), List.set_append_left _ _ hi]
  · rw [if_neg h, if_neg h]
theorem laid_load2 {N : Nat} {l : List Nat} {s n : Int} (hn : l.length ≤ N) : (Arn.laid N l).loadO s n = if (Arn.laid N l).has s n = true then some ((l.drop s.toNat).take n.toNat) else none := by
  unfold Arn.loadO
  by_cases h : (Arn.laid N l).has s n = true
  · rw [if_pos h, if_pos h]
    have := Arn.has_iff.1 h
    rw [laid_live] at this
    congr 1
    simp only [Arn.laid]
    rw [List.drop_append_of_le_length (by omega), List.take_append_of_le_length (by simp; omega)]
  · rw [if_neg h, if_neg h]
end AM
namespace ArA
open Go Go.RowKit AM ArEnv

theorem overlaps_run {hp : List Blk} {v : Value} {l : List Nat} (hr : Rd ⟨hp, hp.length, [], []⟩ v l) (sa sn : Int) (hsa : -9223372036854775808 ≤ sa ∧ sa ≤ 9223372036854775807 ∧ -9223372036854775808 ≤ sn ∧ sn ≤ 9223372036854775807) (ta tn : Int) (hta : -9223372036854775808 ≤ ta ∧ ta ≤ 9223372036854775807 ∧ -9223372036854775808 ≤ tn ∧ tn ≤ 9223372036854775807)
    (i : Int) (hi : -9223372036854775808 ≤ i) (hi' : i ≤ 9223372036854775807) (c : Nat) (hc : c < 256) : ∃ σ', Lrun env (.func 7) [v, .agg #[.int .i64 sa, .int .i64 sn], .agg #[.int .i64 ta, .int .i64 tn], .int .i64 i, .int .u8 c] ⟨hp, hp.length, [], []⟩ = some (.bool true, σ') := by
  have hF : Fit hp.length hp.length [] := ⟨Nat.le_refl _, Low.nil _⟩
  have hlen := hr.lenF
  have hnews : ∀ nw A L d, St.news ⟨put (hp ++ nw) (hp.length + 2) (hp.length + 3) A, L, [], d⟩ 1 v = some (l.length, u8s l) := fun nw A L d => (hr.put (by omega) (by omega)).news
  rw [Lrun_sym 7 _ _ fn7]
  by_cases h1 : (l.length : Int) > 200
  · simp (disch := (first | omega | (simp only [lnE] <;> omega) | (refine Fit.mono ‹Fit _ _ _› ?_; simp only [lnE] <;> omega) | (refine Fit.draw ‹Fit _ _ _› ?_ ?_ <;> (simp only [lnE] <;> omega)) | (refine Fit.hid1 ‹Fit _ _ _› ?_ ?_ <;> (simp only [lnE] <;> omega)) | (refine Fit.draw1 ‹Fit _ _ _› ?_ ?_ ?_ <;> (simp only [lnE] <;> omega)) | (refine Fit.range0 ?_ ?_ <;> (simp only [lnE] <;> omega)) | fail)) only [syA, List.isEmpty_nil, List.isEmpty_cons, List.nil_append, argFr, D, E, T, C, undefv, eqF, aeq, sheqs, sheq, Option.isNone_none, Option.isNone_some, Option.getD_some, Option.getD_none, rdCells, cellsOf, fill, putAt, if_true, if_false, reduceIte, ↓reduceIte, reduceCtorEq, decide_true, decide_false, decide_eq_true_eq, decide_eq_false_iff_not, decide_not, Bool.not_true, Bool.not_false, Bool.not_not, Bool.not_eq_true', Bool.and_true, Bool.true_and, Bool.and_false, Bool.false_and, Bool.and_self, Bool.or_true, Bool.true_or, Bool.or_false, Bool.false_or, Bool.or_self, Bool.false_eq_true, Bool.and_eq_true, Bool.or_eq_true, and_true, true_and, and_false, false_and, or_true, true_or, or_false, false_or, not_true_eq_false, not_false_eq_true, eq_self, Option.map_some, Option.map_none, Option.bind_some, Option.bind_none, Nat.reduceEqDiff, Nat.reduceAdd, Nat.reduceSub, Nat.reduceMul, Nat.reduceLT, Nat.reduceLeDiff, Nat.reducePow, Nat.testBit_eq_decide_div_mod_eq, Nat.reduceDiv, Nat.reduceMod, Nat.zero_add, Nat.add_zero, Nat.sub_self, Nat.le_refl, Nat.lt_irrefl, Nat.mul_one, Int.mul_one, Int.one_mul, Int.sub_zero, Int.add_zero, Int.zero_add, Int.reduceLT, Int.reduceLE, Int.reduceGT, Int.reduceGE, Int.reduceToNat, Int.reducePow, Int.reduceNeg, Int.reduceBEq, Int.reduceBNe, Int.reduceEq, Int.reduceAdd, Int.reduceSub, Int.reduceMul, beq_iff_eq, bne_iff_ne, bne_self_eq_false, bne_eq_false_iff_eq, beq_eq_false_iff_ne, ne_eq, beq_self_eq_true, List.all_cons, List.all_nil, cellv, sc, flatv, refs, refsF, refsC, List.flatMap_cons, List.flatMap_nil, List.append_nil, List.append_assoc, List.cons_append, List.length_append, List.length_set, Int.cast_ofNat_Int, List.length_cons, List.length_nil, List.getElem?_cons_zero, List.getElem?_cons_succ, List.set_cons_zero, List.set_cons_succ, List.take_succ_cons, List.take_zero, List.drop_zero, List.drop_succ_cons, List.contains_nil, Int.toNat_natCast, Int.lt_irrefl, Nat.min_eq_left, Nat.min_eq_right, hF.not0, hF.not1, hF.up0, hF.up1, ac7, hlen, h1, wakes_walk]
    first
      | exact ⟨_, rfl⟩
      | exact gc_bool _ _ _ _ _ _
  have hl2 : l.length ≤ 200 := by omega
  have hz : By (List.replicate l.length 0) := fun x hx => by rw [List.mem_replicate] at hx; omega
  have k0 : ArOk (hp.length + 4) (hp.length + 2) (hp.length + 3) [] (Arn.new 200) := ArOk.new (by omega) (by omega) (by omega) (by omega) rfl rfl
  have k1 : ArOk (hp.length + 4) (hp.length + 2) (hp.length + 3) [] (Arn.laid 200 (List.replicate l.length 0)) := ArOk.laid (by omega) (by omega) (by omega) hz (by simpa using hl2) (by omega) rfl rfl
  have k : ArOk (hp.length + 4) (hp.length + 2) (hp.length + 3) [] (Arn.laid 200 l) := ArOk.laid (by omega) (by omega) (by omega) hr.by_ hl2 (by omega) rfl rfl
  have htk := new_taken hl2
  rw [new_take hl2] at htk
  have hpart := laid_part (N := 200) (l := List.replicate l.length 0) (n := l.length) (by simp)
  have hst := laid_store (N := 200) (l := List.replicate l.length 0) (m := l) (by simp) (by simpa using hl2)
  have st := store_walk (d := []) (hp := hp ++ [.cells 0 true [.int .i64 sa, .int .i64 sn], .cells 0 true [.int .i64 ta, .int .i64 tn], default, default, .cells 0 true [.int .i64 0, .int .i64 l.length]]) (r := hp.length + 2) (q := hp.length + 3) (L := hp.length) (H := []) (A := Arn.laid 200 (List.replicate l.length 0)) (by omega : l.length ≤ 1048576) (hF.mono (by simp)) (k1.mono (by simp)) (by omega) 0 l.length 0 (fun nw => by rw [List.append_assoc]; exact hr.put (by omega) (by omega))
  rw [hst, hpart] at st
  have hsb := laid_setByte (s := sa) (len := sn) (i := i) (c := c) hl2
  have hpi := (Arn.part_iff (A := Arn.laid 200 l) (s := sa) (len := sn) (i := i) (n := 1))
  rw [laid_live] at hpi
  have hml : (if (Arn.laid 200 l).part sa sn i 1 = true then l.set (sa + i).toNat c else l).length = l.length := by split <;> simp
  have hmb : By (if (Arn.laid 200 l).part sa sn i 1 = true then l.set (sa + i).toNat c else l) := by
    split
    · intro x hx
      rcases List.mem_or_eq_of_mem_set hx with h | rfl
      · exact hr.by_ x h
      · exact hc
    · exact hr.by_
  have hmt : (Arn.laid 200 l).part sa sn i 1 = true → (if (Arn.laid 200 l).part sa sn i 1 = true then l.set (sa + i).toNat c else l) = l.set (sa + i).toNat c := fun h => if_pos h
  have hmf : (Arn.laid 200 l).part sa sn i 1 = false → (if (Arn.laid 200 l).part sa sn i 1 = true then l.set (sa + i).toNat c else l) = l := fun h => if_neg (by rw [h]; decide)
  generalize hok : (Arn.laid 200 l).part sa sn i 1 = ok at *
  generalize (if ok = true then l.set (sa + i).toNat c else l) = m at *
  have k3 : ArOk (hp.length + 4) (hp.length + 2) (hp.length + 3) [] (Arn.laid 200 m) := ArOk.laid (by omega) (by omega) (by omega) hmb (by omega) (by omega) rfl rfl
  have hld := laid_load2 (N := 200) (l := m) (s := ta) (n := tn) (by omega)
  have hlw := laid_load (N := 200) (l := m)
  rw [hml] at hlw
  have a1 := append_lit0 (hp := put (hp ++ [.cells 0 true [.int .i64 sa, .int .i64 sn], .cells 0 true [.int .i64 ta, .int .i64 tn], default, default, .cells 0 true [.int .i64 0, .int .i64 l.length]]) (hp.length + 2) (hp.length + 3) (Arn.laid 200 m)) (L := hp.length) (H := []) (d := []) (l := l) (by rw [put_length]; exact hF.mono (by simp)) (by omega)
  rw [put_app (by simp) (by simp), put_app (by simp) (by simp)] at a1
  simp only [put_length, List.append_assoc, List.cons_append, List.nil_append, List.length_append, List.length_cons, List.length_nil, Nat.zero_add, Nat.reduceAdd] at a1
  have htk2 : (u8s m).take l.length = u8s m := by rw [← hml, take_u8s]
  have hum : (u8s m).length = l.length := by rw [u8s_length, hml]
  have hhas := Arn.has_iff (A := Arn.laid 200 m) (s := ta) (n := tn)
  rw [laid_live, hml] at hhas
  have hdt : ((u8s m).drop ta.toNat).take tn.toNat = u8s ((m.drop ta.toNat).take tn.toNat) := by rw [u8s_take, u8s_drop]
  cases ok with
  | true =>
    obtain ⟨⟨p1, p2, p3, p4⟩, p5, p6⟩ := hpi.1 rfl
    have hm := hmt rfl
    have q1 : ¬ sa < 0 := by omega
    have q2 : ¬ i < 0 := by omega
    have q3 : ¬ i ≥ sn := by omega
    have q4 : ¬ sa > (l.length : Int) := by omega
    have q5 : ¬ i ≥ (l.length : Int) - sa := by omega
    have q6 : 0 ≤ sa + i ∧ sa + i < (l.length : Int) := by omega
    have q7 : (sa + i).toNat + 1 ≤ l.length := by omega
    cases hh : (Arn.laid 200 m).has ta tn with
    | false =>
      rw [hh, if_neg (by decide)] at hld
      simp (disch := (first | omega | (simp only [lnE, put_length] <;> omega) | (refine Fit.mono ‹Fit _ _ _› ?_; simp only [lnE, put_length] <;> omega) | (refine Fit.draw ‹Fit _ _ _› ?_ ?_ <;> (simp only [lnE, put_length] <;> omega)) | (refine Fit.hid1 ‹Fit _ _ _› ?_ ?_ <;> (simp only [lnE, put_length] <;> omega)) | (refine Fit.draw1 ‹Fit _ _ _› ?_ ?_ ?_ <;> (simp only [lnE, put_length] <;> omega)) | (refine Fit.range0 ?_ ?_ <;> (simp only [lnE, put_length] <;> omega)) | (refine ArOk.mono ‹ArOk _ _ _ _ _› ?_; simp only [lnE, put_length] <;> omega) | (refine ArOk.hid ‹ArOk _ _ _ _ _› ?_ ?_ <;> (simp only [lnE, put_length] <;> omega)) | (refine ArOk.hid0 ‹ArOk _ _ _ _ _› ?_ ?_ <;> (simp only [lnE, put_length] <;> omega)) | (intro xr hxr; simp [AM.refs, refsF, refsC] at hxr; simp only [lnE, put_length] <;> omega) | fail)) only [syA, List.isEmpty_nil, List.isEmpty_cons, List.nil_append, argFr, D, E, T, C, undefv, eqF, aeq, sheqs, sheq, Option.isNone_none, Option.isNone_some, Option.getD_some, Option.getD_none, rdCells, cellsOf, fill, putAt, if_true, if_false, reduceIte, ↓reduceIte, reduceCtorEq, decide_true, decide_false, decide_eq_true_eq, decide_eq_false_iff_not, decide_not, Bool.not_true, Bool.not_false, Bool.not_not, Bool.not_eq_true', Bool.and_true, Bool.true_and, Bool.and_false, Bool.false_and, Bool.and_self, Bool.or_true, Bool.true_or, Bool.or_false, Bool.false_or, Bool.or_self, Bool.false_eq_true, Bool.and_eq_true, Bool.or_eq_true, and_true, true_and, and_false, false_and, or_true, true_or, or_false, false_or, not_true_eq_false, not_false_eq_true, eq_self, Option.map_some, Option.map_none, Option.bind_some, Option.bind_none, Nat.reduceEqDiff, Nat.reduceAdd, Nat.reduceSub, Nat.reduceMul, Nat.reduceLT, Nat.reduceLeDiff, Nat.reducePow, Nat.testBit_eq_decide_div_mod_eq, Nat.reduceDiv, Nat.reduceMod, Nat.zero_add, Nat.add_zero, Nat.sub_self, Nat.le_refl, Nat.lt_irrefl, Nat.mul_one, Int.mul_one, Int.one_mul, Int.sub_zero, Int.add_zero, Int.zero_add, Int.reduceLT, Int.reduceLE, Int.reduceGT, Int.reduceGE, Int.reduceToNat, Int.reducePow, Int.reduceNeg, Int.reduceBEq, Int.reduceBNe, Int.reduceEq, Int.reduceAdd, Int.reduceSub, Int.reduceMul, beq_iff_eq, bne_iff_ne, bne_self_eq_false, bne_eq_false_iff_eq, beq_eq_false_iff_ne, ne_eq, beq_self_eq_true, List.all_cons, List.all_nil, cellv, sc, flatv, refs, refsF, refsC, List.flatMap_cons, List.flatMap_nil, List.append_nil, List.append_assoc, List.cons_append, List.length_append, List.length_set, Int.cast_ofNat_Int, List.length_cons, List.length_nil, List.getElem?_cons_zero, List.getElem?_cons_succ, List.set_cons_zero, List.set_cons_succ, List.take_succ_cons, List.take_zero, List.drop_zero, List.drop_succ_cons, List.contains_nil, Int.toNat_natCast, Int.lt_irrefl, Nat.min_eq_left, Nat.min_eq_right, syR, Int.le_refl, hF.not0, hF.not1, hF.up0, hF.up1, k.hr, k.hq, ac7, hlen, h1, wakes_walk, new_walk, take_walk, htk, st, setByte_walk, hok, hsb, hnews, a1, has_walk, hh, load_walk, hld, hlw, sl_some, slB_some, sl_none, slB_none, small, List.length_nil, b8_nil, q1, q2, q3, q4, q5, q6, q7, u8s_setN, ← hm, hml, htk2, hum]
      exact gc_bool _ _ _ _ _ _
    | true =>
      rw [hh, if_pos rfl] at hld
      obtain ⟨z1, z2, z3, z4⟩ := hhas.1 hh
      have c3 : 0 ≤ ta ∧ ta ≤ ta + tn ∧ ta + tn ≤ (l.length : Int) := by omega
      have e1 : (ta + tn).toNat - ta.toNat = tn.toNat := by omega
      have e2 : ta.toNat + tn.toNat ≤ l.length := by omega
      have hl : ((m.drop ta.toNat).take tn.toNat).length = tn.toNat := by simp; omega
      have htk3 : (u8s ((m.drop ta.toNat).take tn.toNat)).take tn.toNat = u8s ((m.drop ta.toNat).take tn.toNat) := List.take_of_length_le (by rw [u8s_length, hl]; omega)
      simp (disch := (first | omega | (simp only [lnE, put_length] <;> omega) | (refine Fit.mono ‹Fit _ _ _› ?_; simp only [lnE, put_length] <;> omega) | (refine Fit.draw ‹Fit _ _ _› ?_ ?_ <;> (simp only [lnE, put_length] <;> omega)) | (refine Fit.hid1 ‹Fit _ _ _› ?_ ?_ <;> (simp only [lnE, put_length] <;> omega)) | (refine Fit.draw1 ‹Fit _ _ _› ?_ ?_ ?_ <;> (simp only [lnE, put_length] <;> omega)) | (refine Fit.range0 ?_ ?_ <;> (simp only [lnE, put_length] <;> omega)) | (refine ArOk.mono ‹ArOk _ _ _ _ _› ?_; simp only [lnE, put_length] <;> omega) | (refine ArOk.hid ‹ArOk _ _ _ _ _› ?_ ?_ <;> (simp only [lnE, put_length] <;> omega)) | (refine ArOk.hid0 ‹ArOk _ _ _ _ _› ?_ ?_ <;> (simp only [lnE, put_length] <;> omega)) | (intro xr hxr; simp [AM.refs, refsF, refsC] at hxr; simp only [lnE, put_length] <;> omega) | fail)) only [syA, List.isEmpty_nil, List.isEmpty_cons, List.nil_append, argFr, D, E, T, C, undefv, eqF, aeq, sheqs, sheq, Option.isNone_none, Option.isNone_some, Option.getD_some, Option.getD_none, rdCells, cellsOf, fill, putAt, if_true, if_false, reduceIte, ↓reduceIte, reduceCtorEq, decide_true, decide_false, decide_eq_true_eq, decide_eq_false_iff_not, decide_not, Bool.not_true, Bool.not_false, Bool.not_not, Bool.not_eq_true', Bool.and_true, Bool.true_and, Bool.and_false, Bool.false_and, Bool.and_self, Bool.or_true, Bool.true_or, Bool.or_false, Bool.false_or, Bool.or_self, Bool.false_eq_true, Bool.and_eq_true, Bool.or_eq_true, and_true, true_and, and_false, false_and, or_true, true_or, or_false, false_or, not_true_eq_false, not_false_eq_true, eq_self, Option.map_some, Option.map_none, Option.bind_some, Option.bind_none, Nat.reduceEqDiff, Nat.reduceAdd, Nat.reduceSub, Nat.reduceMul, Nat.reduceLT, Nat.reduceLeDiff, Nat.reducePow, Nat.testBit_eq_decide_div_mod_eq, Nat.reduceDiv, Nat.reduceMod, Nat.zero_add, Nat.add_zero, Nat.sub_self, Nat.le_refl, Nat.lt_irrefl, Nat.mul_one, Int.mul_one, Int.one_mul, Int.sub_zero, Int.add_zero, Int.zero_add, Int.reduceLT, Int.reduceLE, Int.reduceGT, Int.reduceGE, Int.reduceToNat, Int.reducePow, Int.reduceNeg, Int.reduceBEq, Int.reduceBNe, Int.reduceEq, Int.reduceAdd, Int.reduceSub, Int.reduceMul, beq_iff_eq, bne_iff_ne, bne_self_eq_false, bne_eq_false_iff_eq, beq_eq_false_iff_ne, ne_eq, beq_self_eq_true, List.all_cons, List.all_nil, cellv, sc, flatv, refs, refsF, refsC, List.flatMap_cons, List.flatMap_nil, List.append_nil, List.append_assoc, List.cons_append, List.length_append, List.length_set, Int.cast_ofNat_Int, List.length_cons, List.length_nil, List.getElem?_cons_zero, List.getElem?_cons_succ, List.set_cons_zero, List.set_cons_succ, List.take_succ_cons, List.take_zero, List.drop_zero, List.drop_succ_cons, List.contains_nil, Int.toNat_natCast, Int.lt_irrefl, Nat.min_eq_left, Nat.min_eq_right, syR, Int.le_refl, hF.not0, hF.not1, hF.up0, hF.up1, k.hr, k.hq, ac7, hlen, h1, wakes_walk, new_walk, take_walk, htk, st, setByte_walk, hok, hsb, hnews, a1, has_walk, hh, load_walk, hld, hlw, sl_some, slB_some, sl_none, slB_none, small, List.length_nil, b8_nil, q1, q2, q3, q4, q5, q6, q7, u8s_setN, ← hm, hml, htk2, hum, c3, e1, e2, hl, htk3, hdt]
      exact gc_bool _ _ _ _ _ _
  | false =>
    have hm := hmf rfl
    subst hm
    cases hh : (Arn.laid 200 m).has ta tn with
    | false =>
      rw [hh, if_neg (by decide)] at hld
      simp (disch := (first | omega | (simp only [lnE, put_length] <;> omega) | (refine Fit.mono ‹Fit _ _ _› ?_; simp only [lnE, put_length] <;> omega) | (refine Fit.draw ‹Fit _ _ _› ?_ ?_ <;> (simp only [lnE, put_length] <;> omega)) | (refine Fit.hid1 ‹Fit _ _ _› ?_ ?_ <;> (simp only [lnE, put_length] <;> omega)) | (refine Fit.draw1 ‹Fit _ _ _› ?_ ?_ ?_ <;> (simp only [lnE, put_length] <;> omega)) | (refine Fit.range0 ?_ ?_ <;> (simp only [lnE, put_length] <;> omega)) | (refine ArOk.mono ‹ArOk _ _ _ _ _› ?_; simp only [lnE, put_length] <;> omega) | (refine ArOk.hid ‹ArOk _ _ _ _ _› ?_ ?_ <;> (simp only [lnE, put_length] <;> omega)) | (refine ArOk.hid0 ‹ArOk _ _ _ _ _› ?_ ?_ <;> (simp only [lnE, put_length] <;> omega)) | (intro xr hxr; simp [AM.refs, refsF, refsC] at hxr; simp only [lnE, put_length] <;> omega) | fail)) only [syA, List.isEmpty_nil, List.isEmpty_cons, List.nil_append, argFr, D, E, T, C, undefv, eqF, aeq, sheqs, sheq, Option.isNone_none, Option.isNone_some, Option.getD_some, Option.getD_none, rdCells, cellsOf, fill, putAt, if_true, if_false, reduceIte, ↓reduceIte, reduceCtorEq, decide_true, decide_false, decide_eq_true_eq, decide_eq_false_iff_not, decide_not, Bool.not_true, Bool.not_false, Bool.not_not, Bool.not_eq_true', Bool.and_true, Bool.true_and, Bool.and_false, Bool.false_and, Bool.and_self, Bool.or_true, Bool.true_or, Bool.or_false, Bool.false_or, Bool.or_self, Bool.false_eq_true, Bool.and_eq_true, Bool.or_eq_true, and_true, true_and, and_false, false_and, or_true, true_or, or_false, false_or, not_true_eq_false, not_false_eq_true, eq_self, Option.map_some, Option.map_none, Option.bind_some, Option.bind_none, Nat.reduceEqDiff, Nat.reduceAdd, Nat.reduceSub, Nat.reduceMul, Nat.reduceLT, Nat.reduceLeDiff, Nat.reducePow, Nat.testBit_eq_decide_div_mod_eq, Nat.reduceDiv, Nat.reduceMod, Nat.zero_add, Nat.add_zero, Nat.sub_self, Nat.le_refl, Nat.lt_irrefl, Nat.mul_one, Int.mul_one, Int.one_mul, Int.sub_zero, Int.add_zero, Int.zero_add, Int.reduceLT, Int.reduceLE, Int.reduceGT, Int.reduceGE, Int.reduceToNat, Int.reducePow, Int.reduceNeg, Int.reduceBEq, Int.reduceBNe, Int.reduceEq, Int.reduceAdd, Int.reduceSub, Int.reduceMul, beq_iff_eq, bne_iff_ne, bne_self_eq_false, bne_eq_false_iff_eq, beq_eq_false_iff_ne, ne_eq, beq_self_eq_true, List.all_cons, List.all_nil, cellv, sc, flatv, refs, refsF, refsC, List.flatMap_cons, List.flatMap_nil, List.append_nil, List.append_assoc, List.cons_append, List.length_append, List.length_set, Int.cast_ofNat_Int, List.length_cons, List.length_nil, List.getElem?_cons_zero, List.getElem?_cons_succ, List.set_cons_zero, List.set_cons_succ, List.take_succ_cons, List.take_zero, List.drop_zero, List.drop_succ_cons, List.contains_nil, Int.toNat_natCast, Int.lt_irrefl, Nat.min_eq_left, Nat.min_eq_right, syR, Int.le_refl, hF.not0, hF.not1, hF.up0, hF.up1, k.hr, k.hq, ac7, hlen, h1, wakes_walk, new_walk, take_walk, htk, st, setByte_walk, hok, hsb, hnews, a1, has_walk, hh, load_walk, hld, hlw, sl_some, slB_some, sl_none, slB_none, small, List.length_nil, b8_nil, htk2, hum]
      exact gc_bool _ _ _ _ _ _
    | true =>
      rw [hh, if_pos rfl] at hld
      obtain ⟨z1, z2, z3, z4⟩ := hhas.1 hh
      have c3 : 0 ≤ ta ∧ ta ≤ ta + tn ∧ ta + tn ≤ (m.length : Int) := by omega
      have e1 : (ta + tn).toNat - ta.toNat = tn.toNat := by omega
      have e2 : ta.toNat + tn.toNat ≤ m.length := by omega
      have hl : ((m.drop ta.toNat).take tn.toNat).length = tn.toNat := by simp; omega
      have htk3 : (u8s ((m.drop ta.toNat).take tn.toNat)).take tn.toNat = u8s ((m.drop ta.toNat).take tn.toNat) := List.take_of_length_le (by rw [u8s_length, hl]; omega)
      simp (disch := (first | omega | (simp only [lnE, put_length] <;> omega) | (refine Fit.mono ‹Fit _ _ _› ?_; simp only [lnE, put_length] <;> omega) | (refine Fit.draw ‹Fit _ _ _› ?_ ?_ <;> (simp only [lnE, put_length] <;> omega)) | (refine Fit.hid1 ‹Fit _ _ _› ?_ ?_ <;> (simp only [lnE, put_length] <;> omega)) | (refine Fit.draw1 ‹Fit _ _ _› ?_ ?_ ?_ <;> (simp only [lnE, put_length] <;> omega)) | (refine Fit.range0 ?_ ?_ <;> (simp only [lnE, put_length] <;> omega)) | (refine ArOk.mono ‹ArOk _ _ _ _ _› ?_; simp only [lnE, put_length] <;> omega) | (refine ArOk.hid ‹ArOk _ _ _ _ _› ?_ ?_ <;> (simp only [lnE, put_length] <;> omega)) | (refine ArOk.hid0 ‹ArOk _ _ _ _ _› ?_ ?_ <;> (simp only [lnE, put_length] <;> omega)) | (intro xr hxr; simp [AM.refs, refsF, refsC] at hxr; simp only [lnE, put_length] <;> omega) | fail)) only [syA, List.isEmpty_nil, List.isEmpty_cons, List.nil_append, argFr, D, E, T, C, undefv, eqF, aeq, sheqs, sheq, Option.isNone_none, Option.isNone_some, Option.getD_some, Option.getD_none, rdCells, cellsOf, fill, putAt, if_true, if_false, reduceIte, ↓reduceIte, reduceCtorEq, decide_true, decide_false, decide_eq_true_eq, decide_eq_false_iff_not, decide_not, Bool.not_true, Bool.not_false, Bool.not_not, Bool.not_eq_true', Bool.and_true, Bool.true_and, Bool.and_false, Bool.false_and, Bool.and_self, Bool.or_true, Bool.true_or, Bool.or_false, Bool.false_or, Bool.or_self, Bool.false_eq_true, Bool.and_eq_true, Bool.or_eq_true, and_true, true_and, and_false, false_and, or_true, true_or, or_false, false_or, not_true_eq_false, not_false_eq_true, eq_self, Option.map_some, Option.map_none, Option.bind_some, Option.bind_none, Nat.reduceEqDiff, Nat.reduceAdd, Nat.reduceSub, Nat.reduceMul, Nat.reduceLT, Nat.reduceLeDiff, Nat.reducePow, Nat.testBit_eq_decide_div_mod_eq, Nat.reduceDiv, Nat.reduceMod, Nat.zero_add, Nat.add_zero, Nat.sub_self, Nat.le_refl, Nat.lt_irrefl, Nat.mul_one, Int.mul_one, Int.one_mul, Int.sub_zero, Int.add_zero, Int.zero_add, Int.reduceLT, Int.reduceLE, Int.reduceGT, Int.reduceGE, Int.reduceToNat, Int.reducePow, Int.reduceNeg, Int.reduceBEq, Int.reduceBNe, Int.reduceEq, Int.reduceAdd, Int.reduceSub, Int.reduceMul, beq_iff_eq, bne_iff_ne, bne_self_eq_false, bne_eq_false_iff_eq, beq_eq_false_iff_ne, ne_eq, beq_self_eq_true, List.all_cons, List.all_nil, cellv, sc, flatv, refs, refsF, refsC, List.flatMap_cons, List.flatMap_nil, List.append_nil, List.append_assoc, List.cons_append, List.length_append, List.length_set, Int.cast_ofNat_Int, List.length_cons, List.length_nil, List.getElem?_cons_zero, List.getElem?_cons_succ, List.set_cons_zero, List.set_cons_succ, List.take_succ_cons, List.take_zero, List.drop_zero, List.drop_succ_cons, List.contains_nil, Int.toNat_natCast, Int.lt_irrefl, Nat.min_eq_left, Nat.min_eq_right, syR, Int.le_refl, hF.not0, hF.not1, hF.up0, hF.up1, k.hr, k.hq, ac7, hlen, h1, wakes_walk, new_walk, take_walk, htk, st, setByte_walk, hok, hsb, hnews, a1, has_walk, hh, load_walk, hld, hlw, sl_some, slB_some, sl_none, slB_none, small, List.length_nil, b8_nil, htk2, hum, c3, e1, e2, hl, htk3, hdt]
      exact gc_bool _ _ _ _ _ _
end ArA
end Go.Proofs.Ytfefeikkjebfoaa
