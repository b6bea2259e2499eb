/-
  THE ARENA: the law of releases, run on the abstract machine. Conditions: none.
-/
import Derived.Test.YtfefeikkjebfoaaArLaw
set_option linter.all false
namespace Go.Proofs.Ytfefeikkjebfoaa
namespace AM
open Go Go.RowKit
/-- The arena with l in it, of which only the first bytes are live. -/
def Arn.cutd (N : Nat) (l : List Nat) (lv : Nat) : Arn := ⟨l ++ List.replicate (N - l.length) 0, lv, l.length⟩
theorem cutd_len {N : Nat} {l : List Nat} {lv : Nat} (h : l.length ≤ N) : (Arn.cutd N l lv).bs.length = N := by simp [Arn.cutd]; omega
theorem cutd_taken {N : Nat} {l : List Nat} {lv n : Nat} (h : l.length ≤ N) (hn : lv + n ≤ N) : (Arn.cutd N l lv).taken n = ((Arn.cutd N l lv).take n, (lv : Int), (n : Int), 0) := by
  simp only [Arn.taken, cutd_len h]
  rw [if_neg (by omega), if_neg (by simp only [Arn.cutd]; omega)]; rfl
theorem cutd_load {N : Nat} {l : List Nat} {lv n : Nat} (h : l.length ≤ N) (hl : lv ≤ l.length) (hn : lv + n ≤ N) :
    ((Arn.cutd N l lv).take n).loadO lv n = some (List.replicate n 0) ∧ ((Arn.cutd N l lv).take n).loadO 0 lv = some (l.take lv) ∧ ((Arn.cutd N l lv).take n).live = lv + n ∧ ((Arn.cutd N l lv).take n).peak = max (l.length : Int) (lv + n) := by
  have e1 : ((Arn.cutd N l lv).take n).live = lv + n := rfl
  have eb : ((Arn.cutd N l lv).take n).bs = putN (l ++ List.replicate (N - l.length) 0) lv (List.replicate n 0) := by
    simp only [Arn.take, Arn.cutd, Int.toNat_natCast]
  have hb : lv + (List.replicate n 0).length ≤ (l ++ List.replicate (N - l.length) 0).length := by simp; omega
  refine ⟨?_, ?_, rfl, rfl⟩
  · simp only [Arn.loadO]
    rw [if_pos (by rw [Arn.has_iff, e1]; omega), eb]
    congr 1
    apply List.ext_getElem?
    intro j
    rw [List.getElem?_take, List.getElem?_drop]
    simp only [Int.toNat_natCast]
    by_cases hj : j < n
    · rw [if_pos hj, putN_get hb, if_pos (by simp; omega)]; simp [hj]
    · rw [if_neg hj, List.getElem?_eq_none (by simp; omega)]
  · simp only [Arn.loadO]
    rw [if_pos (by rw [Arn.has_iff, e1]; omega), eb]
    congr 1
    apply List.ext_getElem?
    intro j
    rw [List.getElem?_take, List.getElem?_drop, List.getElem?_take]
    simp only [Int.toNat_natCast, Int.toNat_zero, Nat.zero_add]
    by_cases hj : j < lv
    · rw [if_pos hj, if_pos hj, putN_get hb, if_neg (by omega), List.getElem?_append_left (by omega)]
    · rw [if_neg hj, if_neg hj]
theorem laid_release {N : Nat} {l : List Nat} {m : Int} : (Arn.laid N l).release m = Arn.cutd N l (if 0 ≤ m ∧ m ≤ l.length then m.toNat else l.length) := by
  unfold Arn.release
  by_cases h : 0 ≤ m ∧ m ≤ (l.length : Int)
  · rw [if_pos (show 0 ≤ m ∧ m ≤ (Arn.laid N l).live from h), if_pos h]
    simp only [Arn.laid, Arn.cutd, Arn.mk.injEq, true_and, and_true]; omega
  · rw [if_neg (show ¬ (0 ≤ m ∧ m ≤ (Arn.laid N l).live) from h), if_neg h]; rfl
end AM
namespace ArA
open Go Go.RowKit AM ArEnv

theorem zeros_loop {hq : List Blk} {L : Nat} {H : List Nat} {a1 : Option Addr} {e1 n : Nat} {u v w x : Value} (r1 : Rd ⟨hq, L, H, []⟩ (.slice a1 n e1) (List.replicate n 0)) (hn : n ≤ 1000) :
    ∀ (c k : Nat), k + c = n → ∃ fr, Liter env lb4_0 [15, 7, 0, 12, 2, 16] hq.length [(15, .slice a1 n e1), (7, u), (0, v), (12, w), (2, x), (16, .int .i64 k)] ⟨hq, L, H, []⟩ = some (.exit 0, fr, ⟨hq, L, H, []⟩) ∧ fr.get 15 = some (.slice a1 n e1) ∧ fr.get 7 = some u ∧ fr.get 0 = some v ∧ fr.get 12 = some w ∧ fr.get 2 = some x
  | 0, k, hk => by
    have : k = n := by omega
    subst this
    rw [iter_by lb4_0.eq_1]
    simp (disch := (first | omega | (simp only [lnE] <;> omega) | (refine Fit.mono ‹Fit _ _ _› ?_; simp only [lnE] <;> omega) | (refine Fit.draw ‹Fit _ _ _› ?_ ?_ <;> (simp only [lnE] <;> omega)) | (refine Fit.hid1 ‹Fit _ _ _› ?_ ?_ <;> (simp only [lnE] <;> omega)) | (refine Fit.draw1 ‹Fit _ _ _› ?_ ?_ ?_ <;> (simp only [lnE] <;> omega)) | (refine Fit.range0 ?_ ?_ <;> (simp only [lnE] <;> omega)) | fail)) only [syA, List.isEmpty_nil, List.isEmpty_cons, List.nil_append, argFr, D, E, T, C, undefv, eqF, aeq, sheqs, sheq, Option.isNone_none, Option.isNone_some, Option.getD_some, Option.getD_none, rdCells, cellsOf, fill, putAt, if_true, if_false, reduceIte, ↓reduceIte, reduceCtorEq, decide_true, decide_false, decide_eq_true_eq, decide_eq_false_iff_not, decide_not, Bool.not_true, Bool.not_false, Bool.not_not, Bool.not_eq_true', Bool.and_true, Bool.true_and, Bool.and_false, Bool.false_and, Bool.and_self, Bool.or_true, Bool.true_or, Bool.or_false, Bool.false_or, Bool.or_self, Bool.false_eq_true, Bool.and_eq_true, Bool.or_eq_true, and_true, true_and, and_false, false_and, or_true, true_or, or_false, false_or, not_true_eq_false, not_false_eq_true, eq_self, Option.map_some, Option.map_none, Option.bind_some, Option.bind_none, Nat.reduceEqDiff, Nat.reduceAdd, Nat.reduceSub, Nat.reduceMul, Nat.reduceLT, Nat.reduceLeDiff, Nat.reducePow, Nat.testBit_eq_decide_div_mod_eq, Nat.reduceDiv, Nat.reduceMod, Nat.zero_add, Nat.add_zero, Nat.sub_self, Nat.le_refl, Nat.lt_irrefl, Nat.mul_one, Int.mul_one, Int.one_mul, Int.sub_zero, Int.add_zero, Int.zero_add, Int.reduceLT, Int.reduceLE, Int.reduceGT, Int.reduceGE, Int.reduceToNat, Int.reducePow, Int.reduceNeg, Int.reduceBEq, Int.reduceBNe, Int.reduceEq, Int.reduceAdd, Int.reduceSub, Int.reduceMul, beq_iff_eq, bne_iff_ne, bne_self_eq_false, bne_eq_false_iff_eq, beq_eq_false_iff_ne, ne_eq, beq_self_eq_true, List.all_cons, List.all_nil, cellv, sc, flatv, refs, refsF, refsC, List.flatMap_cons, List.flatMap_nil, List.append_nil, List.append_assoc, List.cons_append, List.length_append, List.length_set, Int.cast_ofNat_Int, List.length_cons, List.length_nil, List.getElem?_cons_zero, List.getElem?_cons_succ, List.set_cons_zero, List.set_cons_succ, List.take_succ_cons, List.take_zero, List.drop_zero, List.drop_succ_cons, List.contains_nil, Int.toNat_natCast, Int.lt_irrefl, Nat.min_eq_left, Nat.min_eq_right]
    exact ⟨_, rfl, rfl, rfl, rfl, rfl, rfl⟩
  | c + 1, k, hk => by
    obtain ⟨fr, e1, e2⟩ := zeros_loop (u := u) (v := v) (w := w) (x := x) r1 hn c (k + 1) (by omega)
    obtain ⟨b1, o1, g1, pl1, cs1, rfl, _, hh1, hb1, hc1⟩ := r1.at_ (i := k) (by simp; omega)
    simp only [List.getElem_replicate, Int.natCast_zero] at hh1 hb1 hc1
    have q1 : (k : Int) < n := by omega
    have q2 : 0 ≤ (k : Int) ∧ (k : Int) < n := by omega
    rw [iter_by lb4_0.eq_1]
    simp (disch := (first | omega | (simp only [lnE] <;> omega) | (refine Fit.mono ‹Fit _ _ _› ?_; simp only [lnE] <;> omega) | (refine Fit.draw ‹Fit _ _ _› ?_ ?_ <;> (simp only [lnE] <;> omega)) | (refine Fit.hid1 ‹Fit _ _ _› ?_ ?_ <;> (simp only [lnE] <;> omega)) | (refine Fit.draw1 ‹Fit _ _ _› ?_ ?_ ?_ <;> (simp only [lnE] <;> omega)) | (refine Fit.range0 ?_ ?_ <;> (simp only [lnE] <;> omega)) | fail)) only [syA, List.isEmpty_nil, List.isEmpty_cons, List.nil_append, argFr, D, E, T, C, undefv, eqF, aeq, sheqs, sheq, Option.isNone_none, Option.isNone_some, Option.getD_some, Option.getD_none, rdCells, cellsOf, fill, putAt, if_true, if_false, reduceIte, ↓reduceIte, reduceCtorEq, decide_true, decide_false, decide_eq_true_eq, decide_eq_false_iff_not, decide_not, Bool.not_true, Bool.not_false, Bool.not_not, Bool.not_eq_true', Bool.and_true, Bool.true_and, Bool.and_false, Bool.false_and, Bool.and_self, Bool.or_true, Bool.true_or, Bool.or_false, Bool.false_or, Bool.or_self, Bool.false_eq_true, Bool.and_eq_true, Bool.or_eq_true, and_true, true_and, and_false, false_and, or_true, true_or, or_false, false_or, not_true_eq_false, not_false_eq_true, eq_self, Option.map_some, Option.map_none, Option.bind_some, Option.bind_none, Nat.reduceEqDiff, Nat.reduceAdd, Nat.reduceSub, Nat.reduceMul, Nat.reduceLT, Nat.reduceLeDiff, Nat.reducePow, Nat.testBit_eq_decide_div_mod_eq, Nat.reduceDiv, Nat.reduceMod, Nat.zero_add, Nat.add_zero, Nat.sub_self, Nat.le_refl, Nat.lt_irrefl, Nat.mul_one, Int.mul_one, Int.one_mul, Int.sub_zero, Int.add_zero, Int.zero_add, Int.reduceLT, Int.reduceLE, Int.reduceGT, Int.reduceGE, Int.reduceToNat, Int.reducePow, Int.reduceNeg, Int.reduceBEq, Int.reduceBNe, Int.reduceEq, Int.reduceAdd, Int.reduceSub, Int.reduceMul, beq_iff_eq, bne_iff_ne, bne_self_eq_false, bne_eq_false_iff_eq, beq_eq_false_iff_ne, ne_eq, beq_self_eq_true, List.all_cons, List.all_nil, cellv, sc, flatv, refs, refsF, refsC, List.flatMap_cons, List.flatMap_nil, List.append_nil, List.append_assoc, List.cons_append, List.length_append, List.length_set, Int.cast_ofNat_Int, List.length_cons, List.length_nil, List.getElem?_cons_zero, List.getElem?_cons_succ, List.set_cons_zero, List.set_cons_succ, List.take_succ_cons, List.take_zero, List.drop_zero, List.drop_succ_cons, List.contains_nil, Int.toNat_natCast, Int.lt_irrefl, Nat.min_eq_left, Nat.min_eq_right, q1, q2, hh1, hb1, hc1]
    exact ⟨fr, e1, e2⟩
theorem releases_run {hp : List Blk} {v : Value} {l : List Nat} (hr : Rd ⟨hp, hp.length, [], []⟩ v l) (mark : Int) (hm : -9223372036854775808 ≤ mark) (hm' : mark ≤ 9223372036854775807) (n : Int) (hn : -9223372036854775808 ≤ n) (hn' : n ≤ 9223372036854775807) : ∃ σ', Lrun env (.func 4) [v, .int .i64 mark, .int .i64 n] ⟨hp, hp.length, [], []⟩ = some (.bool true, σ') := by
  have hF : Fit hp.length hp.length [] := ⟨Nat.le_refl _, Low.nil _⟩
  have hlen := hr.lenF
  rw [Lrun_sym 4 _ _ fn4]
  by_cases h1 : (l.length : Int) > 200
  · simp (disch := (first | omega | (simp only [lnE] <;> omega) | (refine Fit.mono ‹Fit _ _ _› ?_; simp only [lnE] <;> omega) | (refine Fit.draw ‹Fit _ _ _› ?_ ?_ <;> (simp only [lnE] <;> omega)) | (refine Fit.hid1 ‹Fit _ _ _› ?_ ?_ <;> (simp only [lnE] <;> omega)) | (refine Fit.draw1 ‹Fit _ _ _› ?_ ?_ ?_ <;> (simp only [lnE] <;> omega)) | (refine Fit.range0 ?_ ?_ <;> (simp only [lnE] <;> omega)) | fail)) only [syA, List.isEmpty_nil, List.isEmpty_cons, List.nil_append, argFr, D, E, T, C, undefv, eqF, aeq, sheqs, sheq, Option.isNone_none, Option.isNone_some, Option.getD_some, Option.getD_none, rdCells, cellsOf, fill, putAt, if_true, if_false, reduceIte, ↓reduceIte, reduceCtorEq, decide_true, decide_false, decide_eq_true_eq, decide_eq_false_iff_not, decide_not, Bool.not_true, Bool.not_false, Bool.not_not, Bool.not_eq_true', Bool.and_true, Bool.true_and, Bool.and_false, Bool.false_and, Bool.and_self, Bool.or_true, Bool.true_or, Bool.or_false, Bool.false_or, Bool.or_self, Bool.false_eq_true, Bool.and_eq_true, Bool.or_eq_true, and_true, true_and, and_false, false_and, or_true, true_or, or_false, false_or, not_true_eq_false, not_false_eq_true, eq_self, Option.map_some, Option.map_none, Option.bind_some, Option.bind_none, Nat.reduceEqDiff, Nat.reduceAdd, Nat.reduceSub, Nat.reduceMul, Nat.reduceLT, Nat.reduceLeDiff, Nat.reducePow, Nat.testBit_eq_decide_div_mod_eq, Nat.reduceDiv, Nat.reduceMod, Nat.zero_add, Nat.add_zero, Nat.sub_self, Nat.le_refl, Nat.lt_irrefl, Nat.mul_one, Int.mul_one, Int.one_mul, Int.sub_zero, Int.add_zero, Int.zero_add, Int.reduceLT, Int.reduceLE, Int.reduceGT, Int.reduceGE, Int.reduceToNat, Int.reducePow, Int.reduceNeg, Int.reduceBEq, Int.reduceBNe, Int.reduceEq, Int.reduceAdd, Int.reduceSub, Int.reduceMul, beq_iff_eq, bne_iff_ne, bne_self_eq_false, bne_eq_false_iff_eq, beq_eq_false_iff_ne, ne_eq, beq_self_eq_true, List.all_cons, List.all_nil, cellv, sc, flatv, refs, refsF, refsC, List.flatMap_cons, List.flatMap_nil, List.append_nil, List.append_assoc, List.cons_append, List.length_append, List.length_set, Int.cast_ofNat_Int, List.length_cons, List.length_nil, List.getElem?_cons_zero, List.getElem?_cons_succ, List.set_cons_zero, List.set_cons_succ, List.take_succ_cons, List.take_zero, List.drop_zero, List.drop_succ_cons, List.contains_nil, Int.toNat_natCast, Int.lt_irrefl, Nat.min_eq_left, Nat.min_eq_right, hF.not0, hF.not1, hF.up0, hF.up1, ac4, hlen, h1, wakes_walk]
    exact ⟨_, rfl⟩
  have hl2 : l.length ≤ 200 := by omega
  have hz : By (List.replicate l.length 0) := fun x hx => by rw [List.mem_replicate] at hx; omega
  have k0 : ArOk (hp.length + 2) hp.length (hp.length + 1) [] (Arn.new 200) := ArOk.new (by omega) (by omega) (by omega) (by omega) rfl rfl
  have k1 : ArOk (hp.length + 2) hp.length (hp.length + 1) [] (Arn.laid 200 (List.replicate l.length 0)) := ArOk.laid (by omega) (by omega) (by omega) hz (by simpa using hl2) (by omega) rfl rfl
  have k : ArOk (hp.length + 2) hp.length (hp.length + 1) [] (Arn.laid 200 l) := ArOk.laid (by omega) (by omega) (by omega) hr.by_ hl2 (by omega) rfl rfl
  have htk := new_taken hl2
  rw [new_take hl2] at htk
  have hpart := laid_part (N := 200) (l := List.replicate l.length 0) (n := l.length) (by simp)
  have hst := laid_store (N := 200) (l := List.replicate l.length 0) (m := l) (by simp) (by simpa using hl2)
  have st := store_walk (d := []) (hp := hp ++ [default, default, .cells 0 true [.int .i64 0, .int .i64 l.length]]) (r := hp.length) (q := hp.length + 1) (L := hp.length) (H := []) (A := Arn.laid 200 (List.replicate l.length 0)) (by omega : l.length ≤ 1048576) (hF.mono (by simp)) (k1.mono (by simp)) (by omega) 0 l.length 0 (fun nw => by rw [List.append_assoc]; exact hr.put (Nat.le_refl _) (by omega))
  rw [hst, hpart] at st
  have k3 := k.release mark
  rw [laid_release] at k3
  have hrel := laid_release (N := 200) (l := l) (m := mark)
  have hlv : (if 0 ≤ mark ∧ mark ≤ (l.length : Int) then mark.toNat else l.length) ≤ l.length := by split <;> omega
  have hlive := laid_live 200 l
  have hcases : (mark ≥ 0 ∧ mark ≤ (l.length : Int) ∧ (0 ≤ mark ∧ mark ≤ (l.length : Int))) ∨ (mark ≥ 0 ∧ ¬ mark ≤ (l.length : Int) ∧ ¬ (0 ≤ mark ∧ mark ≤ (l.length : Int))) ∨ (¬ mark ≥ 0 ∧ ¬ (0 ≤ mark ∧ mark ≤ (l.length : Int)) ∧ True) := by
    by_cases c1 : mark ≥ 0
    · by_cases c2 : mark ≤ (l.length : Int)
      · exact .inl ⟨c1, c2, c1, c2⟩
      · exact .inr (.inl ⟨c1, c2, fun h => c2 h.2⟩)
    · exact .inr (.inr ⟨c1, fun h => c1 h.1, trivial⟩)
  have hlvc : ((if 0 ≤ mark ∧ mark ≤ (l.length : Int) then mark.toNat else l.length : Nat) : Int) = if 0 ≤ mark ∧ mark ≤ (l.length : Int) then mark else l.length := by split <;> omega
  generalize (if 0 ≤ mark ∧ mark ≤ (l.length : Int) then mark.toNat else l.length) = lv at *
  have hcl := cutd_len (lv := lv) hl2
  have hcp : (Arn.cutd 200 l lv).peak = l.length := rfl
  have hcv : (Arn.cutd 200 l lv).live = lv := rfl
  -- a number that cannot be taken
  by_cases n1 : n < 0
  · have hbad : (Arn.cutd 200 l lv).taken n = (Arn.cutd 200 l lv, 0, 0, 2) := by simp only [Arn.taken, n1, if_true]
    have n2 : ¬ n ≥ 0 := by omega
    rcases hcases with ⟨c1, c2, c3⟩ | ⟨c1, c2, c3⟩ | ⟨c1, c3, c2⟩
    all_goals
      simp only [c3, and_self, if_true, if_false] at hlvc
      simp (disch := (first | omega | (simp only [lnE, put_length] <;> omega) | (refine Fit.mono ‹Fit _ _ _› ?_; simp only [lnE, put_length] <;> omega) | (refine Fit.draw ‹Fit _ _ _› ?_ ?_ <;> (simp only [lnE, put_length] <;> omega)) | (refine Fit.hid1 ‹Fit _ _ _› ?_ ?_ <;> (simp only [lnE, put_length] <;> omega)) | (refine Fit.draw1 ‹Fit _ _ _› ?_ ?_ ?_ <;> (simp only [lnE, put_length] <;> omega)) | (refine Fit.range0 ?_ ?_ <;> (simp only [lnE, put_length] <;> omega)) | (refine ArOk.mono ‹ArOk _ _ _ _ _› ?_; simp only [lnE, put_length] <;> omega) | (refine ArOk.hid ‹ArOk _ _ _ _ _› ?_ ?_ <;> (simp only [lnE, put_length] <;> omega)) | (refine ArOk.hid0 ‹ArOk _ _ _ _ _› ?_ ?_ <;> (simp only [lnE, put_length] <;> omega)) | (intro xr hxr; simp [AM.refs, refsF, refsC] at hxr; simp only [lnE, put_length] <;> omega) | fail)) only [syA, List.isEmpty_nil, List.isEmpty_cons, List.nil_append, argFr, D, E, T, C, undefv, eqF, aeq, sheqs, sheq, Option.isNone_none, Option.isNone_some, Option.getD_some, Option.getD_none, rdCells, cellsOf, fill, putAt, if_true, if_false, reduceIte, ↓reduceIte, reduceCtorEq, decide_true, decide_false, decide_eq_true_eq, decide_eq_false_iff_not, decide_not, Bool.not_true, Bool.not_false, Bool.not_not, Bool.not_eq_true', Bool.and_true, Bool.true_and, Bool.and_false, Bool.false_and, Bool.and_self, Bool.or_true, Bool.true_or, Bool.or_false, Bool.false_or, Bool.or_self, Bool.false_eq_true, Bool.and_eq_true, Bool.or_eq_true, and_true, true_and, and_false, false_and, or_true, true_or, or_false, false_or, not_true_eq_false, not_false_eq_true, eq_self, Option.map_some, Option.map_none, Option.bind_some, Option.bind_none, Nat.reduceEqDiff, Nat.reduceAdd, Nat.reduceSub, Nat.reduceMul, Nat.reduceLT, Nat.reduceLeDiff, Nat.reducePow, Nat.testBit_eq_decide_div_mod_eq, Nat.reduceDiv, Nat.reduceMod, Nat.zero_add, Nat.add_zero, Nat.sub_self, Nat.le_refl, Nat.lt_irrefl, Nat.mul_one, Int.mul_one, Int.one_mul, Int.sub_zero, Int.add_zero, Int.zero_add, Int.reduceLT, Int.reduceLE, Int.reduceGT, Int.reduceGE, Int.reduceToNat, Int.reducePow, Int.reduceNeg, Int.reduceBEq, Int.reduceBNe, Int.reduceEq, Int.reduceAdd, Int.reduceSub, Int.reduceMul, beq_iff_eq, bne_iff_ne, bne_self_eq_false, bne_eq_false_iff_eq, beq_eq_false_iff_ne, ne_eq, beq_self_eq_true, List.all_cons, List.all_nil, cellv, sc, flatv, refs, refsF, refsC, List.flatMap_cons, List.flatMap_nil, List.append_nil, List.append_assoc, List.cons_append, List.length_append, List.length_set, Int.cast_ofNat_Int, List.length_cons, List.length_nil, List.getElem?_cons_zero, List.getElem?_cons_succ, List.set_cons_zero, List.set_cons_succ, List.take_succ_cons, List.take_zero, List.drop_zero, List.drop_succ_cons, List.contains_nil, Int.toNat_natCast, Int.lt_irrefl, Nat.min_eq_left, Nat.min_eq_right, syR, Int.le_refl, hF.not0, hF.not1, hF.up0, hF.up1, k.hr, k.hq, ac4, hlen, h1, wakes_walk, new_walk, take_walk, htk, st, release_walk, hrel, hlive, c1, c2, c3, hbad, n2, peak_walk, mark_walk, hcp, hcv, hlvc]
      exact gc_bool _ _ _ _ _ _
  have n2 : n ≥ 0 := by omega
  by_cases n3 : n > 200 - (lv : Int)
  · have hbad : (Arn.cutd 200 l lv).taken n = (Arn.cutd 200 l lv, 0, 0, 10) := by
      simp only [Arn.taken, hcl, hcv]; rw [if_neg n1, if_pos (by omega)]
    have n4 : ¬ n ≤ 200 - (lv : Int) := by omega
    rcases hcases with ⟨c1, c2, c3⟩ | ⟨c1, c2, c3⟩ | ⟨c1, c3, c2⟩
    all_goals
      simp only [c3, and_self, if_true, if_false] at hlvc
      rw [hlvc] at n4
      simp (disch := (first | omega | (simp only [lnE, put_length] <;> omega) | (refine Fit.mono ‹Fit _ _ _› ?_; simp only [lnE, put_length] <;> omega) | (refine Fit.draw ‹Fit _ _ _› ?_ ?_ <;> (simp only [lnE, put_length] <;> omega)) | (refine Fit.hid1 ‹Fit _ _ _› ?_ ?_ <;> (simp only [lnE, put_length] <;> omega)) | (refine Fit.draw1 ‹Fit _ _ _› ?_ ?_ ?_ <;> (simp only [lnE, put_length] <;> omega)) | (refine Fit.range0 ?_ ?_ <;> (simp only [lnE, put_length] <;> omega)) | (refine ArOk.mono ‹ArOk _ _ _ _ _› ?_; simp only [lnE, put_length] <;> omega) | (refine ArOk.hid ‹ArOk _ _ _ _ _› ?_ ?_ <;> (simp only [lnE, put_length] <;> omega)) | (refine ArOk.hid0 ‹ArOk _ _ _ _ _› ?_ ?_ <;> (simp only [lnE, put_length] <;> omega)) | (intro xr hxr; simp [AM.refs, refsF, refsC] at hxr; simp only [lnE, put_length] <;> omega) | fail)) only [syA, List.isEmpty_nil, List.isEmpty_cons, List.nil_append, argFr, D, E, T, C, undefv, eqF, aeq, sheqs, sheq, Option.isNone_none, Option.isNone_some, Option.getD_some, Option.getD_none, rdCells, cellsOf, fill, putAt, if_true, if_false, reduceIte, ↓reduceIte, reduceCtorEq, decide_true, decide_false, decide_eq_true_eq, decide_eq_false_iff_not, decide_not, Bool.not_true, Bool.not_false, Bool.not_not, Bool.not_eq_true', Bool.and_true, Bool.true_and, Bool.and_false, Bool.false_and, Bool.and_self, Bool.or_true, Bool.true_or, Bool.or_false, Bool.false_or, Bool.or_self, Bool.false_eq_true, Bool.and_eq_true, Bool.or_eq_true, and_true, true_and, and_false, false_and, or_true, true_or, or_false, false_or, not_true_eq_false, not_false_eq_true, eq_self, Option.map_some, Option.map_none, Option.bind_some, Option.bind_none, Nat.reduceEqDiff, Nat.reduceAdd, Nat.reduceSub, Nat.reduceMul, Nat.reduceLT, Nat.reduceLeDiff, Nat.reducePow, Nat.testBit_eq_decide_div_mod_eq, Nat.reduceDiv, Nat.reduceMod, Nat.zero_add, Nat.add_zero, Nat.sub_self, Nat.le_refl, Nat.lt_irrefl, Nat.mul_one, Int.mul_one, Int.one_mul, Int.sub_zero, Int.add_zero, Int.zero_add, Int.reduceLT, Int.reduceLE, Int.reduceGT, Int.reduceGE, Int.reduceToNat, Int.reducePow, Int.reduceNeg, Int.reduceBEq, Int.reduceBNe, Int.reduceEq, Int.reduceAdd, Int.reduceSub, Int.reduceMul, beq_iff_eq, bne_iff_ne, bne_self_eq_false, bne_eq_false_iff_eq, beq_eq_false_iff_ne, ne_eq, beq_self_eq_true, List.all_cons, List.all_nil, cellv, sc, flatv, refs, refsF, refsC, List.flatMap_cons, List.flatMap_nil, List.append_nil, List.append_assoc, List.cons_append, List.length_append, List.length_set, Int.cast_ofNat_Int, List.length_cons, List.length_nil, List.getElem?_cons_zero, List.getElem?_cons_succ, List.set_cons_zero, List.set_cons_succ, List.take_succ_cons, List.take_zero, List.drop_zero, List.drop_succ_cons, List.contains_nil, Int.toNat_natCast, Int.lt_irrefl, Nat.min_eq_left, Nat.min_eq_right, syR, Int.le_refl, hF.not0, hF.not1, hF.up0, hF.up1, k.hr, k.hq, ac4, hlen, h1, wakes_walk, new_walk, take_walk, htk, st, release_walk, hrel, hlive, c1, c2, c3, hbad, n2, n4, peak_walk, mark_walk, hcp, hcv, hlvc]
      exact gc_bool _ _ _ _ _ _
  obtain ⟨x, rfl⟩ : ∃ x : Nat, n = x := ⟨n.toNat, by omega⟩
  have hgood := cutd_taken (lv := lv) (n := x) hl2 (by omega)
  have k4 := k3.take (n := x) (by omega) (by rw [hcl, hcv]; omega)
  obtain ⟨l1, l2, l3, l4⟩ := cutd_load (lv := lv) (n := x) hl2 hlv (by omega)
  have n4 : (x : Int) ≤ 200 - (lv : Int) := by omega
  generalize (Arn.cutd 200 l lv).take x = B at *
  obtain ⟨w, hw1, hw2⟩ := hr.upto hlv
  have hws : ∀ nw A L d, St.str ⟨put (hp ++ nw) hp.length (hp.length + 1) A, L, [], d⟩ w = some (b8 (l.take lv)) := fun nw A L d => (hw2.put (Nat.le_refl _) (by omega)).str
  have hzl : By (List.replicate x 0) := fun y hy => by rw [List.mem_replicate] at hy; omega
  have hlz : (List.replicate x 0).length = x := by simp
  have r1 : ∀ a b : Int, Rd ⟨put (hp ++ [default, default, .cells 0 true [.int .i64 0, .int .i64 l.length], .cells 0 true [.int .i64 a, .int .i64 b], .cells x true (u8s (List.replicate x 0))]) hp.length (hp.length + 1) B, hp.length, [], []⟩ (.slice (some ⟨hp.length + 4, 0, some x⟩) x 1) (List.replicate x 0) := fun a b => by
    have := Rd.whole (e := 1) (g := x) (pl := true) (L := hp.length) (H := []) (d := []) (b := hp.length + 4) (hp := put (hp ++ [default, default, .cells 0 true [.int .i64 0, .int .i64 l.length], .cells 0 true [.int .i64 a, .int .i64 b], .cells x true (u8s (List.replicate x 0))]) hp.length (hp.length + 1) B) (l := List.replicate x 0) (by rw [put_o (by omega) (by omega), get_new]; rfl) rfl hzl (.inr rfl)
    rwa [hlz] at this
  rcases hcases with ⟨c1, c2, c3⟩ | ⟨c1, c2, c3⟩ | ⟨c1, c3, c2⟩
  all_goals
    simp only [c3, and_self, if_true, if_false] at hlvc
    obtain ⟨fr, g0, g1, g2, g3, g4, g5⟩ := zeros_loop (r1 lv x) (by omega) (u := arP hp.length) (v := v) (w := .int .i64 lv) (x := .int .i64 x) x 0 (by omega)
    simp only [put_length, List.length_append, List.length_cons, List.length_nil, Nat.zero_add, Nat.reduceAdd, Int.natCast_zero] at g0
    have hpk : ¬ (max (l.length : Int) (lv + x) < l.length) := by omega
    rw [hlvc] at hgood l1 l2 l3 l4 n4 hw1 g0 g4 hpk
    simp (disch := (first | omega | (simp only [lnE, put_length] <;> omega) | (refine Fit.mono ‹Fit _ _ _› ?_; simp only [lnE, put_length] <;> omega) | (refine Fit.draw ‹Fit _ _ _› ?_ ?_ <;> (simp only [lnE, put_length] <;> omega)) | (refine Fit.hid1 ‹Fit _ _ _› ?_ ?_ <;> (simp only [lnE, put_length] <;> omega)) | (refine Fit.draw1 ‹Fit _ _ _› ?_ ?_ ?_ <;> (simp only [lnE, put_length] <;> omega)) | (refine Fit.range0 ?_ ?_ <;> (simp only [lnE, put_length] <;> omega)) | (refine ArOk.mono ‹ArOk _ _ _ _ _› ?_; simp only [lnE, put_length] <;> omega) | (refine ArOk.hid ‹ArOk _ _ _ _ _› ?_ ?_ <;> (simp only [lnE, put_length] <;> omega)) | (refine ArOk.hid0 ‹ArOk _ _ _ _ _› ?_ ?_ <;> (simp only [lnE, put_length] <;> omega)) | (intro xr hxr; simp [AM.refs, refsF, refsC] at hxr; simp only [lnE, put_length] <;> omega) | fail)) only [syA, List.isEmpty_nil, List.isEmpty_cons, List.nil_append, argFr, D, E, T, C, undefv, eqF, aeq, sheqs, sheq, Option.isNone_none, Option.isNone_some, Option.getD_some, Option.getD_none, rdCells, cellsOf, fill, putAt, if_true, if_false, reduceIte, ↓reduceIte, reduceCtorEq, decide_true, decide_false, decide_eq_true_eq, decide_eq_false_iff_not, decide_not, Bool.not_true, Bool.not_false, Bool.not_not, Bool.not_eq_true', Bool.and_true, Bool.true_and, Bool.and_false, Bool.false_and, Bool.and_self, Bool.or_true, Bool.true_or, Bool.or_false, Bool.false_or, Bool.or_self, Bool.false_eq_true, Bool.and_eq_true, Bool.or_eq_true, and_true, true_and, and_false, false_and, or_true, true_or, or_false, false_or, not_true_eq_false, not_false_eq_true, eq_self, Option.map_some, Option.map_none, Option.bind_some, Option.bind_none, Nat.reduceEqDiff, Nat.reduceAdd, Nat.reduceSub, Nat.reduceMul, Nat.reduceLT, Nat.reduceLeDiff, Nat.reducePow, Nat.testBit_eq_decide_div_mod_eq, Nat.reduceDiv, Nat.reduceMod, Nat.zero_add, Nat.add_zero, Nat.sub_self, Nat.le_refl, Nat.lt_irrefl, Nat.mul_one, Int.mul_one, Int.one_mul, Int.sub_zero, Int.add_zero, Int.zero_add, Int.reduceLT, Int.reduceLE, Int.reduceGT, Int.reduceGE, Int.reduceToNat, Int.reducePow, Int.reduceNeg, Int.reduceBEq, Int.reduceBNe, Int.reduceEq, Int.reduceAdd, Int.reduceSub, Int.reduceMul, beq_iff_eq, bne_iff_ne, bne_self_eq_false, bne_eq_false_iff_eq, beq_eq_false_iff_ne, ne_eq, beq_self_eq_true, List.all_cons, List.all_nil, cellv, sc, flatv, refs, refsF, refsC, List.flatMap_cons, List.flatMap_nil, List.append_nil, List.append_assoc, List.cons_append, List.length_append, List.length_set, Int.cast_ofNat_Int, List.length_cons, List.length_nil, List.getElem?_cons_zero, List.getElem?_cons_succ, List.set_cons_zero, List.set_cons_succ, List.take_succ_cons, List.take_zero, List.drop_zero, List.drop_succ_cons, List.contains_nil, Int.toNat_natCast, Int.lt_irrefl, Nat.min_eq_left, Nat.min_eq_right, syR, Int.le_refl, hF.not0, hF.not1, hF.up0, hF.up1, k.hr, k.hq, ac4, hlen, h1, wakes_walk, new_walk, take_walk, htk, st, release_walk, hrel, hlive, c1, c2, c3, hgood, n2, n4, peak_walk, mark_walk, l3, l4, hpk, load_walk, l1, l2, hlz, sl_some, slB_some, g0, g1, g2, g3, g4, g5, hw1, hws]
    exact gc_bool _ _ _ _ _ _
end ArA
end Go.Proofs.Ytfefeikkjebfoaa
