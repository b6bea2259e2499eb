/-
  LENGTH TABLES: the reference's Valid, on the abstract machine: its loops. Conditions: none.
-/
import Derived.Test.YtlphmnhkkhcjfaaLtQ
set_option linter.all false
section
namespace Go.Proofs.Ytlphmnhkkhcjfaa
namespace LtA
open Go Go.RowKit AM ArEnv Bt
variable {hp : List Blk} {L : Nat} {H d : List Nat}

/-! ### The bits are run -/
def RunEnd (r : Option Ts) (ex : Ex) (fr : Fr) (hp : List Blk) (Cb : Blk) (rest : List Blk) (st : List Blk) : Prop :=
  (∃ fin, r = some fin ∧ ex = .exit 6 ∧ st = hp ++ Cb :: .cells 0 true (tsC fin) :: rest ∧ fin.l.length = 258 ∧ fr.get 1 = some (.pointer (some ⟨hp.length, 0, some 0⟩)) ∧ fr.get 3 = some (.pointer (some ⟨hp.length + 1, 0, some 0⟩))) ∨
  (r = none ∧ ex = .ret ∧ fr.get 2 = some (.bool false) ∧ ∃ nw, st = hp ++ nw)
theorem run_loop {A : List Nat} {g : Nat} {Cb : Blk} {rest : List Blk} (hA : Bits A) (hr : rest[0]? = some (.cells g true (is A))) (hAl : A.length ≤ 200000) (hF : Fit hp.length L H) : ∀ (k i : Nat) (o : Ts), i + k = A.length → Come o i →
    ∃ ex fr st, Liter env lb19_0 [10, 1, 3, 7] (hp.length + (rest.length + 2)) [(10, .int .i64 i), (1, .pointer (some ⟨hp.length, 0, some 0⟩)), (3, .pointer (some ⟨hp.length + 1, 0, some 0⟩)), (7, .slice (some ⟨hp.length + 2, 0, some g⟩) A.length 1)] ⟨hp ++ Cb :: .cells 0 true (tsC o) :: rest, L, H, []⟩
      = some (ex, fr, ⟨st, L, H, []⟩) ∧ RunEnd (trail o (A.drop i)) ex fr hp Cb rest st
  | 0, i, o, hi, ho => by
    obtain rfl : i = A.length := by omega
    rw [List.drop_length, trail, iter_by lb19_0.eq_1]
    simp (disch := (first | omega | (simp only [lnE] <;> omega) | (refine Fit.mono ‹Fit _ _ _› ?_ <;> (simp only [lnE] <;> omega)) | (refine Fit.draw ‹Fit _ _ _› ?_ ?_ <;> (simp only [lnE] <;> omega)) | (refine Fit.hid1 ‹Fit _ _ _› ?_ ?_ <;> (simp only [lnE] <;> omega)) | (refine Fit.hidc1 ‹Fit _ _ _› ?_ ?_ <;> (simp only [lnE] <;> omega)) | (refine Fit.hidc2 ‹Fit _ _ _› ?_ ?_ ?_ <;> (simp only [lnE] <;> omega)) | (refine Fit.draw1 ‹Fit _ _ _› ?_ ?_ ?_ <;> (simp only [lnE] <;> omega)) | (refine Fit.range0 ?_ ?_ <;> (simp only [lnE] <;> omega)) | fail)) only [syA, syB, argFr, D, E, T, C, undefv, eqF, aeq, sheqs, sheq, rdCells, cellsOf, fill, putAt, if_true, if_false, reduceIte, ↓reduceIte, reduceCtorEq, eq_self, Nat.reduceEqDiff, Nat.reduceAdd, Nat.reduceSub, Nat.reduceMul, Nat.reduceLT, Nat.reduceLeDiff, Nat.reducePow, Nat.reduceDiv, Nat.reduceMod, Int.reduceLT, Int.reduceLE, Int.reduceGT, Int.reduceGE, Int.reduceToNat, Int.reducePow, Int.reduceNeg, Int.reduceBEq, Int.reduceBNe, Int.reduceEq, Int.reduceAdd, Int.reduceSub, Int.reduceMul, cellv, sc, flatv, refs, refsF, refsC, hF.not0, hF.not1, hF.up0, hF.up1]
    exact ⟨_, _, _, rfl, .inl ⟨o, rfl, rfl, rfl, ho.len, rfl, rfl⟩⟩
  | k + 1, i, o, hi, ho => by
    have hil : i < A.length := by omega
    have i1 : (i : Int) < (A.length : Nat) := by omega
    have i0 : (0 : Int) ≤ (i : Int) := by omega
    have hlo := ho.len
    have ty := tsC_sym hlo
    rw [List.drop_eq_getElem_cons hil]
    have hg2 : (Cb :: Blk.cells 0 true (tsC o) :: rest)[2]? = some (.cells g true (is A)) := by simpa using hr
    by_cases hs : o.sym = 258
    · rw [hs] at ty
      rw [trail, if_neg (by omega), iter_by lb19_0.eq_1]
      simp (disch := (first | omega | (simp only [lnE] <;> omega) | (refine Fit.mono ‹Fit _ _ _› ?_ <;> (simp only [lnE] <;> omega)) | (refine Fit.draw ‹Fit _ _ _› ?_ ?_ <;> (simp only [lnE] <;> omega)) | (refine Fit.hid1 ‹Fit _ _ _› ?_ ?_ <;> (simp only [lnE] <;> omega)) | (refine Fit.hidc1 ‹Fit _ _ _› ?_ ?_ <;> (simp only [lnE] <;> omega)) | (refine Fit.hidc2 ‹Fit _ _ _› ?_ ?_ ?_ <;> (simp only [lnE] <;> omega)) | (refine Fit.draw1 ‹Fit _ _ _› ?_ ?_ ?_ <;> (simp only [lnE] <;> omega)) | (refine Fit.range0 ?_ ?_ <;> (simp only [lnE] <;> omega)) | fail)) only [syA, syB, argFr, D, E, T, C, undefv, eqF, aeq, sheqs, sheq, rdCells, cellsOf, fill, putAt, if_true, if_false, reduceIte, ↓reduceIte, reduceCtorEq, eq_self, Nat.reduceEqDiff, Nat.reduceAdd, Nat.reduceSub, Nat.reduceMul, Nat.reduceLT, Nat.reduceLeDiff, Nat.reducePow, Nat.reduceDiv, Nat.reduceMod, Int.reduceLT, Int.reduceLE, Int.reduceGT, Int.reduceGE, Int.reduceToNat, Int.reducePow, Int.reduceNeg, Int.reduceBEq, Int.reduceBNe, Int.reduceEq, Int.reduceAdd, Int.reduceSub, Int.reduceMul, cellv, sc, flatv, refs, refsF, refsC, hF.not0, hF.not1, hF.up0, hF.up1, i0, i1, ty, tsC_length hlo]
      exact ⟨_, _, _, rfl, .inr ⟨rfl, rfl, rfl, _, rfl⟩⟩
    · have hs2 : o.sym < 258 := by
        rcases ho with hh | ⟨f, hh⟩
        · have := hh.sym; omega
        · have := hh.sym1; omega
      have hok := ho.ok hs2
      have hb2 := hA A[i] (List.getElem_mem hil)
      have hW := fun hp L H d hF => way_walk (hp := hp) (L := L) (H := H) (d := d) hok hb2 hF
      have hz := zs_length
      have lz : (tsC z0).length = 262 := tsC_length (c := z0) hz
      have z0q : u8s zs ++ [.int .i64 0, .int .i64 0, .int .i64 0, .int .i64 0] = tsC z0 := rfl
      have hlw := wyF_len (b := A[i]) hlo
      have hwy := wyF_ok (c := o) (b := A[i])
      have hnx := ho.next (b := A[i]) hs2 hb2
      have po : putAt (tsC z0) 0 (tsC (wyF o A[i])) = tsC (wyF o A[i]) := putAt_full (by rw [lz, tsC_length hlw])
      have po2 : putAt (tsC o) 0 (tsC (wyF o A[i])) = tsC (wyF o A[i]) := putAt_full (by rw [tsC_length hlo, tsC_length hlw])
      have hcell : (is A)[i]? = some (.int .i64 (A[i] : Nat)) := by simp [is, hil]
      have hrl := (List.getElem?_eq_some_iff.1 hr).1
      rw [trail]
      cases hf : (nextF o A[i]).2 with
      | false =>
        rw [if_neg (by simp)]
        rw [hf] at hW
        generalize wyF o A[i] = o2 at *
        generalize A[i] = b at *
        rw [iter_by lb19_0.eq_1]
        simp (disch := (first | omega | (simp only [lnE] <;> omega) | (refine Fit.mono ‹Fit _ _ _› ?_ <;> (simp only [lnE] <;> omega)) | (refine Fit.draw ‹Fit _ _ _› ?_ ?_ <;> (simp only [lnE] <;> omega)) | (refine Fit.hid1 ‹Fit _ _ _› ?_ ?_ <;> (simp only [lnE] <;> omega)) | (refine Fit.hidc1 ‹Fit _ _ _› ?_ ?_ <;> (simp only [lnE] <;> omega)) | (refine Fit.hidc2 ‹Fit _ _ _› ?_ ?_ ?_ <;> (simp only [lnE] <;> omega)) | (refine Fit.draw1 ‹Fit _ _ _› ?_ ?_ ?_ <;> (simp only [lnE] <;> omega)) | (refine Fit.range0 ?_ ?_ <;> (simp only [lnE] <;> omega)) | fail)) only [syA, syB, argFr, D, E, T, C, undefv, eqF, aeq, sheqs, sheq, rdCells, cellsOf, fill, putAt, if_true, if_false, reduceIte, ↓reduceIte, reduceCtorEq, eq_self, Nat.reduceEqDiff, Nat.reduceAdd, Nat.reduceSub, Nat.reduceMul, Nat.reduceLT, Nat.reduceLeDiff, Nat.reducePow, Nat.reduceDiv, Nat.reduceMod, Int.reduceLT, Int.reduceLE, Int.reduceGT, Int.reduceGE, Int.reduceToNat, Int.reducePow, Int.reduceNeg, Int.reduceBEq, Int.reduceBNe, Int.reduceEq, Int.reduceAdd, Int.reduceSub, Int.reduceMul, cellv, sc, flatv, refs, refsF, refsC, hF.not0, hF.not1, hF.up0, hF.up1, i0, i1, ty, hs, hg2, hcell, hW, zs_eq, z0q, lz, po, tsC_take hlo, tsC_length hlo, tsC_take hlw, tsC_length hlw, tsC_refs, tsC_cellv, tsC_sc]
        exact ⟨_, _, _, rfl, .inr ⟨rfl, rfl, rfl, _, rfl⟩⟩
      | true =>
        rw [if_pos ⟨hs2, rfl⟩]
        rw [hf] at hW
        have hn2 := hnx hf
        rw [← hwy hf] at hn2 ⊢
        obtain ⟨ex, fr, st, f1, f2⟩ := run_loop (Cb := Cb) hA hr hAl hF k (i + 1) (wyF o A[i]) (by omega) hn2
        simp only [Int.natCast_add, Int.natCast_one] at f1
        generalize wyF o A[i] = o2 at *
        generalize A[i] = b at *
        have hget : ∀ (x : Blk), (Cb :: x :: (rest ++ [Blk.cells 0 true (tsC o2)])).take (rest.length + 2) = Cb :: x :: rest := fun x => by simp
        rw [iter_by lb19_0.eq_1]
        simp (disch := (first | omega | (simp only [lnE] <;> omega) | (refine Fit.mono ‹Fit _ _ _› ?_ <;> (simp only [lnE] <;> omega)) | (refine Fit.draw ‹Fit _ _ _› ?_ ?_ <;> (simp only [lnE] <;> omega)) | (refine Fit.hid1 ‹Fit _ _ _› ?_ ?_ <;> (simp only [lnE] <;> omega)) | (refine Fit.hidc1 ‹Fit _ _ _› ?_ ?_ <;> (simp only [lnE] <;> omega)) | (refine Fit.hidc2 ‹Fit _ _ _› ?_ ?_ ?_ <;> (simp only [lnE] <;> omega)) | (refine Fit.draw1 ‹Fit _ _ _› ?_ ?_ ?_ <;> (simp only [lnE] <;> omega)) | (refine Fit.range0 ?_ ?_ <;> (simp only [lnE] <;> omega)) | fail)) only [syA, syB, argFr, D, E, T, C, undefv, eqF, aeq, sheqs, sheq, rdCells, cellsOf, fill, putAt, if_true, if_false, reduceIte, ↓reduceIte, reduceCtorEq, eq_self, Nat.reduceEqDiff, Nat.reduceAdd, Nat.reduceSub, Nat.reduceMul, Nat.reduceLT, Nat.reduceLeDiff, Nat.reducePow, Nat.reduceDiv, Nat.reduceMod, Int.reduceLT, Int.reduceLE, Int.reduceGT, Int.reduceGE, Int.reduceToNat, Int.reducePow, Int.reduceNeg, Int.reduceBEq, Int.reduceBNe, Int.reduceEq, Int.reduceAdd, Int.reduceSub, Int.reduceMul, cellv, sc, flatv, refs, refsF, refsC, hF.not0, hF.not1, hF.up0, hF.up1, i0, i1, ty, hs, hg2, hcell, hW, zs_eq, z0q, lz, po, po2, tsC_take hlo, tsC_length hlo, tsC_take hlw, tsC_length hlw, tsC_refs, tsC_cellv, tsC_sc]
        rw [gcFr_cut (rest.length + 2) (by simp) (by
          intro p hp' r hr
          simp only [List.mem_cons, List.not_mem_nil, or_false] at hp'
          rcases hp' with rfl | rfl | rfl | rfl
          · simp [refs, refsF, refsC] at hr
          · simp [refs, refsF, refsC] at hr; omega
          · simp [refs, refsF, refsC] at hr; omega
          · simp [refs, refsF, refsC] at hr; omega)]
        simp only [hget, againX_some]
        exact ⟨ex, fr, st, f1, f2⟩
/-! ### The bits are built -/
theorem build_loop {c : Ts} {Ob : Blk} {m : Nat} (hG : Gs c) (hm : c.sym = m) (hm2 : m ≤ 258) (h15 : ∀ s, s < m → c.l.getD s 0 ≤ 15) (hF : Fit hp.length L H) : ∀ (n i was g : Nat) (A : List Nat), i + n = m → was ≤ 15 → A.length + 511 * n ≤ 200000 → ∃ fr g2,
    Liter env lb19_1 [7, 6, 8, 3, 1] (hp.length + 3) [(7, .slice (some ⟨hp.length + 2, 0, some g⟩) A.length 1), (6, .int .i64 was), (8, .int .i64 i), (3, .pointer (some ⟨hp.length + 1, 0, some 0⟩)), (1, .pointer (some ⟨hp.length, 0, some 0⟩))] ⟨hp ++ [.cells 0 true (tsC c), Ob, .cells g true (is A)], L, H, []⟩
      = some (.exit 4, fr, ⟨hp ++ [.cells 0 true (tsC c), Ob, .cells g2 true (is (A ++ adj c.l n i was))], L, H, []⟩) ∧ fr.get 7 = some (.slice (some ⟨hp.length + 2, 0, some g2⟩) (A ++ adj c.l n i was).length 1) ∧ fr.get 6 = some (.int .i64 (lastW c.l was i n : Nat)) ∧ fr.get 3 = some (.pointer (some ⟨hp.length + 1, 0, some 0⟩)) ∧ fr.get 1 = some (.pointer (some ⟨hp.length, 0, some 0⟩))
  | 0, i, was, g, A, e, hw, hs => by
    obtain rfl : i = m := by omega
    have hl := hG.len
    have ty := tsC_sym hl
    rw [hm] at ty
    rw [iter_by lb19_1.eq_1, adj, List.append_nil]
    simp (disch := (first | omega | (simp only [lnE] <;> omega) | (refine Fit.mono ‹Fit _ _ _› ?_ <;> (simp only [lnE] <;> omega)) | (refine Fit.draw ‹Fit _ _ _› ?_ ?_ <;> (simp only [lnE] <;> omega)) | (refine Fit.hid1 ‹Fit _ _ _› ?_ ?_ <;> (simp only [lnE] <;> omega)) | (refine Fit.hidc1 ‹Fit _ _ _› ?_ ?_ <;> (simp only [lnE] <;> omega)) | (refine Fit.hidc2 ‹Fit _ _ _› ?_ ?_ ?_ <;> (simp only [lnE] <;> omega)) | (refine Fit.draw1 ‹Fit _ _ _› ?_ ?_ ?_ <;> (simp only [lnE] <;> omega)) | (refine Fit.range0 ?_ ?_ <;> (simp only [lnE] <;> omega)) | fail)) only [syA, syB, argFr, D, E, T, C, undefv, eqF, aeq, sheqs, sheq, rdCells, cellsOf, fill, putAt, if_true, if_false, reduceIte, ↓reduceIte, reduceCtorEq, eq_self, Nat.reduceEqDiff, Nat.reduceAdd, Nat.reduceSub, Nat.reduceMul, Nat.reduceLT, Nat.reduceLeDiff, Nat.reducePow, Nat.reduceDiv, Nat.reduceMod, Int.reduceLT, Int.reduceLE, Int.reduceGT, Int.reduceGE, Int.reduceToNat, Int.reducePow, Int.reduceNeg, Int.reduceBEq, Int.reduceBNe, Int.reduceEq, Int.reduceAdd, Int.reduceSub, Int.reduceMul, cellv, sc, flatv, refs, refsF, refsC, hF.not0, hF.not1, hF.up0, hF.up1, ty]
    exact ⟨_, _, rfl, rfl, rfl, rfl, rfl⟩
  | n + 1, i, was, g, A, e, hw, hs => by
    have hl := hG.len
    have hi : i < c.l.length := by omega
    have hi1 : (i : Int) < 258 := by omega
    have him : (i : Int) < (m : Nat) := by omega
    have hi0 : (0 : Int) ≤ (i : Int) := by omega
    have hgd : c.l.getD i 0 = c.l[i] := by rw [List.getD_eq_getElem?_getD, List.getElem?_eq_getElem hi]; rfl
    have hb : c.l[i] ≤ 15 := by rw [← hgd]; exact h15 i (by omega)
    have ty := tsC_sym hl
    rw [hm] at ty
    have hc : (tsC c)[i]? = some (.int .u8 (c.l[i] : Nat)) := by
      unfold tsC
      rw [List.getElem?_append_left (by rw [u8s_length]; omega), At258 hi]
    have hcl := chg_length (was := was) (now := c.l[i]) (by omega) (by omega)
    have hcl0 : (chg was c.l[i]).length ≠ 0 := by rw [chg_mv, List.length_append]; simp
    have hPt := fun d => ltput_walk (d := d) (hp := hp ++ [.cells 0 true (tsC c), Ob, .cells g true (is A)]) (L := L) (H := H) (was := was) (now := c.l[i]) (by omega) (by omega) (hF.mono (by simp))
    simp only [List.length_append, List.length_cons, List.length_nil, Nat.zero_add, Nat.reduceAdd, List.append_assoc, List.cons_append, List.nil_append] at hPt
    obtain ⟨fr, g2, f1, f2, f3, f4⟩ := build_loop (Ob := Ob) hG hm hm2 h15 hF n (i + 1) c.l[i] (A ++ chg was c.l[i]).length (A ++ chg was c.l[i]) (by omega) hb (by rw [List.length_append]; omega)
    have hadj : A ++ adj c.l (n + 1) i was = A ++ chg was c.l[i] ++ adj c.l n (i + 1) c.l[i] := by rw [adj, hgd, List.append_assoc]
    have hlw : lastW c.l was i (n + 1) = lastW c.l c.l[i] (i + 1) n := by
      cases n with
      | zero => show c.l.getD (i + 0) 0 = c.l[i]; exact hgd
      | succ n => simp only [lastW]; congr 1; omega
    rw [hadj, hlw]
    have happ := append_isg (hp := hp ++ [.cells 0 true (tsC c), Ob, .cells g true (is A), .cells (chg was c.l[i]).length true (is (chg was c.l[i]))]) (L := L) (H := H) (d := []) (b := hp.length + 2) (g := g) (l := A) (m := chg was c.l[i]) (by rw [get_new]; rfl) (by have := hF.1; omega) (hF.not1 2) hcl0 (by omega)
    rw [set_new] at happ
    simp only [List.set_cons_succ, List.set_cons_zero] at happ
    have hlA : (A ++ chg was c.l[i]).length = A.length + (chg was c.l[i]).length := List.length_append
    rw [hlA] at f1
    simp only [Int.natCast_add, Int.natCast_one] at f1
    have hci : (is (chg was c.l[i])).length = (chg was c.l[i]).length := is_length _
    have hct : (is (chg was c.l[i])).take (chg was c.l[i]).length = is (chg was c.l[i]) := List.take_of_length_le (by omega)
    have hle : ((chg was c.l[i]).length ≤ (chg was c.l[i]).length) = True := eq_true (Nat.le_refl _)
    rw [iter_by lb19_1.eq_1]
    refine ⟨fr, g2, ?_, f2, f3, f4⟩
    have i261 : i ≤ 261 := by omega
    clear hadj hgd hlw f2 f3
    generalize c.l[i] = y at *
    generalize chg was y = cg at *
    generalize A ++ cg ++ adj c.l n (i + 1) y = RR at *
    simp (disch := (first | omega | (simp only [lnE] <;> omega) | (refine Fit.mono ‹Fit _ _ _› ?_ <;> (simp only [lnE] <;> omega)) | (refine Fit.draw ‹Fit _ _ _› ?_ ?_ <;> (simp only [lnE] <;> omega)) | (refine Fit.hid1 ‹Fit _ _ _› ?_ ?_ <;> (simp only [lnE] <;> omega)) | (refine Fit.hidc1 ‹Fit _ _ _› ?_ ?_ <;> (simp only [lnE] <;> omega)) | (refine Fit.hidc2 ‹Fit _ _ _› ?_ ?_ ?_ <;> (simp only [lnE] <;> omega)) | (refine Fit.draw1 ‹Fit _ _ _› ?_ ?_ ?_ <;> (simp only [lnE] <;> omega)) | (refine Fit.range0 ?_ ?_ <;> (simp only [lnE] <;> omega)) | fail)) only [syA, syB, argFr, D, E, T, C, undefv, eqF, aeq, sheqs, sheq, rdCells, cellsOf, fill, putAt, if_true, if_false, reduceIte, ↓reduceIte, reduceCtorEq, eq_self, Nat.reduceEqDiff, Nat.reduceAdd, Nat.reduceSub, Nat.reduceMul, Nat.reduceLT, Nat.reduceLeDiff, Nat.reducePow, Nat.reduceDiv, Nat.reduceMod, Int.reduceLT, Int.reduceLE, Int.reduceGT, Int.reduceGE, Int.reduceToNat, Int.reducePow, Int.reduceNeg, Int.reduceBEq, Int.reduceBNe, Int.reduceEq, Int.reduceAdd, Int.reduceSub, Int.reduceMul, cellv, sc, flatv, refs, refsF, refsC, hF.not0, hF.not1, hF.up0, hF.up1, hi0, hi1, him, ty, hc, hPt, hci, hct, hle, happ]
    rw [gcFr_cut 3 (by simp) (by
      intro p hp' r hr
      simp only [List.mem_cons, List.not_mem_nil, or_false] at hp'
      rcases hp' with rfl | rfl | rfl | rfl | rfl
      · simp [refs, refsF, refsC] at hr; omega
      · simp [refs, refsF, refsC] at hr
      · simp [refs, refsF, refsC] at hr
      · simp [refs, refsF, refsC] at hr; omega
      · simp [refs, refsF, refsC] at hr; omega)]
    simp only [List.take_succ_cons, List.take_zero, againX_some]
    exact f1
/-! ### The lengths are looked at -/
theorem lens_loop {c : Ts} {Ob : Blk} {m : Nat} (hG : Gs c) (hm : c.sym = m) (hm2 : m ≤ 258) (hF : Fit hp.length L H) : ∀ (n i : Nat), i + n = m → (∀ s, s < i → c.l.getD s 0 ≤ 15) → ∃ ex fr,
    Liter env lb19_2 [1, 3, 5] (hp.length + 2) [(1, .pointer (some ⟨hp.length, 0, some 0⟩)), (3, .pointer (some ⟨hp.length + 1, 0, some 0⟩)), (5, .int .i64 i)] ⟨hp ++ [.cells 0 true (tsC c), Ob], L, H, []⟩
      = some (ex, fr, ⟨hp ++ [.cells 0 true (tsC c), Ob], L, H, []⟩) ∧ ((ex = .exit 2 ∧ (∀ s, s < m → c.l.getD s 0 ≤ 15) ∧ fr.get 1 = some (.pointer (some ⟨hp.length, 0, some 0⟩)) ∧ fr.get 3 = some (.pointer (some ⟨hp.length + 1, 0, some 0⟩))) ∨ (ex = .ret ∧ fr.get 2 = some (.bool false) ∧ ∃ s, s < m ∧ 15 < c.l.getD s 0))
  | 0, i, e, h => by
    obtain rfl : i = m := by omega
    have ty := tsC_sym hG.len
    rw [hm] at ty
    rw [iter_by lb19_2.eq_1]
    simp (disch := (first | omega | (simp only [lnE] <;> omega) | (refine Fit.mono ‹Fit _ _ _› ?_ <;> (simp only [lnE] <;> omega)) | (refine Fit.draw ‹Fit _ _ _› ?_ ?_ <;> (simp only [lnE] <;> omega)) | (refine Fit.hid1 ‹Fit _ _ _› ?_ ?_ <;> (simp only [lnE] <;> omega)) | (refine Fit.hidc1 ‹Fit _ _ _› ?_ ?_ <;> (simp only [lnE] <;> omega)) | (refine Fit.hidc2 ‹Fit _ _ _› ?_ ?_ ?_ <;> (simp only [lnE] <;> omega)) | (refine Fit.draw1 ‹Fit _ _ _› ?_ ?_ ?_ <;> (simp only [lnE] <;> omega)) | (refine Fit.range0 ?_ ?_ <;> (simp only [lnE] <;> omega)) | fail)) only [syA, syB, argFr, D, E, T, C, undefv, eqF, aeq, sheqs, sheq, rdCells, cellsOf, fill, putAt, if_true, if_false, reduceIte, ↓reduceIte, reduceCtorEq, eq_self, Nat.reduceEqDiff, Nat.reduceAdd, Nat.reduceSub, Nat.reduceMul, Nat.reduceLT, Nat.reduceLeDiff, Nat.reducePow, Nat.reduceDiv, Nat.reduceMod, Int.reduceLT, Int.reduceLE, Int.reduceGT, Int.reduceGE, Int.reduceToNat, Int.reducePow, Int.reduceNeg, Int.reduceBEq, Int.reduceBNe, Int.reduceEq, Int.reduceAdd, Int.reduceSub, Int.reduceMul, cellv, sc, flatv, refs, refsF, refsC, hF.not0, hF.not1, hF.up0, hF.up1, ty]
    exact ⟨_, _, rfl, .inl ⟨rfl, h, rfl, rfl⟩⟩
  | n + 1, i, e, h => by
    have hl := hG.len
    have ty := tsC_sym hl
    rw [hm] at ty
    have hi : i < c.l.length := by omega
    have hi1 : (i : Int) < 258 := by omega
    have him : (i : Int) < (m : Nat) := by omega
    have hi0 : (0 : Int) ≤ (i : Int) := by omega
    have hgd : c.l.getD i 0 = c.l[i] := by rw [List.getD_eq_getElem?_getD, List.getElem?_eq_getElem hi]; rfl
    have hc : (tsC c)[i]? = some (.int .u8 (c.l[i] : Nat)) := by
      unfold tsC
      rw [List.getElem?_append_left (by rw [u8s_length]; omega), At258 hi]
    rw [iter_by lb19_2.eq_1]
    by_cases c1 : c.l[i] > 15
    · have c2 : (c.l[i] : Int) > 15 := by omega
      simp (disch := (first | omega | (simp only [lnE] <;> omega) | (refine Fit.mono ‹Fit _ _ _› ?_ <;> (simp only [lnE] <;> omega)) | (refine Fit.draw ‹Fit _ _ _› ?_ ?_ <;> (simp only [lnE] <;> omega)) | (refine Fit.hid1 ‹Fit _ _ _› ?_ ?_ <;> (simp only [lnE] <;> omega)) | (refine Fit.hidc1 ‹Fit _ _ _› ?_ ?_ <;> (simp only [lnE] <;> omega)) | (refine Fit.hidc2 ‹Fit _ _ _› ?_ ?_ ?_ <;> (simp only [lnE] <;> omega)) | (refine Fit.draw1 ‹Fit _ _ _› ?_ ?_ ?_ <;> (simp only [lnE] <;> omega)) | (refine Fit.range0 ?_ ?_ <;> (simp only [lnE] <;> omega)) | fail)) only [syA, syB, argFr, D, E, T, C, undefv, eqF, aeq, sheqs, sheq, rdCells, cellsOf, fill, putAt, if_true, if_false, reduceIte, ↓reduceIte, reduceCtorEq, eq_self, Nat.reduceEqDiff, Nat.reduceAdd, Nat.reduceSub, Nat.reduceMul, Nat.reduceLT, Nat.reduceLeDiff, Nat.reducePow, Nat.reduceDiv, Nat.reduceMod, Int.reduceLT, Int.reduceLE, Int.reduceGT, Int.reduceGE, Int.reduceToNat, Int.reducePow, Int.reduceNeg, Int.reduceBEq, Int.reduceBNe, Int.reduceEq, Int.reduceAdd, Int.reduceSub, Int.reduceMul, cellv, sc, flatv, refs, refsF, refsC, hF.not0, hF.not1, hF.up0, hF.up1, hi0, hi1, him, ty, hc, c2]
      exact ⟨_, _, rfl, .inr ⟨rfl, rfl, i, by omega, by omega⟩⟩
    · have c2 : ¬ (c.l[i] : Int) > 15 := by omega
      obtain ⟨ex, fr, f1, f2⟩ := lens_loop (Ob := Ob) hG hm hm2 hF n (i + 1) (by omega) fun s hs => by
        rcases Nat.lt_or_ge s i with h3 | h3
        · exact h s h3
        · obtain rfl : s = i := by omega
          omega
      simp only [Int.natCast_add, Int.natCast_one] at f1
      simp (disch := (first | omega | (simp only [lnE] <;> omega) | (refine Fit.mono ‹Fit _ _ _› ?_ <;> (simp only [lnE] <;> omega)) | (refine Fit.draw ‹Fit _ _ _› ?_ ?_ <;> (simp only [lnE] <;> omega)) | (refine Fit.hid1 ‹Fit _ _ _› ?_ ?_ <;> (simp only [lnE] <;> omega)) | (refine Fit.hidc1 ‹Fit _ _ _› ?_ ?_ <;> (simp only [lnE] <;> omega)) | (refine Fit.hidc2 ‹Fit _ _ _› ?_ ?_ ?_ <;> (simp only [lnE] <;> omega)) | (refine Fit.draw1 ‹Fit _ _ _› ?_ ?_ ?_ <;> (simp only [lnE] <;> omega)) | (refine Fit.range0 ?_ ?_ <;> (simp only [lnE] <;> omega)) | fail)) only [syA, syB, argFr, D, E, T, C, undefv, eqF, aeq, sheqs, sheq, rdCells, cellsOf, fill, putAt, if_true, if_false, reduceIte, ↓reduceIte, reduceCtorEq, eq_self, Nat.reduceEqDiff, Nat.reduceAdd, Nat.reduceSub, Nat.reduceMul, Nat.reduceLT, Nat.reduceLeDiff, Nat.reducePow, Nat.reduceDiv, Nat.reduceMod, Int.reduceLT, Int.reduceLE, Int.reduceGT, Int.reduceGE, Int.reduceToNat, Int.reducePow, Int.reduceNeg, Int.reduceBEq, Int.reduceBNe, Int.reduceEq, Int.reduceAdd, Int.reduceSub, Int.reduceMul, cellv, sc, flatv, refs, refsF, refsC, hF.not0, hF.not1, hF.up0, hF.up1, hi0, hi1, him, ty, hc, c2, f1]
      exact ⟨ex, fr, rfl, f2⟩
/-! ### The bits of a first length -/
theorem fb_succ (k now : Nat) : fb (k + 1) now = now / 2 ^ k % 2 :: fb k now := by
  unfold fb
  rw [List.range_succ_eq_map, List.map_cons, List.map_map]
  congr 1
  apply List.map_congr_left
  intro j hj
  have := List.mem_range.1 hj
  simp only [Function.comp]
  congr 2
  congr 1
  omega
theorem nums_loop {c : Ts} {now : Nat} (hl : c.l.length = 258) (hn : c.now = now) (hn15 : now ≤ 15) (hF : Fit hp.length L H) : ∀ (k : Nat) (o fin : Ts), k ≤ 3 → o.bits + k ≤ 3 → TsOk o → trail o (fb k now) = some fin → fin.l.length = 258 ∧ ∃ fr,
    Liter env lb19_3 [4, 1, 3] (hp.length + 2) [(4, .int .i64 ((k : Int) - 1)), (1, .pointer (some ⟨hp.length, 0, some 0⟩)), (3, .pointer (some ⟨hp.length + 1, 0, some 0⟩))] ⟨hp ++ [.cells 0 true (tsC c), .cells 0 true (tsC o)], L, H, []⟩
      = some (.exit 0, fr, ⟨hp ++ [.cells 0 true (tsC c), .cells 0 true (tsC fin)], L, H, []⟩) ∧ fr.get 1 = some (.pointer (some ⟨hp.length, 0, some 0⟩)) ∧ fr.get 3 = some (.pointer (some ⟨hp.length + 1, 0, some 0⟩))
  | 0, o, fin, hk, hb, hok, ht => by
    simp only [fb, List.range_zero, List.map_nil, trail, Option.some.injEq] at ht
    subst ht
    refine ⟨hok.len, ?_⟩
    rw [iter_by lb19_3.eq_1]
    simp (disch := (first | omega | (simp only [lnE] <;> omega) | (refine Fit.mono ‹Fit _ _ _› ?_ <;> (simp only [lnE] <;> omega)) | (refine Fit.draw ‹Fit _ _ _› ?_ ?_ <;> (simp only [lnE] <;> omega)) | (refine Fit.hid1 ‹Fit _ _ _› ?_ ?_ <;> (simp only [lnE] <;> omega)) | (refine Fit.hidc1 ‹Fit _ _ _› ?_ ?_ <;> (simp only [lnE] <;> omega)) | (refine Fit.hidc2 ‹Fit _ _ _› ?_ ?_ ?_ <;> (simp only [lnE] <;> omega)) | (refine Fit.draw1 ‹Fit _ _ _› ?_ ?_ ?_ <;> (simp only [lnE] <;> omega)) | (refine Fit.range0 ?_ ?_ <;> (simp only [lnE] <;> omega)) | fail)) only [syA, syB, argFr, D, E, T, C, undefv, eqF, aeq, sheqs, sheq, rdCells, cellsOf, fill, putAt, if_true, if_false, reduceIte, ↓reduceIte, reduceCtorEq, eq_self, Nat.reduceEqDiff, Nat.reduceAdd, Nat.reduceSub, Nat.reduceMul, Nat.reduceLT, Nat.reduceLeDiff, Nat.reducePow, Nat.reduceDiv, Nat.reduceMod, Int.reduceLT, Int.reduceLE, Int.reduceGT, Int.reduceGE, Int.reduceToNat, Int.reducePow, Int.reduceNeg, Int.reduceBEq, Int.reduceBNe, Int.reduceEq, Int.reduceAdd, Int.reduceSub, Int.reduceMul, cellv, sc, flatv, refs, refsF, refsC, hF.not0, hF.not1, hF.up0, hF.up1]
    exact ⟨_, rfl, rfl, rfl⟩
  | k + 1, o, fin, hk, hb, hok, ht => by
    rw [fb_succ] at ht
    have hb2 : now / 2 ^ k % 2 < 2 := Nat.mod_lt _ (by decide)
    simp only [trail] at ht
    split at ht
    · rename_i hc
      have hw := fun hp L H d hF => way_walk (hp := hp) (L := L) (H := H) (d := d) hok hb2 hF
      have hwy := wyF_ok hc.2
      rw [hc.2, hwy] at hw
      have hlo := hok.len
      have hln := nextF_len hok.len (now / 2 ^ k % 2)
      have hbn : (nextF o (now / 2 ^ k % 2)).1.bits = o.bits + 1 := by unfold nextF; rw [if_pos (by omega)]
      have hsn : (nextF o (now / 2 ^ k % 2)).1.sym = o.sym := by unfold nextF; rw [if_pos (by omega)]
      have hok2 := nextF_ok hok hb2 hc.2 (by rw [hsn]; exact hc.1)
      obtain ⟨f0, fr, f1, f2⟩ := nums_loop hl hn hn15 hF k _ fin (by omega) (by rw [hbn]; omega) hok2 ht
      refine ⟨f0, ?_⟩
      have tn := tsC_now hl
      rw [hn] at tn
      have po2 : putAt (tsC o) 0 (tsC (nextF o (now / 2 ^ k % 2)).1) = tsC (nextF o (now / 2 ^ k % 2)).1 := putAt_full (by rw [tsC_length hlo, tsC_length hln])
      have tm : ((now / 2 ^ k : Nat) : Int).tmod 2 = (now / 2 ^ k % 2 : Nat) := tm2 _
      have hsr : (now : Int).fdiv (2 ^ k) = (now / 2 ^ k : Nat) := by rw [fdiv_pos _ (Int.pow_nonneg (by decide)), Int.natCast_ediv, Int.natCast_pow]; rfl
      have hk1 : ((k + 1 : Nat) : Int) - 1 = (k : Nat) := by omega
      have k0 : ((k : Nat) : Int) ≥ 0 := by omega
      have kng : ((k : Int) < 0) = False := eq_false (by omega)
      have kmin : min ((k : Int)).toNat 64 = k := by omega
      rw [hk1]
      clear hwy
      generalize (nextF o (now / 2 ^ k % 2)).1 = o2 at *
      generalize now / 2 ^ k % 2 = b at *
      rw [iter_by lb19_3.eq_1]
      simp (disch := (first | omega | (simp only [lnE] <;> omega) | (refine Fit.mono ‹Fit _ _ _› ?_ <;> (simp only [lnE] <;> omega)) | (refine Fit.draw ‹Fit _ _ _› ?_ ?_ <;> (simp only [lnE] <;> omega)) | (refine Fit.hid1 ‹Fit _ _ _› ?_ ?_ <;> (simp only [lnE] <;> omega)) | (refine Fit.hidc1 ‹Fit _ _ _› ?_ ?_ <;> (simp only [lnE] <;> omega)) | (refine Fit.hidc2 ‹Fit _ _ _› ?_ ?_ ?_ <;> (simp only [lnE] <;> omega)) | (refine Fit.draw1 ‹Fit _ _ _› ?_ ?_ ?_ <;> (simp only [lnE] <;> omega)) | (refine Fit.range0 ?_ ?_ <;> (simp only [lnE] <;> omega)) | fail)) only [syA, syB, argFr, D, E, T, C, undefv, eqF, aeq, sheqs, sheq, rdCells, cellsOf, fill, putAt, if_true, if_false, reduceIte, ↓reduceIte, reduceCtorEq, eq_self, Nat.reduceEqDiff, Nat.reduceAdd, Nat.reduceSub, Nat.reduceMul, Nat.reduceLT, Nat.reduceLeDiff, Nat.reducePow, Nat.reduceDiv, Nat.reduceMod, Int.reduceLT, Int.reduceLE, Int.reduceGT, Int.reduceGE, Int.reduceToNat, Int.reducePow, Int.reduceNeg, Int.reduceBEq, Int.reduceBNe, Int.reduceEq, Int.reduceAdd, Int.reduceSub, Int.reduceMul, cellv, sc, flatv, refs, refsF, refsC, hF.not0, hF.not1, hF.up0, hF.up1, k0, kng, kmin, tn, hsr, tm, hw, po2, tsC_take hlo, tsC_length hlo, tsC_take hln, tsC_length hln, tsC_refs, tsC_cellv, tsC_sc, f1]
      exact ⟨fr, rfl, f2⟩
    · cases ht
end LtA
end Go.Proofs.Ytlphmnhkkhcjfaa
end
