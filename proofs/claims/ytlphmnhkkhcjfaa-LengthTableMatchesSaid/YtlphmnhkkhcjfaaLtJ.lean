/-
  LENGTH TABLES: the reference's Step, on the abstract machine; the law. Conditions: none.
-/
import Derived.Test.YtlphmnhkkhcjfaaLtH
import Derived.Test.YtlphmnhkkhcjfaaLtZ
set_option linter.all false
section
namespace Go.Proofs.Ytlphmnhkkhcjfaa
namespace LtA
open Go Go.RowKit AM ArEnv Bt
variable {hp : List Blk} {L : Nat} {H d : List Nat}

theorem ltstep_walk {c : Ts} (h : Gs c) {bit : Int} (hF : Fit hp.length L H) : Lrun env (.func 16) [.agg (tsC c).toArray, .int .i64 bit] ⟨hp, L, H, d⟩ = some (.tuple #[.agg (tsC (stepF c bit).1).toArray, .bool (stepF c bit).2.1, .int .i64 (stepF c bit).2.2], ⟨hp, L, H, d⟩) := by
  rw [Lrun_sym 16 _ _ fn16]
  have hl := h.len
  have hv := fun hp L H d hF => ltvalid_walk (hp := hp) (L := L) (H := H) (d := d) h hF
  have ty := tsC_sym hl
  have hz := zs_length
  have z0q : u8s zs ++ [.int .i64 0, .int .i64 0, .int .i64 0, .int .i64 0] = tsC z0 := rfl
  have lz : (tsC z0).length = 262 := tsC_length (c := z0) hz
  have tkz : (tsC z0).take 262 = tsC z0 := tsC_take hz
  have pzz : putAt (tsC z0) 0 (tsC z0) = tsC z0 := putAt_full rfl
  by_cases c0 : Vld c
  · by_cases c1 : c.sym = 258
    · have e : stepF c bit = (z0, false, 2) := by unfold stepF; rw [if_neg fun hh => hh.2.1 c1]
      rw [e]
      simp (disch := (first | omega | (simp only [lnE] <;> omega) | (refine Fit.mono ‹Fit _ _ _› ?_ <;> (simp only [lnE] <;> omega)) | (refine Fit.draw ‹Fit _ _ _› ?_ ?_ <;> (simp only [lnE] <;> omega)) | (refine Fit.hid1 ‹Fit _ _ _› ?_ ?_ <;> (simp only [lnE] <;> omega)) | (refine Fit.hidc1 ‹Fit _ _ _› ?_ ?_ <;> (simp only [lnE] <;> omega)) | (refine Fit.hidc2 ‹Fit _ _ _› ?_ ?_ ?_ <;> (simp only [lnE] <;> omega)) | (refine Fit.draw1 ‹Fit _ _ _› ?_ ?_ ?_ <;> (simp only [lnE] <;> omega)) | (refine Fit.range0 ?_ ?_ <;> (simp only [lnE] <;> omega)) | fail)) only [syA, syB, argFr, D, E, T, C, undefv, eqF, aeq, sheqs, sheq, rdCells, cellsOf, fill, putAt, if_true, if_false, reduceIte, ↓reduceIte, reduceCtorEq, eq_self, Nat.reduceEqDiff, Nat.reduceAdd, Nat.reduceSub, Nat.reduceMul, Nat.reduceLT, Nat.reduceLeDiff, Nat.reducePow, Nat.reduceDiv, Nat.reduceMod, Int.reduceLT, Int.reduceLE, Int.reduceGT, Int.reduceGE, Int.reduceToNat, Int.reducePow, Int.reduceNeg, Int.reduceBEq, Int.reduceBNe, Int.reduceEq, Int.reduceAdd, Int.reduceSub, Int.reduceMul, cellv, sc, flatv, refs, refsF, refsC, hF.not0, hF.not1, hF.up0, hF.up1, ac16, hv, c0, c1, ty, zs_eq, z0q, tsC_refs, tsC_cellv, tsC_sc, tsC_take hl, tsC_length hl, lz, tkz, pzz]
    · by_cases c2 : bit = 0 ∨ bit = 1
      · obtain ⟨bn, hbn⟩ : ∃ bn : Nat, bit = (bn : Nat) := ⟨bit.toNat, by omega⟩
        have hb2 : bn < 2 := by omega
        have o := c0.ok hl c1
        have hnx := fun hp L H d hF => way_walk (hp := hp) (L := L) (H := H) (d := d) o hb2 hF
        have e : stepF c bit = (if (nextF c bn).2 then ((nextF c bn).1, decide ((nextF c bn).1.sym = 258), 0) else (z0, false, 100)) := by
          unfold stepF; rw [if_pos ⟨c0, c1, c2⟩, hbn, Int.toNat_natCast]
        rw [e]
        rw [← hbn] at hnx
        have hln := wyF_len (b := bn) hl
        have hwy := wyF_ok (c := c) (b := bn)
        cases hf : (nextF c bn).2 with
        | false =>
          rw [hf] at hnx
          rw [if_neg (by simp)]
          generalize wyF c bn = c2' at *
          have pz : putAt (tsC z0) 0 (tsC c2') = tsC c2' := putAt_full (by rw [tsC_length hln, lz])
          rcases c2 with rfl | rfl
          · simp (disch := (first | omega | (simp only [lnE] <;> omega) | (refine Fit.mono ‹Fit _ _ _› ?_ <;> (simp only [lnE] <;> omega)) | (refine Fit.draw ‹Fit _ _ _› ?_ ?_ <;> (simp only [lnE] <;> omega)) | (refine Fit.hid1 ‹Fit _ _ _› ?_ ?_ <;> (simp only [lnE] <;> omega)) | (refine Fit.hidc1 ‹Fit _ _ _› ?_ ?_ <;> (simp only [lnE] <;> omega)) | (refine Fit.hidc2 ‹Fit _ _ _› ?_ ?_ ?_ <;> (simp only [lnE] <;> omega)) | (refine Fit.draw1 ‹Fit _ _ _› ?_ ?_ ?_ <;> (simp only [lnE] <;> omega)) | (refine Fit.range0 ?_ ?_ <;> (simp only [lnE] <;> omega)) | fail)) only [syA, syB, argFr, D, E, T, C, undefv, eqF, aeq, sheqs, sheq, rdCells, cellsOf, fill, putAt, if_true, if_false, reduceIte, ↓reduceIte, reduceCtorEq, eq_self, Nat.reduceEqDiff, Nat.reduceAdd, Nat.reduceSub, Nat.reduceMul, Nat.reduceLT, Nat.reduceLeDiff, Nat.reducePow, Nat.reduceDiv, Nat.reduceMod, Int.reduceLT, Int.reduceLE, Int.reduceGT, Int.reduceGE, Int.reduceToNat, Int.reducePow, Int.reduceNeg, Int.reduceBEq, Int.reduceBNe, Int.reduceEq, Int.reduceAdd, Int.reduceSub, Int.reduceMul, cellv, sc, flatv, refs, refsF, refsC, hF.not0, hF.not1, hF.up0, hF.up1, ac16, hv, c0, c1, ty, hnx, zs_eq, z0q, tsC_refs, tsC_cellv, tsC_sc, tsC_take hl, tsC_length hl, tsC_take hln, tsC_length hln, pz, lz, tkz, pzz]
          · simp (disch := (first | omega | (simp only [lnE] <;> omega) | (refine Fit.mono ‹Fit _ _ _› ?_ <;> (simp only [lnE] <;> omega)) | (refine Fit.draw ‹Fit _ _ _› ?_ ?_ <;> (simp only [lnE] <;> omega)) | (refine Fit.hid1 ‹Fit _ _ _› ?_ ?_ <;> (simp only [lnE] <;> omega)) | (refine Fit.hidc1 ‹Fit _ _ _› ?_ ?_ <;> (simp only [lnE] <;> omega)) | (refine Fit.hidc2 ‹Fit _ _ _› ?_ ?_ ?_ <;> (simp only [lnE] <;> omega)) | (refine Fit.draw1 ‹Fit _ _ _› ?_ ?_ ?_ <;> (simp only [lnE] <;> omega)) | (refine Fit.range0 ?_ ?_ <;> (simp only [lnE] <;> omega)) | fail)) only [syA, syB, argFr, D, E, T, C, undefv, eqF, aeq, sheqs, sheq, rdCells, cellsOf, fill, putAt, if_true, if_false, reduceIte, ↓reduceIte, reduceCtorEq, eq_self, Nat.reduceEqDiff, Nat.reduceAdd, Nat.reduceSub, Nat.reduceMul, Nat.reduceLT, Nat.reduceLeDiff, Nat.reducePow, Nat.reduceDiv, Nat.reduceMod, Int.reduceLT, Int.reduceLE, Int.reduceGT, Int.reduceGE, Int.reduceToNat, Int.reducePow, Int.reduceNeg, Int.reduceBEq, Int.reduceBNe, Int.reduceEq, Int.reduceAdd, Int.reduceSub, Int.reduceMul, cellv, sc, flatv, refs, refsF, refsC, hF.not0, hF.not1, hF.up0, hF.up1, ac16, hv, c0, c1, ty, hnx, zs_eq, z0q, tsC_refs, tsC_cellv, tsC_sc, tsC_take hl, tsC_length hl, tsC_take hln, tsC_length hln, pz, lz, tkz, pzz]
        | true =>
          rw [hf] at hnx
          rw [if_pos rfl, ← hwy hf]
          generalize wyF c bn = c2' at *
          have pz : putAt (tsC z0) 0 (tsC c2') = tsC c2' := putAt_full (by rw [tsC_length hln, lz])
          have ty2 := tsC_sym hln
          have hib := int_beq c2'.sym 258
          rcases c2 with rfl | rfl
          · simp (disch := (first | omega | (simp only [lnE] <;> omega) | (refine Fit.mono ‹Fit _ _ _› ?_ <;> (simp only [lnE] <;> omega)) | (refine Fit.draw ‹Fit _ _ _› ?_ ?_ <;> (simp only [lnE] <;> omega)) | (refine Fit.hid1 ‹Fit _ _ _› ?_ ?_ <;> (simp only [lnE] <;> omega)) | (refine Fit.hidc1 ‹Fit _ _ _› ?_ ?_ <;> (simp only [lnE] <;> omega)) | (refine Fit.hidc2 ‹Fit _ _ _› ?_ ?_ ?_ <;> (simp only [lnE] <;> omega)) | (refine Fit.draw1 ‹Fit _ _ _› ?_ ?_ ?_ <;> (simp only [lnE] <;> omega)) | (refine Fit.range0 ?_ ?_ <;> (simp only [lnE] <;> omega)) | fail)) only [syA, syB, argFr, D, E, T, C, undefv, eqF, aeq, sheqs, sheq, rdCells, cellsOf, fill, putAt, if_true, if_false, reduceIte, ↓reduceIte, reduceCtorEq, eq_self, Nat.reduceEqDiff, Nat.reduceAdd, Nat.reduceSub, Nat.reduceMul, Nat.reduceLT, Nat.reduceLeDiff, Nat.reducePow, Nat.reduceDiv, Nat.reduceMod, Int.reduceLT, Int.reduceLE, Int.reduceGT, Int.reduceGE, Int.reduceToNat, Int.reducePow, Int.reduceNeg, Int.reduceBEq, Int.reduceBNe, Int.reduceEq, Int.reduceAdd, Int.reduceSub, Int.reduceMul, cellv, sc, flatv, refs, refsF, refsC, hF.not0, hF.not1, hF.up0, hF.up1, ac16, hv, c0, c1, ty, ty2, hnx, hib, zs_eq, z0q, tsC_refs, tsC_cellv, tsC_sc, tsC_take hl, tsC_length hl, tsC_take hln, tsC_length hln, pz, lz, tkz, pzz]
          · simp (disch := (first | omega | (simp only [lnE] <;> omega) | (refine Fit.mono ‹Fit _ _ _› ?_ <;> (simp only [lnE] <;> omega)) | (refine Fit.draw ‹Fit _ _ _› ?_ ?_ <;> (simp only [lnE] <;> omega)) | (refine Fit.hid1 ‹Fit _ _ _› ?_ ?_ <;> (simp only [lnE] <;> omega)) | (refine Fit.hidc1 ‹Fit _ _ _› ?_ ?_ <;> (simp only [lnE] <;> omega)) | (refine Fit.hidc2 ‹Fit _ _ _› ?_ ?_ ?_ <;> (simp only [lnE] <;> omega)) | (refine Fit.draw1 ‹Fit _ _ _› ?_ ?_ ?_ <;> (simp only [lnE] <;> omega)) | (refine Fit.range0 ?_ ?_ <;> (simp only [lnE] <;> omega)) | fail)) only [syA, syB, argFr, D, E, T, C, undefv, eqF, aeq, sheqs, sheq, rdCells, cellsOf, fill, putAt, if_true, if_false, reduceIte, ↓reduceIte, reduceCtorEq, eq_self, Nat.reduceEqDiff, Nat.reduceAdd, Nat.reduceSub, Nat.reduceMul, Nat.reduceLT, Nat.reduceLeDiff, Nat.reducePow, Nat.reduceDiv, Nat.reduceMod, Int.reduceLT, Int.reduceLE, Int.reduceGT, Int.reduceGE, Int.reduceToNat, Int.reducePow, Int.reduceNeg, Int.reduceBEq, Int.reduceBNe, Int.reduceEq, Int.reduceAdd, Int.reduceSub, Int.reduceMul, cellv, sc, flatv, refs, refsF, refsC, hF.not0, hF.not1, hF.up0, hF.up1, ac16, hv, c0, c1, ty, ty2, hnx, hib, zs_eq, z0q, tsC_refs, tsC_cellv, tsC_sc, tsC_take hl, tsC_length hl, tsC_take hln, tsC_length hln, pz, lz, tkz, pzz]
      · have e : stepF c bit = (z0, false, 2) := by unfold stepF; rw [if_neg fun hh => c2 hh.2.2]
        have q0 : ¬ bit = 0 := fun h => c2 (.inl h)
        have q1 : ¬ bit = 1 := fun h => c2 (.inr h)
        rw [e]
        simp (disch := (first | omega | (simp only [lnE] <;> omega) | (refine Fit.mono ‹Fit _ _ _› ?_ <;> (simp only [lnE] <;> omega)) | (refine Fit.draw ‹Fit _ _ _› ?_ ?_ <;> (simp only [lnE] <;> omega)) | (refine Fit.hid1 ‹Fit _ _ _› ?_ ?_ <;> (simp only [lnE] <;> omega)) | (refine Fit.hidc1 ‹Fit _ _ _› ?_ ?_ <;> (simp only [lnE] <;> omega)) | (refine Fit.hidc2 ‹Fit _ _ _› ?_ ?_ ?_ <;> (simp only [lnE] <;> omega)) | (refine Fit.draw1 ‹Fit _ _ _› ?_ ?_ ?_ <;> (simp only [lnE] <;> omega)) | (refine Fit.range0 ?_ ?_ <;> (simp only [lnE] <;> omega)) | fail)) only [syA, syB, argFr, D, E, T, C, undefv, eqF, aeq, sheqs, sheq, rdCells, cellsOf, fill, putAt, if_true, if_false, reduceIte, ↓reduceIte, reduceCtorEq, eq_self, Nat.reduceEqDiff, Nat.reduceAdd, Nat.reduceSub, Nat.reduceMul, Nat.reduceLT, Nat.reduceLeDiff, Nat.reducePow, Nat.reduceDiv, Nat.reduceMod, Int.reduceLT, Int.reduceLE, Int.reduceGT, Int.reduceGE, Int.reduceToNat, Int.reducePow, Int.reduceNeg, Int.reduceBEq, Int.reduceBNe, Int.reduceEq, Int.reduceAdd, Int.reduceSub, Int.reduceMul, cellv, sc, flatv, refs, refsF, refsC, hF.not0, hF.not1, hF.up0, hF.up1, ac16, hv, c0, c1, ty, q0, q1, zs_eq, z0q, tsC_refs, tsC_cellv, tsC_sc, tsC_take hl, tsC_length hl, lz, tkz, pzz]
  · have e : stepF c bit = (z0, false, 2) := by unfold stepF; rw [if_neg fun hh => c0 hh.1]
    rw [e]
    simp (disch := (first | omega | (simp only [lnE] <;> omega) | (refine Fit.mono ‹Fit _ _ _› ?_ <;> (simp only [lnE] <;> omega)) | (refine Fit.draw ‹Fit _ _ _› ?_ ?_ <;> (simp only [lnE] <;> omega)) | (refine Fit.hid1 ‹Fit _ _ _› ?_ ?_ <;> (simp only [lnE] <;> omega)) | (refine Fit.hidc1 ‹Fit _ _ _› ?_ ?_ <;> (simp only [lnE] <;> omega)) | (refine Fit.hidc2 ‹Fit _ _ _› ?_ ?_ ?_ <;> (simp only [lnE] <;> omega)) | (refine Fit.draw1 ‹Fit _ _ _› ?_ ?_ ?_ <;> (simp only [lnE] <;> omega)) | (refine Fit.range0 ?_ ?_ <;> (simp only [lnE] <;> omega)) | fail)) only [syA, syB, argFr, D, E, T, C, undefv, eqF, aeq, sheqs, sheq, rdCells, cellsOf, fill, putAt, if_true, if_false, reduceIte, ↓reduceIte, reduceCtorEq, eq_self, Nat.reduceEqDiff, Nat.reduceAdd, Nat.reduceSub, Nat.reduceMul, Nat.reduceLT, Nat.reduceLeDiff, Nat.reducePow, Nat.reduceDiv, Nat.reduceMod, Int.reduceLT, Int.reduceLE, Int.reduceGT, Int.reduceGE, Int.reduceToNat, Int.reducePow, Int.reduceNeg, Int.reduceBEq, Int.reduceBNe, Int.reduceEq, Int.reduceAdd, Int.reduceSub, Int.reduceMul, cellv, sc, flatv, refs, refsF, refsC, hF.not0, hF.not1, hF.up0, hF.up1, ac16, hv, c0, zs_eq, z0q, tsC_refs, tsC_cellv, tsC_sc, tsC_take hl, tsC_length hl, lz, tkz, pzz]
set_option maxHeartbeats 4000000 in
theorem lmat_false {c : Ts} {x : List Nat} {l : List Int} {v : Value} {bit : Int} (hG : Gs c) (hx : x.length = 258) (hx8 : By x) (R : RdI hp [] v l) (ht : kTable x = false) :
    ∃ σ', Lrun env (.func 6) [.agg (tsC c).toArray, .int .i64 bit, .agg (u8s x).toArray, v] ⟨hp, hp.length, [], []⟩ = some (.bool true, σ') := by
  rw [Lrun_sym 6 _ _ fn6]
  have hF : Fit hp.length hp.length [] := ⟨Nat.le_refl _, Low.nil _⟩
  have hW := fun hp L H d hF => wakes10 (hp := hp) (L := L) (H := H) (d := d) hF
  have hl := hG.len
  have htx : (u8s x).take 258 = u8s x := take258 hx
  obtain ⟨p, e', rfl⟩ := R.len
  by_cases c1 : (l.length : Int) > 9000
  · simp (disch := (first | omega | (simp only [lnE] <;> omega) | (refine Fit.mono ‹Fit _ _ _› ?_ <;> (simp only [lnE] <;> omega)) | (refine Fit.draw ‹Fit _ _ _› ?_ ?_ <;> (simp only [lnE] <;> omega)) | (refine Fit.hid1 ‹Fit _ _ _› ?_ ?_ <;> (simp only [lnE] <;> omega)) | (refine Fit.hidc1 ‹Fit _ _ _› ?_ ?_ <;> (simp only [lnE] <;> omega)) | (refine Fit.hidc2 ‹Fit _ _ _› ?_ ?_ ?_ <;> (simp only [lnE] <;> omega)) | (refine Fit.draw1 ‹Fit _ _ _› ?_ ?_ ?_ <;> (simp only [lnE] <;> omega)) | (refine Fit.range0 ?_ ?_ <;> (simp only [lnE] <;> omega)) | fail)) only [syA, syB, argFr, D, E, T, C, undefv, eqF, aeq, sheqs, sheq, rdCells, cellsOf, fill, putAt, if_true, if_false, reduceIte, ↓reduceIte, reduceCtorEq, eq_self, Nat.reduceEqDiff, Nat.reduceAdd, Nat.reduceSub, Nat.reduceMul, Nat.reduceLT, Nat.reduceLeDiff, Nat.reducePow, Nat.reduceDiv, Nat.reduceMod, Int.reduceLT, Int.reduceLE, Int.reduceGT, Int.reduceGE, Int.reduceToNat, Int.reducePow, Int.reduceNeg, Int.reduceBEq, Int.reduceBNe, Int.reduceEq, Int.reduceAdd, Int.reduceSub, Int.reduceMul, cellv, sc, flatv, refs, refsF, refsC, hF.not0, hF.not1, hF.up0, hF.up1, ac6, hW, c1, hx, htx, le258 hx, u8s_cellv, u8s_scs, tsC_refs, tsC_cellv, tsC_sc, tsC_take hl, tsC_length hl]
    exact ⟨_, rfl⟩
  have hS1 := fun hp L H d hF => step_walk (hp := hp) (L := L) (H := H) (d := d) hG (bit := bit) hF
  have hS2 := fun hp L H d hF => ltstep_walk (hp := hp) (L := L) (H := H) (d := d) hG (bit := bit) hF
  have hol : (stepF c bit).1.l.length = 258 := by
    unfold stepF
    split
    · split
      · exact nextF_len hl _
      · exact zs_length
    · exact zs_length
  obtain ⟨o, dn, er, hst⟩ : ∃ o dn er, stepF c bit = (o, dn, er) := ⟨_, _, _, rfl⟩
  rw [hst] at hS1 hS2 hol
  simp only at hS1 hS2 hol
  have hV1 := fun hp L H d hF => valid_walk (hp := hp) (L := L) (H := H) (d := d) hG hF
  have hV2 := fun hp L H d hF => ltvalid_walk (hp := hp) (L := L) (H := H) (d := d) hG hF
  have hyl := readF_len l z0 0 zs_length
  have hR1 := fun nw L d (hF' : Fit (hp ++ nw).length L []) => read_walk (d := d) (R.app nw) (by omega) hF'
  have hR2 := fun nw L d (hF' : Fit (hp ++ nw).length L []) => ltread_walk (d := d) (R.app nw) (by omega) hF'
  obtain ⟨y, yn, ye, hy⟩ : ∃ y yn ye, readF z0 l 0 = (y, yn, ye) := ⟨_, _, _, rfl⟩
  rw [hy] at hR1 hR2 hyl
  simp only at hR1 hR2 hyl
  have hz := zs_length
  have lz : (tsC z0).length = 262 := tsC_length (c := z0) hz
  have z0q : u8s zs ++ [.int .i64 0, .int .i64 0, .int .i64 0, .int .i64 0] = tsC z0 := rfl
  have po : putAt (tsC z0) 0 (tsC o) = tsC o := putAt_full (by rw [lz, tsC_length hol])
  have pzy : putAt (u8s zs) 0 (u8s y) = u8s y := putAt_full (by rw [u8s_length, u8s_length, hyl, hz])
  have hty : (u8s y).take 258 = u8s y := take258 hyl
  have q1 : sheqs (List.replicate 262 .nu) (tsC o) (tsC o) = some (decide (o = o)) := tsC_eq hol hol
  have q2 : sheqs (List.replicate 258 .nu) (u8s y) (u8s y) = some (decide (y = y)) := sheqs_u8 hyl hyl
  rw [decide_eq_true rfl] at q1 q2
  have hN := fun hp L H d hF => new_walk (hp := hp) (L := L) (H := H) hF d
  have hO := fun hp L H d hF => of_bad (hp := hp) (L := L) (H := H) (d := d) hx hx8 ht hF
  have hO2 := fun hp L H d hF => ltof_bad (hp := hp) (L := L) (H := H) (d := d) hx hx8 ht hF
  have hI := fun hp L H d hF => inteq_walk (hp := hp) (L := L) (H := H) (d := d) (a := []) (b := []) (v := .slice none 0 0) (w := .slice none 0 0) (.inl ⟨rfl, rfl⟩) (.inl ⟨rfl, rfl⟩) (by decide) hF
  have hPb := fun hp L H d hF => putl_bad (hp := hp) (L := L) (H := H) (d := d) (a := hp.length) hx hx8 ht hF
  have hP := fun d => putl_bad (d := d) (hp := hp ++ [Blk.cells 0 true (tsC c), Blk.cells 0 true (u8s x), Blk.cells 0 true (tsC o), Blk.cells 0 true (tsC o), Wr 0 []]) (L := hp.length) (H := []) (a := hp.length + 4) hx hx8 ht (hF.mono (by simp))
  have V : Wv (hp ++ [Blk.cells 0 true (tsC c), Blk.cells 0 true (u8s x), Blk.cells 0 true (tsC o), Blk.cells 0 true (tsC o), Wr 0 [], Blk.cells 0 true (u8s y), Blk.cells 0 true (u8s y)]) [] (hp.length + 4) 0 [] := ⟨by rw [get_new]; rfl, fun h => absurd rfl h, rfl, fun _ => rfl, Bits.nil⟩
  have hLen := fun L d (hF' : Fit (hp ++ [Blk.cells 0 true (tsC c), Blk.cells 0 true (u8s x), Blk.cells 0 true (tsC o), Blk.cells 0 true (tsC o), Wr 0 [], Blk.cells 0 true (u8s y), Blk.cells 0 true (u8s y)]).length L []) => len_walk V hF' d
  have hBy := fun L d (hF' : Fit (hp ++ [Blk.cells 0 true (tsC c), Blk.cells 0 true (u8s x), Blk.cells 0 true (tsC o), Blk.cells 0 true (tsC o), Wr 0 [], Blk.cells 0 true (u8s y), Blk.cells 0 true (u8s y)]).length L []) => bytes_walk V (by simp) hF' d
  have hRb := fun hp L H d hF => refbytes_walk (hp := hp) (L := L) (H := H) (l := []) (s := 0) Bits.nil (fun h => absurd rfl h) (fun h => absurd rfl h) (by decide) hF d
  have x1 : ob [] = none := rfl
  have x2 : slI 0 [] = .slice none 0 0 := rfl
  rw [x1] at hBy
  simp only [x1, x2, sl_none, slB_none, List.append_nil, List.length_nil, Int.natCast_zero] at hBy hRb hLen
  rw [decide_eq_true rfl] at hI
  by_cases hv : Vld c
  · cases dn with
    | true =>
      simp (disch := (first | omega | (simp only [lnE] <;> omega) | (refine Fit.mono ‹Fit _ _ _› ?_ <;> (simp only [lnE] <;> omega)) | (refine Fit.draw ‹Fit _ _ _› ?_ ?_ <;> (simp only [lnE] <;> omega)) | (refine Fit.hid1 ‹Fit _ _ _› ?_ ?_ <;> (simp only [lnE] <;> omega)) | (refine Fit.hidc1 ‹Fit _ _ _› ?_ ?_ <;> (simp only [lnE] <;> omega)) | (refine Fit.hidc2 ‹Fit _ _ _› ?_ ?_ ?_ <;> (simp only [lnE] <;> omega)) | (refine Fit.draw1 ‹Fit _ _ _› ?_ ?_ ?_ <;> (simp only [lnE] <;> omega)) | (refine Fit.range0 ?_ ?_ <;> (simp only [lnE] <;> omega)) | fail)) only [syA, syB, argFr, D, E, T, C, undefv, eqF, aeq, sheqs, sheq, rdCells, cellsOf, fill, putAt, if_true, if_false, reduceIte, ↓reduceIte, reduceCtorEq, eq_self, Nat.reduceEqDiff, Nat.reduceAdd, Nat.reduceSub, Nat.reduceMul, Nat.reduceLT, Nat.reduceLeDiff, Nat.reducePow, Nat.reduceDiv, Nat.reduceMod, Int.reduceLT, Int.reduceLE, Int.reduceGT, Int.reduceGE, Int.reduceToNat, Int.reducePow, Int.reduceNeg, Int.reduceBEq, Int.reduceBNe, Int.reduceEq, Int.reduceAdd, Int.reduceSub, Int.reduceMul, cellv, sc, flatv, refs, refsF, refsC, hF.not0, hF.not1, hF.up0, hF.up1, ac6, hW, c1, hx, htx, le258 hx, u8s_cellv, u8s_scs, tsC_refs, tsC_cellv, tsC_sc, tsC_take hl, tsC_length hl, hS1, hS2, hV1, hV2, hR1, hR2, zs_eq, z0q, lz, hz, po, pzy, hty, hyl, q1, q2, hN, tsC_take hol, tsC_length hol, hO, hO2, hI, hP, hLen, hBy, hRb, hv]
      exact ⟨_, rfl⟩
    | false =>
      simp (disch := (first | omega | (simp only [lnE] <;> omega) | (refine Fit.mono ‹Fit _ _ _› ?_ <;> (simp only [lnE] <;> omega)) | (refine Fit.draw ‹Fit _ _ _› ?_ ?_ <;> (simp only [lnE] <;> omega)) | (refine Fit.hid1 ‹Fit _ _ _› ?_ ?_ <;> (simp only [lnE] <;> omega)) | (refine Fit.hidc1 ‹Fit _ _ _› ?_ ?_ <;> (simp only [lnE] <;> omega)) | (refine Fit.hidc2 ‹Fit _ _ _› ?_ ?_ ?_ <;> (simp only [lnE] <;> omega)) | (refine Fit.draw1 ‹Fit _ _ _› ?_ ?_ ?_ <;> (simp only [lnE] <;> omega)) | (refine Fit.range0 ?_ ?_ <;> (simp only [lnE] <;> omega)) | fail)) only [syA, syB, argFr, D, E, T, C, undefv, eqF, aeq, sheqs, sheq, rdCells, cellsOf, fill, putAt, if_true, if_false, reduceIte, ↓reduceIte, reduceCtorEq, eq_self, Nat.reduceEqDiff, Nat.reduceAdd, Nat.reduceSub, Nat.reduceMul, Nat.reduceLT, Nat.reduceLeDiff, Nat.reducePow, Nat.reduceDiv, Nat.reduceMod, Int.reduceLT, Int.reduceLE, Int.reduceGT, Int.reduceGE, Int.reduceToNat, Int.reducePow, Int.reduceNeg, Int.reduceBEq, Int.reduceBNe, Int.reduceEq, Int.reduceAdd, Int.reduceSub, Int.reduceMul, cellv, sc, flatv, refs, refsF, refsC, hF.not0, hF.not1, hF.up0, hF.up1, ac6, hW, c1, hx, htx, le258 hx, u8s_cellv, u8s_scs, tsC_refs, tsC_cellv, tsC_sc, tsC_take hl, tsC_length hl, hS1, hS2, hV1, hV2, hR1, hR2, zs_eq, z0q, lz, hz, po, pzy, hty, hyl, q1, q2, hN, tsC_take hol, tsC_length hol, hO, hO2, hI, hP, hLen, hBy, hRb, hv]
      exact ⟨_, rfl⟩
  · cases dn with
    | true =>
      simp (disch := (first | omega | (simp only [lnE] <;> omega) | (refine Fit.mono ‹Fit _ _ _› ?_ <;> (simp only [lnE] <;> omega)) | (refine Fit.draw ‹Fit _ _ _› ?_ ?_ <;> (simp only [lnE] <;> omega)) | (refine Fit.hid1 ‹Fit _ _ _› ?_ ?_ <;> (simp only [lnE] <;> omega)) | (refine Fit.hidc1 ‹Fit _ _ _› ?_ ?_ <;> (simp only [lnE] <;> omega)) | (refine Fit.hidc2 ‹Fit _ _ _› ?_ ?_ ?_ <;> (simp only [lnE] <;> omega)) | (refine Fit.draw1 ‹Fit _ _ _› ?_ ?_ ?_ <;> (simp only [lnE] <;> omega)) | (refine Fit.range0 ?_ ?_ <;> (simp only [lnE] <;> omega)) | fail)) only [syA, syB, argFr, D, E, T, C, undefv, eqF, aeq, sheqs, sheq, rdCells, cellsOf, fill, putAt, if_true, if_false, reduceIte, ↓reduceIte, reduceCtorEq, eq_self, Nat.reduceEqDiff, Nat.reduceAdd, Nat.reduceSub, Nat.reduceMul, Nat.reduceLT, Nat.reduceLeDiff, Nat.reducePow, Nat.reduceDiv, Nat.reduceMod, Int.reduceLT, Int.reduceLE, Int.reduceGT, Int.reduceGE, Int.reduceToNat, Int.reducePow, Int.reduceNeg, Int.reduceBEq, Int.reduceBNe, Int.reduceEq, Int.reduceAdd, Int.reduceSub, Int.reduceMul, cellv, sc, flatv, refs, refsF, refsC, hF.not0, hF.not1, hF.up0, hF.up1, ac6, hW, c1, hx, htx, le258 hx, u8s_cellv, u8s_scs, tsC_refs, tsC_cellv, tsC_sc, tsC_take hl, tsC_length hl, hS1, hS2, hV1, hV2, hR1, hR2, zs_eq, z0q, lz, hz, po, pzy, hty, hyl, q1, q2, hN, tsC_take hol, tsC_length hol, hO, hO2, hI, hP, hLen, hBy, hRb, hv]
      exact ⟨_, rfl⟩
    | false =>
      simp (disch := (first | omega | (simp only [lnE] <;> omega) | (refine Fit.mono ‹Fit _ _ _› ?_ <;> (simp only [lnE] <;> omega)) | (refine Fit.draw ‹Fit _ _ _› ?_ ?_ <;> (simp only [lnE] <;> omega)) | (refine Fit.hid1 ‹Fit _ _ _› ?_ ?_ <;> (simp only [lnE] <;> omega)) | (refine Fit.hidc1 ‹Fit _ _ _› ?_ ?_ <;> (simp only [lnE] <;> omega)) | (refine Fit.hidc2 ‹Fit _ _ _› ?_ ?_ ?_ <;> (simp only [lnE] <;> omega)) | (refine Fit.draw1 ‹Fit _ _ _› ?_ ?_ ?_ <;> (simp only [lnE] <;> omega)) | (refine Fit.range0 ?_ ?_ <;> (simp only [lnE] <;> omega)) | fail)) only [syA, syB, argFr, D, E, T, C, undefv, eqF, aeq, sheqs, sheq, rdCells, cellsOf, fill, putAt, if_true, if_false, reduceIte, ↓reduceIte, reduceCtorEq, eq_self, Nat.reduceEqDiff, Nat.reduceAdd, Nat.reduceSub, Nat.reduceMul, Nat.reduceLT, Nat.reduceLeDiff, Nat.reducePow, Nat.reduceDiv, Nat.reduceMod, Int.reduceLT, Int.reduceLE, Int.reduceGT, Int.reduceGE, Int.reduceToNat, Int.reducePow, Int.reduceNeg, Int.reduceBEq, Int.reduceBNe, Int.reduceEq, Int.reduceAdd, Int.reduceSub, Int.reduceMul, cellv, sc, flatv, refs, refsF, refsC, hF.not0, hF.not1, hF.up0, hF.up1, ac6, hW, c1, hx, htx, le258 hx, u8s_cellv, u8s_scs, tsC_refs, tsC_cellv, tsC_sc, tsC_take hl, tsC_length hl, hS1, hS2, hV1, hV2, hR1, hR2, zs_eq, z0q, lz, hz, po, pzy, hty, hyl, q1, q2, hN, tsC_take hol, tsC_length hol, hO, hO2, hI, hP, hLen, hBy, hRb, hv]
      exact ⟨_, rfl⟩
set_option maxHeartbeats 4000000 in
theorem lmat_true {c : Ts} {x : List Nat} {l : List Int} {v : Value} {bit : Int} (hG : Gs c) (hx : x.length = 258) (hx8 : By x) (R : RdI hp [] v l) (ht : kTable x = true) :
    ∃ σ', Lrun env (.func 6) [.agg (tsC c).toArray, .int .i64 bit, .agg (u8s x).toArray, v] ⟨hp, hp.length, [], []⟩ = some (.bool true, σ') := by
  rw [Lrun_sym 6 _ _ fn6]
  have hF : Fit hp.length hp.length [] := ⟨Nat.le_refl _, Low.nil _⟩
  have hW := fun hp L H d hF => wakes10 (hp := hp) (L := L) (H := H) (d := d) hF
  have hl := hG.len
  have htx : (u8s x).take 258 = u8s x := take258 hx
  obtain ⟨p, e', rfl⟩ := R.len
  by_cases c1 : (l.length : Int) > 9000
  · simp (disch := (first | omega | (simp only [lnE] <;> omega) | (refine Fit.mono ‹Fit _ _ _› ?_ <;> (simp only [lnE] <;> omega)) | (refine Fit.draw ‹Fit _ _ _› ?_ ?_ <;> (simp only [lnE] <;> omega)) | (refine Fit.hid1 ‹Fit _ _ _› ?_ ?_ <;> (simp only [lnE] <;> omega)) | (refine Fit.hidc1 ‹Fit _ _ _› ?_ ?_ <;> (simp only [lnE] <;> omega)) | (refine Fit.hidc2 ‹Fit _ _ _› ?_ ?_ ?_ <;> (simp only [lnE] <;> omega)) | (refine Fit.draw1 ‹Fit _ _ _› ?_ ?_ ?_ <;> (simp only [lnE] <;> omega)) | (refine Fit.range0 ?_ ?_ <;> (simp only [lnE] <;> omega)) | fail)) only [syA, syB, argFr, D, E, T, C, undefv, eqF, aeq, sheqs, sheq, rdCells, cellsOf, fill, putAt, if_true, if_false, reduceIte, ↓reduceIte, reduceCtorEq, eq_self, Nat.reduceEqDiff, Nat.reduceAdd, Nat.reduceSub, Nat.reduceMul, Nat.reduceLT, Nat.reduceLeDiff, Nat.reducePow, Nat.reduceDiv, Nat.reduceMod, Int.reduceLT, Int.reduceLE, Int.reduceGT, Int.reduceGE, Int.reduceToNat, Int.reducePow, Int.reduceNeg, Int.reduceBEq, Int.reduceBNe, Int.reduceEq, Int.reduceAdd, Int.reduceSub, Int.reduceMul, cellv, sc, flatv, refs, refsF, refsC, hF.not0, hF.not1, hF.up0, hF.up1, ac6, hW, c1, hx, htx, le258 hx, u8s_cellv, u8s_scs, tsC_refs, tsC_cellv, tsC_sc, tsC_take hl, tsC_length hl]
    exact ⟨_, rfl⟩
  have hS1 := fun hp L H d hF => step_walk (hp := hp) (L := L) (H := H) (d := d) hG (bit := bit) hF
  have hS2 := fun hp L H d hF => ltstep_walk (hp := hp) (L := L) (H := H) (d := d) hG (bit := bit) hF
  have hol : (stepF c bit).1.l.length = 258 := by
    unfold stepF
    split
    · split
      · exact nextF_len hl _
      · exact zs_length
    · exact zs_length
  obtain ⟨o, dn, er, hst⟩ : ∃ o dn er, stepF c bit = (o, dn, er) := ⟨_, _, _, rfl⟩
  rw [hst] at hS1 hS2 hol
  simp only at hS1 hS2 hol
  have hV1 := fun hp L H d hF => valid_walk (hp := hp) (L := L) (H := H) (d := d) hG hF
  have hV2 := fun hp L H d hF => ltvalid_walk (hp := hp) (L := L) (H := H) (d := d) hG hF
  have hyl := readF_len l z0 0 zs_length
  have hR1 := fun nw L d (hF' : Fit (hp ++ nw).length L []) => read_walk (d := d) (R.app nw) (by omega) hF'
  have hR2 := fun nw L d (hF' : Fit (hp ++ nw).length L []) => ltread_walk (d := d) (R.app nw) (by omega) hF'
  obtain ⟨y, yn, ye, hy⟩ : ∃ y yn ye, readF z0 l 0 = (y, yn, ye) := ⟨_, _, _, rfl⟩
  rw [hy] at hR1 hR2 hyl
  simp only at hR1 hR2 hyl
  have hz := zs_length
  have lz : (tsC z0).length = 262 := tsC_length (c := z0) hz
  have z0q : u8s zs ++ [.int .i64 0, .int .i64 0, .int .i64 0, .int .i64 0] = tsC z0 := rfl
  have po : putAt (tsC z0) 0 (tsC o) = tsC o := putAt_full (by rw [lz, tsC_length hol])
  have pzy : putAt (u8s zs) 0 (u8s y) = u8s y := putAt_full (by rw [u8s_length, u8s_length, hyl, hz])
  have hty : (u8s y).take 258 = u8s y := take258 hyl
  have q1 : sheqs (List.replicate 262 .nu) (tsC o) (tsC o) = some (decide (o = o)) := tsC_eq hol hol
  have q2 : sheqs (List.replicate 258 .nu) (u8s y) (u8s y) = some (decide (y = y)) := sheqs_u8 hyl hyl
  rw [decide_eq_true rfl] at q1 q2
  have hN := fun hp L H d hF => new_walk (hp := hp) (L := L) (H := H) hF d
  have hEl := encF_length (table_le ht)
  have hEg := encF_ge x
  have hO := fun hp L H d hF => of_good (hp := hp) (L := L) (H := H) (d := d) hx hx8 ht hF
  have hO2 := fun hp L H d hF => ltof_good (hp := hp) (L := L) (H := H) (d := d) hx hx8 ht hF
  have W : Ws (hp ++ [Blk.cells 0 true (tsC c), Blk.cells 0 true (u8s x), Blk.cells 0 true (tsC o), Blk.cells 0 true (tsC o), Blk.cells (encF x).length true (is (encF x)), Blk.cells (encF x).length true (is (encF x)), Wr 0 []]) hp.length [] (hp.length + 6) (hp.length + 7) [] :=
    ⟨by rw [get_new]; rfl, fun h => absurd rfl h, fun _ => by simp, by omega, by omega, rfl, rfl, by omega, Bits.nil⟩
  have hP := putl_walk (d := []) W hx hx8 ht (by decide) (hF.mono (by simp))
  have hEb := encF_bits x
  rw [List.nil_append] at hP
  generalize encF x = Ae at *
  have hEn : Ae.length ≠ 0 := by omega
  simp only [slI_of hEn, slIB_of hEn] at hO hO2
  have hws := wset_new (hp := hp ++ [Blk.cells 0 true (tsC c), Blk.cells 0 true (u8s x), Blk.cells 0 true (tsC o), Blk.cells 0 true (tsC o), Blk.cells Ae.length true (is Ae), Blk.cells Ae.length true (is Ae), Wr 0 []]) (a := hp.length + 6) (m := Ae) hEn
  simp only [List.length_append, List.length_cons, List.length_nil, Nat.zero_add, Nat.reduceAdd] at hws
  have hdt : joinDirty [] (dirt (hp.length + 6) [] Ae) = [hp.length + 6] := by
    unfold dirt nb
    rw [if_neg (by rw [List.length_nil]; omega)]
    rfl
  rw [hws, set_new, hdt] at hP
  simp only [List.set_cons_succ, List.set_cons_zero, List.append_assoc, List.cons_append, List.nil_append] at hP
  have hI := fun L' d (hF' : Fit (hp ++ [Blk.cells 0 true (tsC c), Blk.cells 0 true (u8s x), Blk.cells 0 true (tsC o), Blk.cells 0 true (tsC o), Blk.cells Ae.length true (is Ae), Blk.cells Ae.length true (is Ae)]).length L' []) => inteq_walk (d := d) (rdI_at (hp := hp) (L := hp.length) (H := []) (n := Ae.length) (o := 0) (nw := [Blk.cells 0 true (tsC c), Blk.cells 0 true (u8s x), Blk.cells 0 true (tsC o), Blk.cells 0 true (tsC o), Blk.cells Ae.length true (is Ae), Blk.cells Ae.length true (is Ae)]) 4 (il Ae) (il Ae) (by rw [← is_il]; rfl) (by rw [List.drop_zero, List.take_of_length_le (by simp [il])]) (by simp [il]) hF) (rdI_at (hp := hp) (L := hp.length) (H := []) (n := Ae.length) (o := 0) (nw := [Blk.cells 0 true (tsC c), Blk.cells 0 true (u8s x), Blk.cells 0 true (tsC o), Blk.cells 0 true (tsC o), Blk.cells Ae.length true (is Ae), Blk.cells Ae.length true (is Ae)]) 5 (il Ae) (il Ae) (by rw [← is_il]; rfl) (by rw [List.drop_zero, List.take_of_length_le (by simp [il])]) (by simp [il]) hF) (by simp [il]; omega) hF'
  rw [decide_eq_true rfl] at hI
  have V : ∀ nw, Wv (hp ++ ([Blk.cells 0 true (tsC c), Blk.cells 0 true (u8s x), Blk.cells 0 true (tsC o), Blk.cells 0 true (tsC o), Blk.cells Ae.length true (is Ae), Blk.cells Ae.length true (is Ae), Wr (hp.length + 7) Ae, Wb Ae, Blk.cells 0 true (u8s y), Blk.cells 0 true (u8s y)] ++ nw)) [] (hp.length + 6) (hp.length + 7) Ae := fun nw => ⟨by rw [get_new]; rfl, fun _ => by rw [get_new]; rfl, rfl, fun _ => rfl, hEb⟩
  have hLen := fun L d (hF' : Fit (hp ++ ([Blk.cells 0 true (tsC c), Blk.cells 0 true (u8s x), Blk.cells 0 true (tsC o), Blk.cells 0 true (tsC o), Blk.cells Ae.length true (is Ae), Blk.cells Ae.length true (is Ae), Wr (hp.length + 7) Ae, Wb Ae, Blk.cells 0 true (u8s y), Blk.cells 0 true (u8s y)] ++ [])).length L []) => len_walk (V []) hF' d
  have hBy := fun L d (hF' : Fit (hp ++ ([Blk.cells 0 true (tsC c), Blk.cells 0 true (u8s x), Blk.cells 0 true (tsC o), Blk.cells 0 true (tsC o), Blk.cells Ae.length true (is Ae), Blk.cells Ae.length true (is Ae), Wr (hp.length + 7) Ae, Wb Ae, Blk.cells 0 true (u8s y), Blk.cells 0 true (u8s y)] ++ [])).length L []) => bytes_walk (V []) (by omega) hF' d
  have hRb := fun L d (hF' : Fit (hp ++ [Blk.cells 0 true (tsC c), Blk.cells 0 true (u8s x), Blk.cells 0 true (tsC o), Blk.cells 0 true (tsC o), Blk.cells Ae.length true (is Ae), Blk.cells Ae.length true (is Ae), Wr (hp.length + 7) Ae, Wb Ae, Blk.cells 0 true (u8s y), Blk.cells 0 true (u8s y), Blk.cells (nb Ae) true (u8s (byts Ae))]).length L []) => refbytes_walk (hp := hp ++ [Blk.cells 0 true (tsC c), Blk.cells 0 true (u8s x), Blk.cells 0 true (tsC o), Blk.cells 0 true (tsC o), Blk.cells Ae.length true (is Ae), Blk.cells Ae.length true (is Ae), Wr (hp.length + 7) Ae, Wb Ae, Blk.cells 0 true (u8s y), Blk.cells 0 true (u8s y), Blk.cells (nb Ae) true (u8s (byts Ae))]) (L := L) (H := []) (l := Ae) (s := hp.length + 5) hEb (fun h => by rw [get_new]; rfl) (fun h => rfl) (by omega) hF' d
  have x1 : ob Ae = some (byts Ae) := if_neg hEn
  have hbl : (byts Ae).length = nb Ae := byts_length ..
  simp only [x1, slI_of hEn, sl_some, slB_some, hbl, List.append_nil, List.append_assoc, List.cons_append, List.nil_append] at hBy hRb hLen
  have hst1 : ∀ L d, St.str ⟨hp ++ [Blk.cells 0 true (tsC c), Blk.cells 0 true (u8s x), Blk.cells 0 true (tsC o), Blk.cells 0 true (tsC o), Blk.cells Ae.length true (is Ae), Blk.cells Ae.length true (is Ae), Wr (hp.length + 7) Ae, Wb Ae, Blk.cells 0 true (u8s y), Blk.cells 0 true (u8s y), Blk.cells (nb Ae) true (u8s (byts Ae))], L, [], d⟩ (.slice (some ⟨hp.length + 10, 0, some (nb Ae)⟩) (nb Ae) 1) = some (b8 (byts Ae)) := fun L d => by
    have := (Rd.whole (hp := hp ++ [Blk.cells 0 true (tsC c), Blk.cells 0 true (u8s x), Blk.cells 0 true (tsC o), Blk.cells 0 true (tsC o), Blk.cells Ae.length true (is Ae), Blk.cells Ae.length true (is Ae), Wr (hp.length + 7) Ae, Wb Ae, Blk.cells 0 true (u8s y), Blk.cells 0 true (u8s y), Blk.cells (nb Ae) true (u8s (byts Ae))]) (H := []) (L := L) (d := d) (b := hp.length + 10) (e := 1) (by rw [get_new]; rfl) rfl (byts_by hEb) (.inr rfl)).str
    rwa [hbl] at this
  have hst2 : ∀ L d, St.str ⟨hp ++ [Blk.cells 0 true (tsC c), Blk.cells 0 true (u8s x), Blk.cells 0 true (tsC o), Blk.cells 0 true (tsC o), Blk.cells Ae.length true (is Ae), Blk.cells Ae.length true (is Ae), Wr (hp.length + 7) Ae, Wb Ae, Blk.cells 0 true (u8s y), Blk.cells 0 true (u8s y), Blk.cells (nb Ae) true (u8s (byts Ae)), Blk.cells (nb Ae) true (u8s (byts Ae))], L, [], d⟩ (.slice (some ⟨hp.length + 11, 0, some (nb Ae)⟩) (nb Ae) 1) = some (b8 (byts Ae)) := fun L d => by
    have := (Rd.whole (hp := hp ++ [Blk.cells 0 true (tsC c), Blk.cells 0 true (u8s x), Blk.cells 0 true (tsC o), Blk.cells 0 true (tsC o), Blk.cells Ae.length true (is Ae), Blk.cells Ae.length true (is Ae), Wr (hp.length + 7) Ae, Wb Ae, Blk.cells 0 true (u8s y), Blk.cells 0 true (u8s y), Blk.cells (nb Ae) true (u8s (byts Ae)), Blk.cells (nb Ae) true (u8s (byts Ae))]) (H := []) (L := L) (d := d) (b := hp.length + 11) (e := 1) (by rw [get_new]; rfl) rfl (byts_by hEb) (.inr rfl)).str
    rwa [hbl] at this
  have hgc : ∀ (b0 : Blk) (Bx : List Blk), gc hp.length [.bool true] ⟨hp ++ b0 :: Bx, hp.length, [], [hp.length + 6]⟩ = gc hp.length [.bool true] ⟨hp ++ b0 :: Bx, hp.length, [], []⟩ := fun b0 Bx => gc_own (by simp) (by simp)
  by_cases hv : Vld c
  · cases dn with
    | true =>
      simp (disch := (first | omega | (simp only [lnE] <;> omega) | (refine Fit.mono ‹Fit _ _ _› ?_ <;> (simp only [lnE] <;> omega)) | (refine Fit.draw ‹Fit _ _ _› ?_ ?_ <;> (simp only [lnE] <;> omega)) | (refine Fit.hid1 ‹Fit _ _ _› ?_ ?_ <;> (simp only [lnE] <;> omega)) | (refine Fit.hidc1 ‹Fit _ _ _› ?_ ?_ <;> (simp only [lnE] <;> omega)) | (refine Fit.hidc2 ‹Fit _ _ _› ?_ ?_ ?_ <;> (simp only [lnE] <;> omega)) | (refine Fit.draw1 ‹Fit _ _ _› ?_ ?_ ?_ <;> (simp only [lnE] <;> omega)) | (refine Fit.range0 ?_ ?_ <;> (simp only [lnE] <;> omega)) | fail)) only [syA, syB, argFr, D, E, T, C, undefv, eqF, aeq, sheqs, sheq, rdCells, cellsOf, fill, putAt, if_true, if_false, reduceIte, ↓reduceIte, reduceCtorEq, eq_self, Nat.reduceEqDiff, Nat.reduceAdd, Nat.reduceSub, Nat.reduceMul, Nat.reduceLT, Nat.reduceLeDiff, Nat.reducePow, Nat.reduceDiv, Nat.reduceMod, Int.reduceLT, Int.reduceLE, Int.reduceGT, Int.reduceGE, Int.reduceToNat, Int.reducePow, Int.reduceNeg, Int.reduceBEq, Int.reduceBNe, Int.reduceEq, Int.reduceAdd, Int.reduceSub, Int.reduceMul, cellv, sc, flatv, refs, refsF, refsC, hF.not0, hF.not1, hF.up0, hF.up1, ac6, hW, c1, hx, htx, le258 hx, u8s_cellv, u8s_scs, tsC_refs, tsC_cellv, tsC_sc, tsC_take hl, tsC_length hl, hS1, hS2, hV1, hV2, hR1, hR2, zs_eq, z0q, lz, hz, po, pzy, hty, hyl, q1, q2, hN, tsC_take hol, tsC_length hol, hO, hO2, hI, hP, hLen, hBy, hRb, hv, hst1, hst2, hgc]
      exact ⟨_, rfl⟩
    | false =>
      simp (disch := (first | omega | (simp only [lnE] <;> omega) | (refine Fit.mono ‹Fit _ _ _› ?_ <;> (simp only [lnE] <;> omega)) | (refine Fit.draw ‹Fit _ _ _› ?_ ?_ <;> (simp only [lnE] <;> omega)) | (refine Fit.hid1 ‹Fit _ _ _› ?_ ?_ <;> (simp only [lnE] <;> omega)) | (refine Fit.hidc1 ‹Fit _ _ _› ?_ ?_ <;> (simp only [lnE] <;> omega)) | (refine Fit.hidc2 ‹Fit _ _ _› ?_ ?_ ?_ <;> (simp only [lnE] <;> omega)) | (refine Fit.draw1 ‹Fit _ _ _› ?_ ?_ ?_ <;> (simp only [lnE] <;> omega)) | (refine Fit.range0 ?_ ?_ <;> (simp only [lnE] <;> omega)) | fail)) only [syA, syB, argFr, D, E, T, C, undefv, eqF, aeq, sheqs, sheq, rdCells, cellsOf, fill, putAt, if_true, if_false, reduceIte, ↓reduceIte, reduceCtorEq, eq_self, Nat.reduceEqDiff, Nat.reduceAdd, Nat.reduceSub, Nat.reduceMul, Nat.reduceLT, Nat.reduceLeDiff, Nat.reducePow, Nat.reduceDiv, Nat.reduceMod, Int.reduceLT, Int.reduceLE, Int.reduceGT, Int.reduceGE, Int.reduceToNat, Int.reducePow, Int.reduceNeg, Int.reduceBEq, Int.reduceBNe, Int.reduceEq, Int.reduceAdd, Int.reduceSub, Int.reduceMul, cellv, sc, flatv, refs, refsF, refsC, hF.not0, hF.not1, hF.up0, hF.up1, ac6, hW, c1, hx, htx, le258 hx, u8s_cellv, u8s_scs, tsC_refs, tsC_cellv, tsC_sc, tsC_take hl, tsC_length hl, hS1, hS2, hV1, hV2, hR1, hR2, zs_eq, z0q, lz, hz, po, pzy, hty, hyl, q1, q2, hN, tsC_take hol, tsC_length hol, hO, hO2, hI, hP, hLen, hBy, hRb, hv, hst1, hst2, hgc]
      exact ⟨_, rfl⟩
  · cases dn with
    | true =>
      simp (disch := (first | omega | (simp only [lnE] <;> omega) | (refine Fit.mono ‹Fit _ _ _› ?_ <;> (simp only [lnE] <;> omega)) | (refine Fit.draw ‹Fit _ _ _› ?_ ?_ <;> (simp only [lnE] <;> omega)) | (refine Fit.hid1 ‹Fit _ _ _› ?_ ?_ <;> (simp only [lnE] <;> omega)) | (refine Fit.hidc1 ‹Fit _ _ _› ?_ ?_ <;> (simp only [lnE] <;> omega)) | (refine Fit.hidc2 ‹Fit _ _ _› ?_ ?_ ?_ <;> (simp only [lnE] <;> omega)) | (refine Fit.draw1 ‹Fit _ _ _› ?_ ?_ ?_ <;> (simp only [lnE] <;> omega)) | (refine Fit.range0 ?_ ?_ <;> (simp only [lnE] <;> omega)) | fail)) only [syA, syB, argFr, D, E, T, C, undefv, eqF, aeq, sheqs, sheq, rdCells, cellsOf, fill, putAt, if_true, if_false, reduceIte, ↓reduceIte, reduceCtorEq, eq_self, Nat.reduceEqDiff, Nat.reduceAdd, Nat.reduceSub, Nat.reduceMul, Nat.reduceLT, Nat.reduceLeDiff, Nat.reducePow, Nat.reduceDiv, Nat.reduceMod, Int.reduceLT, Int.reduceLE, Int.reduceGT, Int.reduceGE, Int.reduceToNat, Int.reducePow, Int.reduceNeg, Int.reduceBEq, Int.reduceBNe, Int.reduceEq, Int.reduceAdd, Int.reduceSub, Int.reduceMul, cellv, sc, flatv, refs, refsF, refsC, hF.not0, hF.not1, hF.up0, hF.up1, ac6, hW, c1, hx, htx, le258 hx, u8s_cellv, u8s_scs, tsC_refs, tsC_cellv, tsC_sc, tsC_take hl, tsC_length hl, hS1, hS2, hV1, hV2, hR1, hR2, zs_eq, z0q, lz, hz, po, pzy, hty, hyl, q1, q2, hN, tsC_take hol, tsC_length hol, hO, hO2, hI, hP, hLen, hBy, hRb, hv, hst1, hst2, hgc]
      exact ⟨_, rfl⟩
    | false =>
      simp (disch := (first | omega | (simp only [lnE] <;> omega) | (refine Fit.mono ‹Fit _ _ _› ?_ <;> (simp only [lnE] <;> omega)) | (refine Fit.draw ‹Fit _ _ _› ?_ ?_ <;> (simp only [lnE] <;> omega)) | (refine Fit.hid1 ‹Fit _ _ _› ?_ ?_ <;> (simp only [lnE] <;> omega)) | (refine Fit.hidc1 ‹Fit _ _ _› ?_ ?_ <;> (simp only [lnE] <;> omega)) | (refine Fit.hidc2 ‹Fit _ _ _› ?_ ?_ ?_ <;> (simp only [lnE] <;> omega)) | (refine Fit.draw1 ‹Fit _ _ _› ?_ ?_ ?_ <;> (simp only [lnE] <;> omega)) | (refine Fit.range0 ?_ ?_ <;> (simp only [lnE] <;> omega)) | fail)) only [syA, syB, argFr, D, E, T, C, undefv, eqF, aeq, sheqs, sheq, rdCells, cellsOf, fill, putAt, if_true, if_false, reduceIte, ↓reduceIte, reduceCtorEq, eq_self, Nat.reduceEqDiff, Nat.reduceAdd, Nat.reduceSub, Nat.reduceMul, Nat.reduceLT, Nat.reduceLeDiff, Nat.reducePow, Nat.reduceDiv, Nat.reduceMod, Int.reduceLT, Int.reduceLE, Int.reduceGT, Int.reduceGE, Int.reduceToNat, Int.reducePow, Int.reduceNeg, Int.reduceBEq, Int.reduceBNe, Int.reduceEq, Int.reduceAdd, Int.reduceSub, Int.reduceMul, cellv, sc, flatv, refs, refsF, refsC, hF.not0, hF.not1, hF.up0, hF.up1, ac6, hW, c1, hx, htx, le258 hx, u8s_cellv, u8s_scs, tsC_refs, tsC_cellv, tsC_sc, tsC_take hl, tsC_length hl, hS1, hS2, hV1, hV2, hR1, hR2, zs_eq, z0q, lz, hz, po, pzy, hty, hyl, q1, q2, hN, tsC_take hol, tsC_length hol, hO, hO2, hI, hP, hLen, hBy, hRb, hv, hst1, hst2, hgc]
      exact ⟨_, rfl⟩
end LtA
end Go.Proofs.Ytlphmnhkkhcjfaa
end
