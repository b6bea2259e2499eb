/-
  LENGTH TABLES: the reference's Read, on the abstract machine. Conditions: none.
-/
import Derived.Test.YtlphmnhkkhcjfaaLtV
import Derived.Test.YtlphmnhkkhcjfaaLtY
set_option linter.all false
section
namespace Go.Proofs.Ytlphmnhkkhcjfaa
namespace LtA
open Go Go.RowKit AM ArEnv Bt
variable {hp : List Blk} {L : Nat} {H d : List Nat}

theorem ltread_loop {v : Value} {l : List Int} (R : RdI hp H v l) (hl : l.length ≤ 9223372036854775806) (hF : Fit hp.length L H) : ∀ (rest : List Int) (i : Nat) (c : Ts), l.drop i = rest → i ≤ l.length → TsOk c →
    ∃ ex fr nx, Liter env lb22_0 [0, 5, 6, 2] (hp.length + 2) [(0, v), (5, .pointer (some ⟨hp.length + 1, 0, some 0⟩)), (6, .int .i64 i), (2, .pointer (some ⟨hp.length, 0, some 0⟩))] ⟨hp ++ [.cells 0 true (u8s zs), .cells 0 true (tsC c)], L, H, []⟩
      = some (ex, fr, ⟨hp ++ nx, L, H, []⟩) ∧ ReadEnd hp.length (readF c rest i) ex fr nx
  | [], i, c, hd, hi, o => by
    have e1 : i = l.length := by have := congrArg List.length hd; simp at this; omega
    subst e1
    obtain ⟨p, e', rfl⟩ := R.len
    rw [iter_by lb22_0.eq_1]
    simp (disch := (first | omega | (simp only [lnE] <;> omega) | (refine Fit.mono ‹Fit _ _ _› ?_ <;> (simp only [lnE] <;> omega)) | (refine Fit.draw ‹Fit _ _ _› ?_ ?_ <;> (simp only [lnE] <;> omega)) | (refine Fit.hid1 ‹Fit _ _ _› ?_ ?_ <;> (simp only [lnE] <;> omega)) | (refine Fit.hidc1 ‹Fit _ _ _› ?_ ?_ <;> (simp only [lnE] <;> omega)) | (refine Fit.hidc2 ‹Fit _ _ _› ?_ ?_ ?_ <;> (simp only [lnE] <;> omega)) | (refine Fit.draw1 ‹Fit _ _ _› ?_ ?_ ?_ <;> (simp only [lnE] <;> omega)) | (refine Fit.range0 ?_ ?_ <;> (simp only [lnE] <;> omega)) | fail)) only [syA, syB, argFr, D, E, T, C, undefv, eqF, aeq, sheqs, sheq, rdCells, cellsOf, fill, putAt, if_true, if_false, reduceIte, ↓reduceIte, reduceCtorEq, eq_self, Nat.reduceEqDiff, Nat.reduceAdd, Nat.reduceSub, Nat.reduceMul, Nat.reduceLT, Nat.reduceLeDiff, Nat.reducePow, Nat.reduceDiv, Nat.reduceMod, Int.reduceLT, Int.reduceLE, Int.reduceGT, Int.reduceGE, Int.reduceToNat, Int.reducePow, Int.reduceNeg, Int.reduceBEq, Int.reduceBNe, Int.reduceEq, Int.reduceAdd, Int.reduceSub, Int.reduceMul, cellv, sc, flatv, refs, refsF, refsC, hF.not0, hF.not1, hF.up0, hF.up1]
    exact ⟨_, _, _, rfl, ReadEnd.out rfl rfl⟩
  | b :: rest, i, c, hd, hi, o => by
    have hil : i < l.length := by have := congrArg List.length hd; simp at this; omega
    have hli : l[i] = b := by have := List.drop_eq_getElem_cons hil; rw [hd] at this; exact (List.cons.inj this).1.symm
    have hlr : l.drop (i + 1) = rest := by have := List.drop_eq_getElem_cons hil; rw [hd] at this; exact (List.cons.inj this).2.symm
    obtain ⟨p, e', hv⟩ := R.len
    subst hv
    obtain ⟨bb, oo, g, pl, cs, rfl, hh, hb, hcell⟩ := R.at_ hil
    rw [hli] at hcell
    have hbl := (List.getElem?_eq_some_iff.1 hb).1
    have h1 : (i : Int) < (l.length : Nat) := by omega
    have h0 : (0 : Int) ≤ (i : Int) := by omega
    have hz := zs_length
    have htk : (u8s zs).take 258 = u8s zs := List.take_of_length_le (by rw [u8s_length, hz]; omega)
    have hpz : putAt (u8s zs) 0 (u8s zs) = u8s zs := putAt_full rfl
    have z0q : u8s zs ++ [.int .i64 0, .int .i64 0, .int .i64 0, .int .i64 0] = tsC z0 := rfl
    have lz : (tsC z0).length = 262 := tsC_length (c := z0) hz
    rw [iter_by lb22_0.eq_1]
    by_cases hb01 : b = 0 ∨ b = 1
    · have ho := o.len
      obtain ⟨bn, hbn⟩ : ∃ bn : Nat, b = (bn : Nat) := ⟨b.toNat, by omega⟩
      subst hbn
      have hnx := fun hp L H d hF => way_walk (hp := hp) (L := L) (H := H) (d := d) o (b := bn) (by omega) hF
      have hln := wyF_len (b := bn) o.len
      have hsy := nextF_sym o.sym1 bn
      have hrd : readF c ((bn : Int) :: rest) i = if (nextF c bn).2 then (if (nextF c bn).1.sym = 258 then ((nextF c bn).1.l, (i : Int) + 1, 0) else readF (nextF c bn).1 rest (i + 1)) else (zs, 0, 100) := by
        rw [readF, if_pos hb01, Int.toNat_natCast]
      rw [hrd]
      have hok := fun h1 h2 => nextF_ok o (b := bn) (by omega) h1 h2
      have hwy := wyF_ok (c := c) (b := bn)
      obtain ⟨c2, hc2⟩ : ∃ c2, c2 = wyF c bn := ⟨_, rfl⟩
      rw [← hc2] at hnx hln hwy
      have pz : putAt (tsC z0) 0 (tsC c2) = tsC c2 := putAt_full (by rw [tsC_length hln, tsC_length (c := z0) hz])
      have pc : putAt (tsC c) 0 (tsC c2) = tsC c2 := putAt_full (by rw [tsC_length hln, tsC_length ho])
      have ty := tsC_sym hln
      have tl := tsC_lens hln
      have c0 : ¬ ((bn : Int) = 0) ∨ (bn : Int) = 0 := by omega
      cases hf : (nextF c bn).2 with
      | false =>
        rw [hf] at hnx
        rw [if_neg (by simp)]
        rcases hb01 with e0 | e0 <;> rw [e0] at hcell hnx
        · simp (disch := (first | omega | (simp only [lnE] <;> omega) | (refine Fit.mono ‹Fit _ _ _› ?_ <;> (simp only [lnE] <;> omega)) | (refine Fit.draw ‹Fit _ _ _› ?_ ?_ <;> (simp only [lnE] <;> omega)) | (refine Fit.hid1 ‹Fit _ _ _› ?_ ?_ <;> (simp only [lnE] <;> omega)) | (refine Fit.hidc1 ‹Fit _ _ _› ?_ ?_ <;> (simp only [lnE] <;> omega)) | (refine Fit.hidc2 ‹Fit _ _ _› ?_ ?_ ?_ <;> (simp only [lnE] <;> omega)) | (refine Fit.draw1 ‹Fit _ _ _› ?_ ?_ ?_ <;> (simp only [lnE] <;> omega)) | (refine Fit.range0 ?_ ?_ <;> (simp only [lnE] <;> omega)) | fail)) only [syA, syB, argFr, D, E, T, C, undefv, eqF, aeq, sheqs, sheq, rdCells, cellsOf, fill, putAt, if_true, if_false, reduceIte, ↓reduceIte, reduceCtorEq, eq_self, Nat.reduceEqDiff, Nat.reduceAdd, Nat.reduceSub, Nat.reduceMul, Nat.reduceLT, Nat.reduceLeDiff, Nat.reducePow, Nat.reduceDiv, Nat.reduceMod, Int.reduceLT, Int.reduceLE, Int.reduceGT, Int.reduceGE, Int.reduceToNat, Int.reducePow, Int.reduceNeg, Int.reduceBEq, Int.reduceBNe, Int.reduceEq, Int.reduceAdd, Int.reduceSub, Int.reduceMul, cellv, sc, flatv, refs, refsF, refsC, hF.not0, hF.not1, hF.up0, hF.up1, h0, h1, hh, hb, hcell, hnx, zs_eq, z0q, tsC_refs, tsC_cellv, tsC_sc, tsC_take ho, tsC_take hln, tsC_length hln, tsC_length ho, lz, pz, pc, u8s_cellv, u8s_scs, htk, hz, hpz]
          exact ⟨_, _, _, rfl, ReadEnd.ret rfl hz rfl rfl rfl⟩
        · simp (disch := (first | omega | (simp only [lnE] <;> omega) | (refine Fit.mono ‹Fit _ _ _› ?_ <;> (simp only [lnE] <;> omega)) | (refine Fit.draw ‹Fit _ _ _› ?_ ?_ <;> (simp only [lnE] <;> omega)) | (refine Fit.hid1 ‹Fit _ _ _› ?_ ?_ <;> (simp only [lnE] <;> omega)) | (refine Fit.hidc1 ‹Fit _ _ _› ?_ ?_ <;> (simp only [lnE] <;> omega)) | (refine Fit.hidc2 ‹Fit _ _ _› ?_ ?_ ?_ <;> (simp only [lnE] <;> omega)) | (refine Fit.draw1 ‹Fit _ _ _› ?_ ?_ ?_ <;> (simp only [lnE] <;> omega)) | (refine Fit.range0 ?_ ?_ <;> (simp only [lnE] <;> omega)) | fail)) only [syA, syB, argFr, D, E, T, C, undefv, eqF, aeq, sheqs, sheq, rdCells, cellsOf, fill, putAt, if_true, if_false, reduceIte, ↓reduceIte, reduceCtorEq, eq_self, Nat.reduceEqDiff, Nat.reduceAdd, Nat.reduceSub, Nat.reduceMul, Nat.reduceLT, Nat.reduceLeDiff, Nat.reducePow, Nat.reduceDiv, Nat.reduceMod, Int.reduceLT, Int.reduceLE, Int.reduceGT, Int.reduceGE, Int.reduceToNat, Int.reducePow, Int.reduceNeg, Int.reduceBEq, Int.reduceBNe, Int.reduceEq, Int.reduceAdd, Int.reduceSub, Int.reduceMul, cellv, sc, flatv, refs, refsF, refsC, hF.not0, hF.not1, hF.up0, hF.up1, h0, h1, hh, hb, hcell, hnx, zs_eq, z0q, tsC_refs, tsC_cellv, tsC_sc, tsC_take ho, tsC_take hln, tsC_length hln, tsC_length ho, lz, pz, pc, u8s_cellv, u8s_scs, htk, hz, hpz]
          exact ⟨_, _, _, rfl, ReadEnd.ret rfl hz rfl rfl rfl⟩
      | true =>
        rw [hf] at hnx hok
        rw [if_pos rfl, ← hwy hf]
        rw [← hwy hf] at hsy hok
        by_cases hs : c2.sym = 258
        · rw [if_pos hs]
          rw [hs] at ty
          have pl2 : putAt (u8s zs) 0 (u8s c2.l) = u8s c2.l := putAt_full (by rw [u8s_length, u8s_length, hz, hln])
          rcases hb01 with e0 | e0 <;> rw [e0] at hcell hnx
          · simp (disch := (first | omega | (simp only [lnE] <;> omega) | (refine Fit.mono ‹Fit _ _ _› ?_ <;> (simp only [lnE] <;> omega)) | (refine Fit.draw ‹Fit _ _ _› ?_ ?_ <;> (simp only [lnE] <;> omega)) | (refine Fit.hid1 ‹Fit _ _ _› ?_ ?_ <;> (simp only [lnE] <;> omega)) | (refine Fit.hidc1 ‹Fit _ _ _› ?_ ?_ <;> (simp only [lnE] <;> omega)) | (refine Fit.hidc2 ‹Fit _ _ _› ?_ ?_ ?_ <;> (simp only [lnE] <;> omega)) | (refine Fit.draw1 ‹Fit _ _ _› ?_ ?_ ?_ <;> (simp only [lnE] <;> omega)) | (refine Fit.range0 ?_ ?_ <;> (simp only [lnE] <;> omega)) | fail)) only [syA, syB, argFr, D, E, T, C, undefv, eqF, aeq, sheqs, sheq, rdCells, cellsOf, fill, putAt, if_true, if_false, reduceIte, ↓reduceIte, reduceCtorEq, eq_self, Nat.reduceEqDiff, Nat.reduceAdd, Nat.reduceSub, Nat.reduceMul, Nat.reduceLT, Nat.reduceLeDiff, Nat.reducePow, Nat.reduceDiv, Nat.reduceMod, Int.reduceLT, Int.reduceLE, Int.reduceGT, Int.reduceGE, Int.reduceToNat, Int.reducePow, Int.reduceNeg, Int.reduceBEq, Int.reduceBNe, Int.reduceEq, Int.reduceAdd, Int.reduceSub, Int.reduceMul, cellv, sc, flatv, refs, refsF, refsC, hF.not0, hF.not1, hF.up0, hF.up1, h0, h1, hh, hb, hcell, hnx, zs_eq, z0q, tsC_refs, tsC_cellv, tsC_sc, tsC_take ho, tsC_take hln, tsC_length hln, tsC_length ho, lz, pz, pc, u8s_cellv, u8s_scs, htk, hz, hpz, hln, ty, tl, pl2]
            exact ⟨_, _, _, rfl, ReadEnd.ret rfl hln rfl rfl rfl⟩
          · simp (disch := (first | omega | (simp only [lnE] <;> omega) | (refine Fit.mono ‹Fit _ _ _› ?_ <;> (simp only [lnE] <;> omega)) | (refine Fit.draw ‹Fit _ _ _› ?_ ?_ <;> (simp only [lnE] <;> omega)) | (refine Fit.hid1 ‹Fit _ _ _› ?_ ?_ <;> (simp only [lnE] <;> omega)) | (refine Fit.hidc1 ‹Fit _ _ _› ?_ ?_ <;> (simp only [lnE] <;> omega)) | (refine Fit.hidc2 ‹Fit _ _ _› ?_ ?_ ?_ <;> (simp only [lnE] <;> omega)) | (refine Fit.draw1 ‹Fit _ _ _› ?_ ?_ ?_ <;> (simp only [lnE] <;> omega)) | (refine Fit.range0 ?_ ?_ <;> (simp only [lnE] <;> omega)) | fail)) only [syA, syB, argFr, D, E, T, C, undefv, eqF, aeq, sheqs, sheq, rdCells, cellsOf, fill, putAt, if_true, if_false, reduceIte, ↓reduceIte, reduceCtorEq, eq_self, Nat.reduceEqDiff, Nat.reduceAdd, Nat.reduceSub, Nat.reduceMul, Nat.reduceLT, Nat.reduceLeDiff, Nat.reducePow, Nat.reduceDiv, Nat.reduceMod, Int.reduceLT, Int.reduceLE, Int.reduceGT, Int.reduceGE, Int.reduceToNat, Int.reducePow, Int.reduceNeg, Int.reduceBEq, Int.reduceBNe, Int.reduceEq, Int.reduceAdd, Int.reduceSub, Int.reduceMul, cellv, sc, flatv, refs, refsF, refsC, hF.not0, hF.not1, hF.up0, hF.up1, h0, h1, hh, hb, hcell, hnx, zs_eq, z0q, tsC_refs, tsC_cellv, tsC_sc, tsC_take ho, tsC_take hln, tsC_length hln, tsC_length ho, lz, pz, pc, u8s_cellv, u8s_scs, htk, hz, hpz, hln, ty, tl, pl2]
            exact ⟨_, _, _, rfl, ReadEnd.ret rfl hln rfl rfl rfl⟩
        · rw [if_neg hs]
          have hs' : ¬ c2.sym = 258 := hs
          obtain ⟨ex, fr, nx, e1, e2⟩ := ltread_loop R hl hF rest (i + 1) c2 hlr (by omega) (hok rfl (by omega))
          simp only [Int.natCast_add, Int.natCast_one] at e1
          rcases hb01 with e0 | e0 <;> rw [e0] at hcell hnx
          · simp (disch := (first | omega | (simp only [lnE] <;> omega) | (refine Fit.mono ‹Fit _ _ _› ?_ <;> (simp only [lnE] <;> omega)) | (refine Fit.draw ‹Fit _ _ _› ?_ ?_ <;> (simp only [lnE] <;> omega)) | (refine Fit.hid1 ‹Fit _ _ _› ?_ ?_ <;> (simp only [lnE] <;> omega)) | (refine Fit.hidc1 ‹Fit _ _ _› ?_ ?_ <;> (simp only [lnE] <;> omega)) | (refine Fit.hidc2 ‹Fit _ _ _› ?_ ?_ ?_ <;> (simp only [lnE] <;> omega)) | (refine Fit.draw1 ‹Fit _ _ _› ?_ ?_ ?_ <;> (simp only [lnE] <;> omega)) | (refine Fit.range0 ?_ ?_ <;> (simp only [lnE] <;> omega)) | fail)) only [syA, syB, argFr, D, E, T, C, undefv, eqF, aeq, sheqs, sheq, rdCells, cellsOf, fill, putAt, if_true, if_false, reduceIte, ↓reduceIte, reduceCtorEq, eq_self, Nat.reduceEqDiff, Nat.reduceAdd, Nat.reduceSub, Nat.reduceMul, Nat.reduceLT, Nat.reduceLeDiff, Nat.reducePow, Nat.reduceDiv, Nat.reduceMod, Int.reduceLT, Int.reduceLE, Int.reduceGT, Int.reduceGE, Int.reduceToNat, Int.reducePow, Int.reduceNeg, Int.reduceBEq, Int.reduceBNe, Int.reduceEq, Int.reduceAdd, Int.reduceSub, Int.reduceMul, cellv, sc, flatv, refs, refsF, refsC, hF.not0, hF.not1, hF.up0, hF.up1, h0, h1, hh, hb, hcell, hnx, zs_eq, z0q, tsC_refs, tsC_cellv, tsC_sc, tsC_take ho, tsC_take hln, tsC_length hln, tsC_length ho, lz, pz, pc, u8s_cellv, u8s_scs, htk, hz, hpz, hln, ty, tl, hs']
            rw [gcFr_cut 2 (by simp) (by
              intro p hp' r hr
              simp only [List.mem_cons, List.not_mem_nil, or_false] at hp'
              rcases hp' with rfl | rfl | rfl | rfl
              · simp [refs, refsF, refsC] at hr; omega
              · simp [refs, refsF, refsC] at hr; omega
              · simp [refs, refsF, refsC] at hr
              · simp [refs, refsF, refsC] at hr; omega)]
            simp only [List.take_succ_cons, List.take_zero, againX_some]
            exact ⟨ex, fr, nx, e1, e2⟩
          · simp (disch := (first | omega | (simp only [lnE] <;> omega) | (refine Fit.mono ‹Fit _ _ _› ?_ <;> (simp only [lnE] <;> omega)) | (refine Fit.draw ‹Fit _ _ _› ?_ ?_ <;> (simp only [lnE] <;> omega)) | (refine Fit.hid1 ‹Fit _ _ _› ?_ ?_ <;> (simp only [lnE] <;> omega)) | (refine Fit.hidc1 ‹Fit _ _ _› ?_ ?_ <;> (simp only [lnE] <;> omega)) | (refine Fit.hidc2 ‹Fit _ _ _› ?_ ?_ ?_ <;> (simp only [lnE] <;> omega)) | (refine Fit.draw1 ‹Fit _ _ _› ?_ ?_ ?_ <;> (simp only [lnE] <;> omega)) | (refine Fit.range0 ?_ ?_ <;> (simp only [lnE] <;> omega)) | fail)) only [syA, syB, argFr, D, E, T, C, undefv, eqF, aeq, sheqs, sheq, rdCells, cellsOf, fill, putAt, if_true, if_false, reduceIte, ↓reduceIte, reduceCtorEq, eq_self, Nat.reduceEqDiff, Nat.reduceAdd, Nat.reduceSub, Nat.reduceMul, Nat.reduceLT, Nat.reduceLeDiff, Nat.reducePow, Nat.reduceDiv, Nat.reduceMod, Int.reduceLT, Int.reduceLE, Int.reduceGT, Int.reduceGE, Int.reduceToNat, Int.reducePow, Int.reduceNeg, Int.reduceBEq, Int.reduceBNe, Int.reduceEq, Int.reduceAdd, Int.reduceSub, Int.reduceMul, cellv, sc, flatv, refs, refsF, refsC, hF.not0, hF.not1, hF.up0, hF.up1, h0, h1, hh, hb, hcell, hnx, zs_eq, z0q, tsC_refs, tsC_cellv, tsC_sc, tsC_take ho, tsC_take hln, tsC_length hln, tsC_length ho, lz, pz, pc, u8s_cellv, u8s_scs, htk, hz, hpz, hln, ty, tl, hs']
            rw [gcFr_cut 2 (by simp) (by
              intro p hp' r hr
              simp only [List.mem_cons, List.not_mem_nil, or_false] at hp'
              rcases hp' with rfl | rfl | rfl | rfl
              · simp [refs, refsF, refsC] at hr; omega
              · simp [refs, refsF, refsC] at hr; omega
              · simp [refs, refsF, refsC] at hr
              · simp [refs, refsF, refsC] at hr; omega)]
            simp only [List.take_succ_cons, List.take_zero, againX_some]
            exact ⟨ex, fr, nx, e1, e2⟩
    · have hq0 : ¬ b = 0 := by omega
      have hq1 : ¬ b = 1 := by omega
      have hrd : readF c (b :: rest) i = (zs, 0, 2) := by rw [readF, if_neg hb01]
      rw [hrd]
      simp (disch := (first | omega | (simp only [lnE] <;> omega) | (refine Fit.mono ‹Fit _ _ _› ?_ <;> (simp only [lnE] <;> omega)) | (refine Fit.draw ‹Fit _ _ _› ?_ ?_ <;> (simp only [lnE] <;> omega)) | (refine Fit.hid1 ‹Fit _ _ _› ?_ ?_ <;> (simp only [lnE] <;> omega)) | (refine Fit.hidc1 ‹Fit _ _ _› ?_ ?_ <;> (simp only [lnE] <;> omega)) | (refine Fit.hidc2 ‹Fit _ _ _› ?_ ?_ ?_ <;> (simp only [lnE] <;> omega)) | (refine Fit.draw1 ‹Fit _ _ _› ?_ ?_ ?_ <;> (simp only [lnE] <;> omega)) | (refine Fit.range0 ?_ ?_ <;> (simp only [lnE] <;> omega)) | fail)) only [syA, syB, argFr, D, E, T, C, undefv, eqF, aeq, sheqs, sheq, rdCells, cellsOf, fill, putAt, if_true, if_false, reduceIte, ↓reduceIte, reduceCtorEq, eq_self, Nat.reduceEqDiff, Nat.reduceAdd, Nat.reduceSub, Nat.reduceMul, Nat.reduceLT, Nat.reduceLeDiff, Nat.reducePow, Nat.reduceDiv, Nat.reduceMod, Int.reduceLT, Int.reduceLE, Int.reduceGT, Int.reduceGE, Int.reduceToNat, Int.reducePow, Int.reduceNeg, Int.reduceBEq, Int.reduceBNe, Int.reduceEq, Int.reduceAdd, Int.reduceSub, Int.reduceMul, cellv, sc, flatv, refs, refsF, refsC, hF.not0, hF.not1, hF.up0, hF.up1, h0, h1, hh, hb, hcell, hq0, hq1, zs_eq, u8s_cellv, u8s_scs, htk, hz, hpz]
      exact ⟨_, _, _, rfl, ReadEnd.ret rfl hz rfl rfl rfl⟩
theorem ltread_walk {v : Value} {l : List Int} (R : RdI hp H v l) (hl : l.length ≤ 9223372036854775806) (hF : Fit hp.length L H) :
    Lrun env (.func 22) [v] ⟨hp, L, H, d⟩ = some (.tuple #[.agg (u8s (readF z0 l 0).1).toArray, .int .i64 (readF z0 l 0).2.1, .int .i64 (readF z0 l 0).2.2], ⟨hp, L, H, d⟩) := by
  rw [Lrun_sym 22 _ _ fn22]
  obtain ⟨ex, fr, nx, e1, e2, e3⟩ := ltread_loop R hl hF l 0 z0 rfl (by omega) z0_ok
  simp only [Int.natCast_zero] at e1
  have hz := zs_length
  have htk : (u8s zs).take 258 = u8s zs := List.take_of_length_le (by rw [u8s_length, hz]; omega)
  have hpz : putAt (u8s zs) 0 (u8s zs) = u8s zs := putAt_full rfl
  have z0q : u8s zs ++ [.int .i64 0, .int .i64 0, .int .i64 0, .int .i64 0] = tsC z0 := rfl
  obtain ⟨p, e', rfl⟩ := R.len
  generalize readF z0 l 0 = q at *
  rcases e3 with ⟨rfl, h1, h2, h3, h4⟩ | ⟨rfl, h2, h3⟩
  · obtain ⟨b, nx', rfl⟩ : ∃ b nx', nx = b :: nx' := by
      cases nx with
      | nil => cases h2
      | cons b nx' => exact ⟨b, nx', rfl⟩
    simp only [List.getElem?_cons_zero, Option.some.injEq] at h2
    subst h2
    have htq : (u8s q.1).take 258 = u8s q.1 := List.take_of_length_le (by rw [u8s_length, h1]; omega)
    have hq258 : (258 ≤ q.1.length) = True := eq_true (by omega)
    simp (disch := (first | omega | (simp only [lnE] <;> omega) | (refine Fit.mono ‹Fit _ _ _› ?_ <;> (simp only [lnE] <;> omega)) | (refine Fit.draw ‹Fit _ _ _› ?_ ?_ <;> (simp only [lnE] <;> omega)) | (refine Fit.hid1 ‹Fit _ _ _› ?_ ?_ <;> (simp only [lnE] <;> omega)) | (refine Fit.hidc1 ‹Fit _ _ _› ?_ ?_ <;> (simp only [lnE] <;> omega)) | (refine Fit.hidc2 ‹Fit _ _ _› ?_ ?_ ?_ <;> (simp only [lnE] <;> omega)) | (refine Fit.draw1 ‹Fit _ _ _› ?_ ?_ ?_ <;> (simp only [lnE] <;> omega)) | (refine Fit.range0 ?_ ?_ <;> (simp only [lnE] <;> omega)) | fail)) only [syA, syB, argFr, D, E, T, C, undefv, eqF, aeq, sheqs, sheq, rdCells, cellsOf, fill, putAt, if_true, if_false, reduceIte, ↓reduceIte, reduceCtorEq, eq_self, Nat.reduceEqDiff, Nat.reduceAdd, Nat.reduceSub, Nat.reduceMul, Nat.reduceLT, Nat.reduceLeDiff, Nat.reducePow, Nat.reduceDiv, Nat.reduceMod, Int.reduceLT, Int.reduceLE, Int.reduceGT, Int.reduceGE, Int.reduceToNat, Int.reducePow, Int.reduceNeg, Int.reduceBEq, Int.reduceBNe, Int.reduceEq, Int.reduceAdd, Int.reduceSub, Int.reduceMul, cellv, sc, flatv, refs, refsF, refsC, hF.not0, hF.not1, hF.up0, hF.up1, ac22, z0q, zs_eq, e1, e2, h3, h4, htq, h1, hq258, u8s_refs]
  · obtain ⟨b, nx', rfl⟩ : ∃ b nx', nx = b :: nx' := by
      cases nx with
      | nil => cases h2
      | cons b nx' => exact ⟨b, nx', rfl⟩
    simp only [List.getElem?_cons_zero, Option.some.injEq] at h2
    subst h2 h3
    simp (disch := (first | omega | (simp only [lnE] <;> omega) | (refine Fit.mono ‹Fit _ _ _› ?_ <;> (simp only [lnE] <;> omega)) | (refine Fit.draw ‹Fit _ _ _› ?_ ?_ <;> (simp only [lnE] <;> omega)) | (refine Fit.hid1 ‹Fit _ _ _› ?_ ?_ <;> (simp only [lnE] <;> omega)) | (refine Fit.hidc1 ‹Fit _ _ _› ?_ ?_ <;> (simp only [lnE] <;> omega)) | (refine Fit.hidc2 ‹Fit _ _ _› ?_ ?_ ?_ <;> (simp only [lnE] <;> omega)) | (refine Fit.draw1 ‹Fit _ _ _› ?_ ?_ ?_ <;> (simp only [lnE] <;> omega)) | (refine Fit.range0 ?_ ?_ <;> (simp only [lnE] <;> omega)) | fail)) only [syA, syB, argFr, D, E, T, C, undefv, eqF, aeq, sheqs, sheq, rdCells, cellsOf, fill, putAt, if_true, if_false, reduceIte, ↓reduceIte, reduceCtorEq, eq_self, Nat.reduceEqDiff, Nat.reduceAdd, Nat.reduceSub, Nat.reduceMul, Nat.reduceLT, Nat.reduceLeDiff, Nat.reducePow, Nat.reduceDiv, Nat.reduceMod, Int.reduceLT, Int.reduceLE, Int.reduceGT, Int.reduceGE, Int.reduceToNat, Int.reducePow, Int.reduceNeg, Int.reduceBEq, Int.reduceBNe, Int.reduceEq, Int.reduceAdd, Int.reduceSub, Int.reduceMul, cellv, sc, flatv, refs, refsF, refsC, hF.not0, hF.not1, hF.up0, hF.up1, ac22, z0q, zs_eq, e1, e2, u8s_cellv, u8s_scs, htk, hz, hpz, u8s_refs]
end LtA
end Go.Proofs.Ytlphmnhkkhcjfaa
end
