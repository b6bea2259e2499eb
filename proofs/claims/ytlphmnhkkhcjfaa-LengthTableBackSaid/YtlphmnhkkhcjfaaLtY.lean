/-
  LENGTH TABLES: the law of any bits. Conditions: none.
-/
import Derived.Test.YtlphmnhkkhcjfaaLtX
import Derived.Test.YtlphmnhkkhcjfaaLtT
set_option linter.all false
section
namespace Go.Proofs.Ytlphmnhkkhcjfaa
namespace LtA
open Go Go.RowKit AM ArEnv Bt
variable {hp : List Blk} {L : Nat} {H d : List Nat}

theorem Come.gs {c : Ts} {i : Nat} (h : Come c i) (hi : i ≤ 100000) : Gs c := by
  have hl := h.len
  have hb := h.by_
  rcases h with h | ⟨f, h⟩
  · have := pow2_le h.i3
    have := h.sym; have := h.bits; have := h.now0; have := h.now1; have := h.way; have := h.i3
    exact ⟨hl, hb, by omega, by omega, by omega, by omega, by omega, by omega, by omega, by omega⟩
  · have := h.sym0; have := h.sym1; have := h.bits0; have := h.bits1; have := h.now0; have := h.now1; have := h.way0; have := h.way1
    exact ⟨hl, hb, by omega, by omega, by omega, by omega, by omega, by omega, by omega, by omega⟩
/-- The four ends of a step. -/
theorem step_cases {c : Ts} {i : Nat} (h : Come c i) (hs : c.sym < 258) (b : Int) (r : List Int) :
    (stepF c b = (z0, false, 2) ∧ readF c (b :: r) i = (zs, 0, 2)) ∨ (stepF c b = (z0, false, 100) ∧ readF c (b :: r) i = (zs, 0, 100)) ∨
    (∃ o, stepF c b = (o, true, 0) ∧ Come o (i + 1) ∧ o.sym = 258 ∧ readF c (b :: r) i = (o.l, (i : Int) + 1, 0) ∧ ∃ bn : Nat, bn < 2 ∧ b = bn ∧ trail c [bn] = some o) ∨
    (∃ o, stepF c b = (o, false, 0) ∧ Come o (i + 1) ∧ o.sym < 258 ∧ readF c (b :: r) i = readF o r (i + 1) ∧ ∃ bn : Nat, bn < 2 ∧ b = bn ∧ trail c [bn] = some o) := by
  by_cases hb : b = 0 ∨ b = 1
  · obtain ⟨bn, rfl⟩ : ∃ bn : Nat, b = (bn : Nat) := ⟨b.toNat, by omega⟩
    have hb2 : bn < 2 := by omega
    have e : stepF c (bn : Int) = (if (nextF c bn).2 then ((nextF c bn).1, decide ((nextF c bn).1.sym = 258), 0) else (z0, false, 100)) := by
      unfold stepF; rw [if_pos ⟨h.vld, by omega, hb⟩, Int.toNat_natCast]
    have e2 : readF c ((bn : Int) :: r) i = if (nextF c bn).2 then (if (nextF c bn).1.sym = 258 then ((nextF c bn).1.l, (i : Int) + 1, 0) else readF (nextF c bn).1 r (i + 1)) else (zs, 0, 100) := by
      rw [readF, if_pos hb, Int.toNat_natCast]
    cases hf : (nextF c bn).2 with
    | false => rw [hf, if_neg (by simp)] at e e2; exact .inr (.inl ⟨e, e2⟩)
    | true =>
      have hn := h.next hs hb2 hf
      have hsy := nextF_sym hs bn
      have ht : trail c [bn] = some (nextF c bn).1 := by simp only [trail]; rw [if_pos ⟨hs, hf⟩]
      rw [hf, if_pos rfl] at e e2
      by_cases c2 : (nextF c bn).1.sym = 258
      · rw [if_pos c2] at e2
        rw [decide_eq_true c2] at e
        exact .inr (.inr (.inl ⟨_, e, hn, c2, e2, bn, hb2, rfl, ht⟩))
      · rw [if_neg c2] at e2
        rw [decide_eq_false c2] at e
        exact .inr (.inr (.inr ⟨_, e, hn, by omega, e2, bn, hb2, rfl, ht⟩))
  · left
    refine ⟨by unfold stepF; rw [if_neg fun hh => hb hh.2.2], ?_⟩
    rw [readF, if_neg hb]
/-- What the loop leaves. -/
def AnyEnd (fr : Fr) (ex : Ex) (x : List Nat) (n e : Int) (v : Value) (len b3 : Nat) : Prop :=
  (ex = .ret ∧ fr.get 2 = some (.bool true)) ∨ (ex = .exit 0 ∧ fr.get 0 = some v ∧ fr.get 5 = some (.int .i64 e) ∧ fr.get 4 = some (.int .i64 n) ∧ fr.get 3 = some (.pointer (some ⟨b3, 0, some 0⟩)) ∧ (len > 600 ∨ e = 50))
theorem any_loop {l : List Int} {v : Value} {x : List Nat} {n e : Int} (R : RdI hp H v l) (hl : l.length ≤ 9000) (hx : x.length = 258) (hF : Fit hp.length L H) : ∀ (k i : Nat) (c : Ts), i + k = l.length → i ≤ 600 → Come c i → c.sym < 258 → readF c (l.drop i) i = (x, n, e) →
    ∃ ex fr y, Liter env lb4_0 [7, 6, 0, 5, 3, 4] (hp.length + 2) [(7, .int .i64 i), (6, .pointer (some ⟨hp.length + 1, 0, some 0⟩)), (0, v), (5, .int .i64 e), (3, .pointer (some ⟨hp.length, 0, some 0⟩)), (4, .int .i64 n)] ⟨hp ++ [.cells 0 true (u8s x), .cells 0 true (tsC c)], L, H, []⟩
      = some (ex, fr, ⟨hp ++ .cells 0 true (u8s x) :: y, L, H, []⟩) ∧ AnyEnd fr ex x n e v l.length hp.length
  | 0, i, c, hi, h6, hc, hs, hr => by
    obtain ⟨p, e', rfl⟩ := R.len
    obtain rfl : i = l.length := by omega
    rw [List.drop_length, readF] at hr
    simp only [Prod.mk.injEq] at hr
    rw [iter_by lb4_0.eq_1]
    simp (disch := (first | omega | (simp only [lnE] <;> omega) | (refine Fit.mono ‹Fit _ _ _› ?_ <;> (simp only [lnE] <;> omega)) | (refine Fit.draw ‹Fit _ _ _› ?_ ?_ <;> (simp only [lnE] <;> omega)) | (refine Fit.hid1 ‹Fit _ _ _› ?_ ?_ <;> (simp only [lnE] <;> omega)) | (refine Fit.hidc1 ‹Fit _ _ _› ?_ ?_ <;> (simp only [lnE] <;> omega)) | (refine Fit.hidc2 ‹Fit _ _ _› ?_ ?_ ?_ <;> (simp only [lnE] <;> omega)) | (refine Fit.draw1 ‹Fit _ _ _› ?_ ?_ ?_ <;> (simp only [lnE] <;> omega)) | (refine Fit.range0 ?_ ?_ <;> (simp only [lnE] <;> omega)) | fail)) only [syA, syB, argFr, D, E, T, C, undefv, eqF, aeq, sheqs, sheq, rdCells, cellsOf, fill, putAt, if_true, if_false, reduceIte, ↓reduceIte, reduceCtorEq, eq_self, Nat.reduceEqDiff, Nat.reduceAdd, Nat.reduceSub, Nat.reduceMul, Nat.reduceLT, Nat.reduceLeDiff, Nat.reducePow, Nat.reduceDiv, Nat.reduceMod, Int.reduceLT, Int.reduceLE, Int.reduceGT, Int.reduceGE, Int.reduceToNat, Int.reducePow, Int.reduceNeg, Int.reduceBEq, Int.reduceBNe, Int.reduceEq, Int.reduceAdd, Int.reduceSub, Int.reduceMul, cellv, sc, flatv, refs, refsF, refsC, hF.not0, hF.not1, hF.up0, hF.up1]
    exact ⟨_, _, _, rfl, .inr ⟨rfl, rfl, rfl, rfl, rfl, .inr hr.2.2.symm⟩⟩
  | k + 1, i, c, hi, h6, hc, hs, hr => by
    obtain ⟨p, e', rfl⟩ := R.len
    have hil : i < l.length := by omega
    have i1 : (i : Int) < (l.length : Nat) := by omega
    by_cases c6 : i = 600
    · have i6 : ¬ (i : Int) < 600 := by omega
      rw [iter_by lb4_0.eq_1]
      simp (disch := (first | omega | (simp only [lnE] <;> omega) | (refine Fit.mono ‹Fit _ _ _› ?_ <;> (simp only [lnE] <;> omega)) | (refine Fit.draw ‹Fit _ _ _› ?_ ?_ <;> (simp only [lnE] <;> omega)) | (refine Fit.hid1 ‹Fit _ _ _› ?_ ?_ <;> (simp only [lnE] <;> omega)) | (refine Fit.hidc1 ‹Fit _ _ _› ?_ ?_ <;> (simp only [lnE] <;> omega)) | (refine Fit.hidc2 ‹Fit _ _ _› ?_ ?_ ?_ <;> (simp only [lnE] <;> omega)) | (refine Fit.draw1 ‹Fit _ _ _› ?_ ?_ ?_ <;> (simp only [lnE] <;> omega)) | (refine Fit.range0 ?_ ?_ <;> (simp only [lnE] <;> omega)) | fail)) only [syA, syB, argFr, D, E, T, C, undefv, eqF, aeq, sheqs, sheq, rdCells, cellsOf, fill, putAt, if_true, if_false, reduceIte, ↓reduceIte, reduceCtorEq, eq_self, Nat.reduceEqDiff, Nat.reduceAdd, Nat.reduceSub, Nat.reduceMul, Nat.reduceLT, Nat.reduceLeDiff, Nat.reducePow, Nat.reduceDiv, Nat.reduceMod, Int.reduceLT, Int.reduceLE, Int.reduceGT, Int.reduceGE, Int.reduceToNat, Int.reducePow, Int.reduceNeg, Int.reduceBEq, Int.reduceBNe, Int.reduceEq, Int.reduceAdd, Int.reduceSub, Int.reduceMul, cellv, sc, flatv, refs, refsF, refsC, hF.not0, hF.not1, hF.up0, hF.up1, i1, i6]
      exact ⟨_, _, _, rfl, .inr ⟨rfl, rfl, rfl, rfl, rfl, .inl (by omega)⟩⟩
    have i6 : (i : Int) < 600 := by omega
    have i0 : (0 : Int) ≤ (i : Int) := by omega
    obtain ⟨bb, oo, g, pl, cs, rfl, hh, hb, hcell⟩ := R.at_ hil
    have hbl := (List.getElem?_eq_some_iff.1 hb).1
    rw [List.drop_eq_getElem_cons hil] at hr
    have hG := hc.gs (by omega)
    have hS := fun hp L H d hF => step_walk (hp := hp) (L := L) (H := H) (d := d) hG (bit := l[i]) hF
    have hlc := hc.len
    have hz := zs_length
    have lz : (tsC z0).length = 262 := tsC_length (c := z0) hz
    have z0q : u8s zs ++ [.int .i64 0, .int .i64 0, .int .i64 0, .int .i64 0] = tsC z0 := rfl
    have pzz : putAt (tsC z0) 0 (tsC z0) = tsC z0 := putAt_full rfl
    have htz : (u8s zs).take 258 = u8s zs := take258 hz
    have htx : (u8s x).take 258 = u8s x := take258 hx
    have hW := fun hp L H d hF => wakes10 (hp := hp) (L := L) (H := H) (d := d) hF
    rw [iter_by lb4_0.eq_1]
    rcases step_cases hc hs l[i] (l.drop (i + 1)) with ⟨h1, h2⟩ | ⟨h1, h2⟩ | ⟨o, h1, h2, h3, h4, _⟩ | ⟨o, h1, h2, h3, h4, _⟩
    · rw [h2] at hr
      simp only [Prod.mk.injEq] at hr
      obtain ⟨rfl, rfl, rfl⟩ := hr
      simp only [h1] at hS
      have hq : sheqs (List.replicate 258 .nu) (u8s zs) (u8s zs) = some (decide (zs = zs)) := sheqs_u8 hz hz
      rw [decide_eq_true rfl] at hq
      simp (disch := (first | omega | (simp only [lnE] <;> omega) | (refine Fit.mono ‹Fit _ _ _› ?_ <;> (simp only [lnE] <;> omega)) | (refine Fit.draw ‹Fit _ _ _› ?_ ?_ <;> (simp only [lnE] <;> omega)) | (refine Fit.hid1 ‹Fit _ _ _› ?_ ?_ <;> (simp only [lnE] <;> omega)) | (refine Fit.hidc1 ‹Fit _ _ _› ?_ ?_ <;> (simp only [lnE] <;> omega)) | (refine Fit.hidc2 ‹Fit _ _ _› ?_ ?_ ?_ <;> (simp only [lnE] <;> omega)) | (refine Fit.draw1 ‹Fit _ _ _› ?_ ?_ ?_ <;> (simp only [lnE] <;> omega)) | (refine Fit.range0 ?_ ?_ <;> (simp only [lnE] <;> omega)) | fail)) only [syA, syB, argFr, D, E, T, C, undefv, eqF, aeq, sheqs, sheq, rdCells, cellsOf, fill, putAt, if_true, if_false, reduceIte, ↓reduceIte, reduceCtorEq, eq_self, Nat.reduceEqDiff, Nat.reduceAdd, Nat.reduceSub, Nat.reduceMul, Nat.reduceLT, Nat.reduceLeDiff, Nat.reducePow, Nat.reduceDiv, Nat.reduceMod, Int.reduceLT, Int.reduceLE, Int.reduceGT, Int.reduceGE, Int.reduceToNat, Int.reducePow, Int.reduceNeg, Int.reduceBEq, Int.reduceBNe, Int.reduceEq, Int.reduceAdd, Int.reduceSub, Int.reduceMul, cellv, sc, flatv, refs, refsF, refsC, hF.not0, hF.not1, hF.up0, hF.up1, i0, i1, i6, hh, hb, hcell, hS, zs_eq, z0q, lz, pzz, tsC_take hlc, tsC_length hlc, tsC_refs, tsC_cellv, tsC_sc, u8s_cellv, u8s_scs, hz, htz, hq, hW]
      exact ⟨_, _, _, rfl, .inl ⟨rfl, rfl⟩⟩
    · rw [h2] at hr
      simp only [Prod.mk.injEq] at hr
      obtain ⟨rfl, rfl, rfl⟩ := hr
      simp only [h1] at hS
      have hq : sheqs (List.replicate 258 .nu) (u8s zs) (u8s zs) = some (decide (zs = zs)) := sheqs_u8 hz hz
      rw [decide_eq_true rfl] at hq
      simp (disch := (first | omega | (simp only [lnE] <;> omega) | (refine Fit.mono ‹Fit _ _ _› ?_ <;> (simp only [lnE] <;> omega)) | (refine Fit.draw ‹Fit _ _ _› ?_ ?_ <;> (simp only [lnE] <;> omega)) | (refine Fit.hid1 ‹Fit _ _ _› ?_ ?_ <;> (simp only [lnE] <;> omega)) | (refine Fit.hidc1 ‹Fit _ _ _› ?_ ?_ <;> (simp only [lnE] <;> omega)) | (refine Fit.hidc2 ‹Fit _ _ _› ?_ ?_ ?_ <;> (simp only [lnE] <;> omega)) | (refine Fit.draw1 ‹Fit _ _ _› ?_ ?_ ?_ <;> (simp only [lnE] <;> omega)) | (refine Fit.range0 ?_ ?_ <;> (simp only [lnE] <;> omega)) | fail)) only [syA, syB, argFr, D, E, T, C, undefv, eqF, aeq, sheqs, sheq, rdCells, cellsOf, fill, putAt, if_true, if_false, reduceIte, ↓reduceIte, reduceCtorEq, eq_self, Nat.reduceEqDiff, Nat.reduceAdd, Nat.reduceSub, Nat.reduceMul, Nat.reduceLT, Nat.reduceLeDiff, Nat.reducePow, Nat.reduceDiv, Nat.reduceMod, Int.reduceLT, Int.reduceLE, Int.reduceGT, Int.reduceGE, Int.reduceToNat, Int.reducePow, Int.reduceNeg, Int.reduceBEq, Int.reduceBNe, Int.reduceEq, Int.reduceAdd, Int.reduceSub, Int.reduceMul, cellv, sc, flatv, refs, refsF, refsC, hF.not0, hF.not1, hF.up0, hF.up1, i0, i1, i6, hh, hb, hcell, hS, zs_eq, z0q, lz, pzz, tsC_take hlc, tsC_length hlc, tsC_refs, tsC_cellv, tsC_sc, u8s_cellv, u8s_scs, hz, htz, hq, hW]
      exact ⟨_, _, _, rfl, .inl ⟨rfl, rfl⟩⟩
    · rw [h4] at hr
      simp only [Prod.mk.injEq] at hr
      obtain ⟨rfl, rfl, rfl⟩ := hr
      simp only [h1] at hS
      have hlo := h2.len
      have po : putAt (tsC z0) 0 (tsC o) = tsC o := putAt_full (by rw [lz, tsC_length hlo])
      have hq : sheqs (List.replicate 258 .nu) (u8s o.l) (u8s o.l) = some (decide (o.l = o.l)) := sheqs_u8 hlo hlo
      rw [decide_eq_true rfl] at hq
      simp (disch := (first | omega | (simp only [lnE] <;> omega) | (refine Fit.mono ‹Fit _ _ _› ?_ <;> (simp only [lnE] <;> omega)) | (refine Fit.draw ‹Fit _ _ _› ?_ ?_ <;> (simp only [lnE] <;> omega)) | (refine Fit.hid1 ‹Fit _ _ _› ?_ ?_ <;> (simp only [lnE] <;> omega)) | (refine Fit.hidc1 ‹Fit _ _ _› ?_ ?_ <;> (simp only [lnE] <;> omega)) | (refine Fit.hidc2 ‹Fit _ _ _› ?_ ?_ ?_ <;> (simp only [lnE] <;> omega)) | (refine Fit.draw1 ‹Fit _ _ _› ?_ ?_ ?_ <;> (simp only [lnE] <;> omega)) | (refine Fit.range0 ?_ ?_ <;> (simp only [lnE] <;> omega)) | fail)) only [syA, syB, argFr, D, E, T, C, undefv, eqF, aeq, sheqs, sheq, rdCells, cellsOf, fill, putAt, if_true, if_false, reduceIte, ↓reduceIte, reduceCtorEq, eq_self, Nat.reduceEqDiff, Nat.reduceAdd, Nat.reduceSub, Nat.reduceMul, Nat.reduceLT, Nat.reduceLeDiff, Nat.reducePow, Nat.reduceDiv, Nat.reduceMod, Int.reduceLT, Int.reduceLE, Int.reduceGT, Int.reduceGE, Int.reduceToNat, Int.reducePow, Int.reduceNeg, Int.reduceBEq, Int.reduceBNe, Int.reduceEq, Int.reduceAdd, Int.reduceSub, Int.reduceMul, cellv, sc, flatv, refs, refsF, refsC, hF.not0, hF.not1, hF.up0, hF.up1, i0, i1, i6, hh, hb, hcell, hS, zs_eq, z0q, lz, po, tsC_take hlc, tsC_length hlc, tsC_take hlo, tsC_length hlo, tsC_lens hlo, tsC_refs, tsC_cellv, tsC_sc, u8s_cellv, u8s_scs, hz, hlo, htx, hq, hW]
      exact ⟨_, _, _, rfl, .inl ⟨rfl, rfl⟩⟩
    · rw [h4] at hr
      simp only [h1] at hS
      have hlo := h2.len
      have po : putAt (tsC z0) 0 (tsC o) = tsC o := putAt_full (by rw [lz, tsC_length hlo])
      have po2 : putAt (tsC c) 0 (tsC o) = tsC o := putAt_full (by rw [tsC_length hlc, tsC_length hlo])
      have hGo := h2.gs (by omega)
      have hV := fun hp L H d hF => valid_walk (hp := hp) (L := L) (H := H) (d := d) hGo hF
      rw [decide_eq_true h2.vld] at hV
      obtain ⟨ex, fr, y, f1, f2⟩ := any_loop R hl hx hF k (i + 1) o (by omega) (by omega) h2 h3 hr
      simp only [Int.natCast_add, Int.natCast_one] at f1
      simp (disch := (first | omega | (simp only [lnE] <;> omega) | (refine Fit.mono ‹Fit _ _ _› ?_ <;> (simp only [lnE] <;> omega)) | (refine Fit.draw ‹Fit _ _ _› ?_ ?_ <;> (simp only [lnE] <;> omega)) | (refine Fit.hid1 ‹Fit _ _ _› ?_ ?_ <;> (simp only [lnE] <;> omega)) | (refine Fit.hidc1 ‹Fit _ _ _› ?_ ?_ <;> (simp only [lnE] <;> omega)) | (refine Fit.hidc2 ‹Fit _ _ _› ?_ ?_ ?_ <;> (simp only [lnE] <;> omega)) | (refine Fit.draw1 ‹Fit _ _ _› ?_ ?_ ?_ <;> (simp only [lnE] <;> omega)) | (refine Fit.range0 ?_ ?_ <;> (simp only [lnE] <;> omega)) | fail)) only [syA, syB, argFr, D, E, T, C, undefv, eqF, aeq, sheqs, sheq, rdCells, cellsOf, fill, putAt, if_true, if_false, reduceIte, ↓reduceIte, reduceCtorEq, eq_self, Nat.reduceEqDiff, Nat.reduceAdd, Nat.reduceSub, Nat.reduceMul, Nat.reduceLT, Nat.reduceLeDiff, Nat.reducePow, Nat.reduceDiv, Nat.reduceMod, Int.reduceLT, Int.reduceLE, Int.reduceGT, Int.reduceGE, Int.reduceToNat, Int.reducePow, Int.reduceNeg, Int.reduceBEq, Int.reduceBNe, Int.reduceEq, Int.reduceAdd, Int.reduceSub, Int.reduceMul, cellv, sc, flatv, refs, refsF, refsC, hF.not0, hF.not1, hF.up0, hF.up1, i0, i1, i6, hh, hb, hcell, hS, hV, zs_eq, z0q, lz, po, po2, tsC_take hlc, tsC_length hlc, tsC_take hlo, tsC_length hlo, tsC_refs, tsC_cellv, tsC_sc, u8s_cellv, u8s_scs]
      rw [gcFr_cut 2 (by simp) (by
        intro p hp' r hr
        simp only [List.mem_cons, List.not_mem_nil, or_false] at hp'
        rcases hp' with rfl | rfl | rfl | rfl | rfl | rfl
        · simp [refs, refsF, refsC] at hr
        · simp [refs, refsF, refsC] at hr; omega
        · simp [refs, refsF, refsC] at hr; omega
        · simp [refs, refsF, refsC] at hr
        · simp [refs, refsF, refsC] at hr; omega
        · simp [refs, refsF, refsC] at hr)]
      simp only [List.take_succ_cons, List.take_zero, againX_some]
      exact ⟨ex, fr, y, f1, f2⟩
theorem readF_len : ∀ (l : List Int) (c : Ts) (i : Nat), c.l.length = 258 → (readF c l i).1.length = 258
  | [], c, i, h => zs_length
  | b :: l, c, i, h => by
    rw [readF]
    split
    · split
      · split
        · exact nextF_len h _
        · exact readF_len l _ _ (nextF_len h _)
      · exact zs_length
    · exact zs_length
theorem readF_err : ∀ (l : List Int) (c : Ts) (i : Nat), (readF c l i).2.2 = 0 ∨ (readF c l i).2.2 = 2 ∨ (readF c l i).2.2 = 50 ∨ (readF c l i).2.2 = 100
  | [], c, i => .inr (.inr (.inl rfl))
  | b :: l, c, i => by
    rw [readF]
    split
    · split
      · split
        · exact .inl rfl
        · exact readF_err l _ _
      · exact .inr (.inr (.inr rfl))
    · exact .inr (.inl rfl)
theorem any_run {l : List Int} {v : Value} (R : RdI hp [] v l) :
    ∃ σ', Lrun env (.func 4) [v] ⟨hp, hp.length, [], []⟩ = some (.bool true, σ') := by
  rw [Lrun_sym 4 _ _ fn4]
  have hF : Fit hp.length hp.length [] := ⟨Nat.le_refl _, Low.nil _⟩
  have hW := fun hp L H d hF => wakes10 (hp := hp) (L := L) (H := H) (d := d) hF
  obtain ⟨p, e', rfl⟩ := R.len
  by_cases c1 : (l.length : Int) > 9000
  · simp (disch := (first | omega | (simp only [lnE] <;> omega) | (refine Fit.mono ‹Fit _ _ _› ?_ <;> (simp only [lnE] <;> omega)) | (refine Fit.draw ‹Fit _ _ _› ?_ ?_ <;> (simp only [lnE] <;> omega)) | (refine Fit.hid1 ‹Fit _ _ _› ?_ ?_ <;> (simp only [lnE] <;> omega)) | (refine Fit.hidc1 ‹Fit _ _ _› ?_ ?_ <;> (simp only [lnE] <;> omega)) | (refine Fit.hidc2 ‹Fit _ _ _› ?_ ?_ ?_ <;> (simp only [lnE] <;> omega)) | (refine Fit.draw1 ‹Fit _ _ _› ?_ ?_ ?_ <;> (simp only [lnE] <;> omega)) | (refine Fit.range0 ?_ ?_ <;> (simp only [lnE] <;> omega)) | fail)) only [syA, syB, argFr, D, E, T, C, undefv, eqF, aeq, sheqs, sheq, rdCells, cellsOf, fill, putAt, if_true, if_false, reduceIte, ↓reduceIte, reduceCtorEq, eq_self, Nat.reduceEqDiff, Nat.reduceAdd, Nat.reduceSub, Nat.reduceMul, Nat.reduceLT, Nat.reduceLeDiff, Nat.reducePow, Nat.reduceDiv, Nat.reduceMod, Int.reduceLT, Int.reduceLE, Int.reduceGT, Int.reduceGE, Int.reduceToNat, Int.reducePow, Int.reduceNeg, Int.reduceBEq, Int.reduceBNe, Int.reduceEq, Int.reduceAdd, Int.reduceSub, Int.reduceMul, cellv, sc, flatv, refs, refsF, refsC, hF.not0, hF.not1, hF.up0, hF.up1, ac4, hW, c1]
    exact ⟨_, rfl⟩
  have hl9 : l.length ≤ 9000 := by omega
  have hR0 := fun d => read_walk (d := d) R (by omega) hF
  have hx := readF_len l z0 0 zs_length
  have he := readF_err l z0 0
  obtain ⟨x, n, e, hr⟩ : ∃ x n e, readF z0 l 0 = (x, n, e) := ⟨_, _, _, rfl⟩
  rw [hr] at hR0 hx he
  simp only at hR0 hx he
  have hok := fun (h0 : e = 0) => readF_ok (bs := l) come0 (by decide) (by rw [hr, h0])
  obtain ⟨ex, fr, y, f1, f2⟩ := any_loop R hl9 hx hF l.length 0 z0 (by omega) (by omega) come0 (by decide) (by rw [List.drop_zero]; exact hr)
  simp only [Int.natCast_zero] at f1
  have hz := zs_length
  have z0q : u8s zs ++ [.int .i64 0, .int .i64 0, .int .i64 0, .int .i64 0] = tsC z0 := rfl
  have lz : (tsC z0).length = 262 := tsC_length (c := z0) hz
  have htx : (u8s x).take 258 = u8s x := take258 hx
  have pzx : putAt (u8s zs) 0 (u8s x) = u8s x := putAt_full (by rw [u8s_length, u8s_length, hx, hz])
  rcases f2 with ⟨rfl, g1⟩ | ⟨rfl, g1, g2, g3, g4, g5⟩
  · simp (disch := (first | omega | (simp only [lnE] <;> omega) | (refine Fit.mono ‹Fit _ _ _› ?_ <;> (simp only [lnE] <;> omega)) | (refine Fit.draw ‹Fit _ _ _› ?_ ?_ <;> (simp only [lnE] <;> omega)) | (refine Fit.hid1 ‹Fit _ _ _› ?_ ?_ <;> (simp only [lnE] <;> omega)) | (refine Fit.hidc1 ‹Fit _ _ _› ?_ ?_ <;> (simp only [lnE] <;> omega)) | (refine Fit.hidc2 ‹Fit _ _ _› ?_ ?_ ?_ <;> (simp only [lnE] <;> omega)) | (refine Fit.draw1 ‹Fit _ _ _› ?_ ?_ ?_ <;> (simp only [lnE] <;> omega)) | (refine Fit.range0 ?_ ?_ <;> (simp only [lnE] <;> omega)) | fail)) only [syA, syB, argFr, D, E, T, C, undefv, eqF, aeq, sheqs, sheq, rdCells, cellsOf, fill, putAt, if_true, if_false, reduceIte, ↓reduceIte, reduceCtorEq, eq_self, Nat.reduceEqDiff, Nat.reduceAdd, Nat.reduceSub, Nat.reduceMul, Nat.reduceLT, Nat.reduceLeDiff, Nat.reducePow, Nat.reduceDiv, Nat.reduceMod, Int.reduceLT, Int.reduceLE, Int.reduceGT, Int.reduceGE, Int.reduceToNat, Int.reducePow, Int.reduceNeg, Int.reduceBEq, Int.reduceBNe, Int.reduceEq, Int.reduceAdd, Int.reduceSub, Int.reduceMul, cellv, sc, flatv, refs, refsF, refsC, hF.not0, hF.not1, hF.up0, hF.up1, ac4, hW, c1, hR0, zs_eq, z0q, lz, hz, hx, u8s_cellv, u8s_scs, pzx, f1, g1]
    exact ⟨_, rfl⟩
  · by_cases c2 : e = 0
    · subst c2
      obtain ⟨k1, k2, k3, k4⟩ := hok rfl
      have hx8 : By x := fun b hb => by have := table_le k1 b hb; omega
      have hO := fun hp L H d hF => of_good (hp := hp) (L := L) (H := H) (d := d) hx hx8 k1 hF
      have hEn : (encF x).length ≠ 0 := by have := encF_ge x; omega
      have eI : ∀ j, slI j (encF x) = .slice (some ⟨j, 0, some (encF x).length⟩) (encF x).length 1 := fun j => if_neg hEn
      have eB : slIB (encF x) = [.cells (encF x).length true (is (encF x))] := if_neg hEn
      simp only [eI, eB] at hO
      have hT := fun hp L H d hF => rtable_walk (hp := hp) (L := L) (H := H) (d := d) hx hx8 hF
      rw [k1] at hT
      simp (disch := (first | omega | (simp only [lnE] <;> omega) | (refine Fit.mono ‹Fit _ _ _› ?_ <;> (simp only [lnE] <;> omega)) | (refine Fit.draw ‹Fit _ _ _› ?_ ?_ <;> (simp only [lnE] <;> omega)) | (refine Fit.hid1 ‹Fit _ _ _› ?_ ?_ <;> (simp only [lnE] <;> omega)) | (refine Fit.hidc1 ‹Fit _ _ _› ?_ ?_ <;> (simp only [lnE] <;> omega)) | (refine Fit.hidc2 ‹Fit _ _ _› ?_ ?_ ?_ <;> (simp only [lnE] <;> omega)) | (refine Fit.draw1 ‹Fit _ _ _› ?_ ?_ ?_ <;> (simp only [lnE] <;> omega)) | (refine Fit.range0 ?_ ?_ <;> (simp only [lnE] <;> omega)) | fail)) only [syA, syB, argFr, D, E, T, C, undefv, eqF, aeq, sheqs, sheq, rdCells, cellsOf, fill, putAt, if_true, if_false, reduceIte, ↓reduceIte, reduceCtorEq, eq_self, Nat.reduceEqDiff, Nat.reduceAdd, Nat.reduceSub, Nat.reduceMul, Nat.reduceLT, Nat.reduceLeDiff, Nat.reducePow, Nat.reduceDiv, Nat.reduceMod, Int.reduceLT, Int.reduceLE, Int.reduceGT, Int.reduceGE, Int.reduceToNat, Int.reducePow, Int.reduceNeg, Int.reduceBEq, Int.reduceBNe, Int.reduceEq, Int.reduceAdd, Int.reduceSub, Int.reduceMul, cellv, sc, flatv, refs, refsF, refsC, hF.not0, hF.not1, hF.up0, hF.up1, ac4, hW, c1, hR0, zs_eq, z0q, lz, hz, hx, htx, u8s_cellv, u8s_scs, pzx, f1, g1, g2, g3, g4, hO, k2, k3, hT]
      exact ⟨_, rfl⟩
    · by_cases c3 : (l.length : Int) > 600
      · simp (disch := (first | omega | (simp only [lnE] <;> omega) | (refine Fit.mono ‹Fit _ _ _› ?_ <;> (simp only [lnE] <;> omega)) | (refine Fit.draw ‹Fit _ _ _› ?_ ?_ <;> (simp only [lnE] <;> omega)) | (refine Fit.hid1 ‹Fit _ _ _› ?_ ?_ <;> (simp only [lnE] <;> omega)) | (refine Fit.hidc1 ‹Fit _ _ _› ?_ ?_ <;> (simp only [lnE] <;> omega)) | (refine Fit.hidc2 ‹Fit _ _ _› ?_ ?_ ?_ <;> (simp only [lnE] <;> omega)) | (refine Fit.draw1 ‹Fit _ _ _› ?_ ?_ ?_ <;> (simp only [lnE] <;> omega)) | (refine Fit.range0 ?_ ?_ <;> (simp only [lnE] <;> omega)) | fail)) only [syA, syB, argFr, D, E, T, C, undefv, eqF, aeq, sheqs, sheq, rdCells, cellsOf, fill, putAt, if_true, if_false, reduceIte, ↓reduceIte, reduceCtorEq, eq_self, Nat.reduceEqDiff, Nat.reduceAdd, Nat.reduceSub, Nat.reduceMul, Nat.reduceLT, Nat.reduceLeDiff, Nat.reducePow, Nat.reduceDiv, Nat.reduceMod, Int.reduceLT, Int.reduceLE, Int.reduceGT, Int.reduceGE, Int.reduceToNat, Int.reducePow, Int.reduceNeg, Int.reduceBEq, Int.reduceBNe, Int.reduceEq, Int.reduceAdd, Int.reduceSub, Int.reduceMul, cellv, sc, flatv, refs, refsF, refsC, hF.not0, hF.not1, hF.up0, hF.up1, ac4, hW, c1, hR0, zs_eq, z0q, lz, hz, hx, htx, u8s_cellv, u8s_scs, pzx, f1, g1, g2, g3, g4, c2, c3]
        exact ⟨_, rfl⟩
      · have e50 : e = 50 := by omega
        subst e50
        simp (disch := (first | omega | (simp only [lnE] <;> omega) | (refine Fit.mono ‹Fit _ _ _› ?_ <;> (simp only [lnE] <;> omega)) | (refine Fit.draw ‹Fit _ _ _› ?_ ?_ <;> (simp only [lnE] <;> omega)) | (refine Fit.hid1 ‹Fit _ _ _› ?_ ?_ <;> (simp only [lnE] <;> omega)) | (refine Fit.hidc1 ‹Fit _ _ _› ?_ ?_ <;> (simp only [lnE] <;> omega)) | (refine Fit.hidc2 ‹Fit _ _ _› ?_ ?_ ?_ <;> (simp only [lnE] <;> omega)) | (refine Fit.draw1 ‹Fit _ _ _› ?_ ?_ ?_ <;> (simp only [lnE] <;> omega)) | (refine Fit.range0 ?_ ?_ <;> (simp only [lnE] <;> omega)) | fail)) only [syA, syB, argFr, D, E, T, C, undefv, eqF, aeq, sheqs, sheq, rdCells, cellsOf, fill, putAt, if_true, if_false, reduceIte, ↓reduceIte, reduceCtorEq, eq_self, Nat.reduceEqDiff, Nat.reduceAdd, Nat.reduceSub, Nat.reduceMul, Nat.reduceLT, Nat.reduceLeDiff, Nat.reducePow, Nat.reduceDiv, Nat.reduceMod, Int.reduceLT, Int.reduceLE, Int.reduceGT, Int.reduceGE, Int.reduceToNat, Int.reducePow, Int.reduceNeg, Int.reduceBEq, Int.reduceBNe, Int.reduceEq, Int.reduceAdd, Int.reduceSub, Int.reduceMul, cellv, sc, flatv, refs, refsF, refsC, hF.not0, hF.not1, hF.up0, hF.up1, ac4, hW, c1, hR0, zs_eq, z0q, lz, hz, hx, htx, u8s_cellv, u8s_scs, pzx, f1, g1, g2, g3, g4, c3]
        exact ⟨_, rfl⟩
theorem any_arg (l : List Int) (v : Value) {bs bs' : List Blk} (h : (v = .slice none 0 0 ∧ l.length = 0 ∧ bs' = []) ∨ (v = .slice (some ⟨bs.length, 0, some 0⟩) l.length 0 ∧ bs' = [.cells 0 true (l.map (Value.int .i64))])) :
    ∃ σ', Lrun env (.func 4) [v] ⟨bs ++ bs', (bs ++ bs').length, [], []⟩ = some (.bool true, σ') := by
  refine any_run (l := l) ?_
  rcases h with ⟨rfl, h, rfl⟩ | ⟨rfl, rfl⟩
  · exact .inl ⟨rfl, List.eq_nil_of_length_eq_zero h⟩
  · exact .inr ⟨_, _, _, _, _, _, rfl, rfl, get_new0 .., fun i hi => by simp [hi]⟩
end LtA
end Go.Proofs.Ytlphmnhkkhcjfaa
end
