/-
  THE BIT WRITER's functions on the abstract machine: Put. Conditions: none.
-/
import Derived.Test.YtlphmnhkkhcjfaaBtA
set_option linter.all false
section
namespace Go.Proofs.Ytlphmnhkkhcjfaa
namespace Bt
open Go Go.RowKit AM ArEnv

section
variable {hp : List Blk} {L : Nat} {H : List Nat} {a k : Nat} {l m : List Nat}
theorem Ws.lt (w : Ws hp L H a k l) : a < hp.length := (List.getElem?_eq_some_iff.1 w.w).1
theorem Ws.klt (w : Ws hp L H a k l) (h : l.length ≠ 0) : k < hp.length := (List.getElem?_eq_some_iff.1 (w.b h)).1
theorem Ws.kle (w : Ws hp L H a k l) : k ≤ hp.length := by
  by_cases h : l.length = 0
  · exact Nat.le_of_eq (w.k0 h)
  · exact Nat.le_of_lt (w.klt h)
theorem wset_nil (h : m.length = 0) : wset hp a k m = hp := by unfold wset; rw [if_pos h]
theorem wset_old (h : m.length ≠ 0) (hk : k < hp.length) : wset hp a k m = (hp.set a (Wr k m)).set k (Wb m) := by unfold wset; rw [if_neg h, if_pos hk]
theorem wset_new (h : m.length ≠ 0) : wset hp a hp.length m = hp.set a (Wr hp.length m) ++ [Wb m] := by unfold wset; rw [if_neg h, if_neg (by omega)]
/-- The blocks after new bits. -/
theorem Ws.wset (w : Ws hp L H a k l) (hm : m.length = 0 → l.length = 0) (hb : Bits m) : Ws (wset hp a k m) L H a k m := by
  by_cases h0 : m.length = 0
  · rw [wset_nil h0]
    have : m = [] := List.eq_nil_of_length_eq_zero h0
    subst this
    have hl : l = [] := List.eq_nil_of_length_eq_zero (hm rfl)
    subst hl
    exact w
  · by_cases hk : k < hp.length
    · rw [wset_old h0 hk]
      exact ⟨by rw [List.getElem?_set_ne (Ne.symm w.ne), List.getElem?_set_self w.lt], fun _ => by rw [List.getElem?_set_self (by simpa using hk)], fun h => absurd h h0, w.aL, w.kL, w.aH, w.kH, w.ne, hb⟩
    · have hk' : k = hp.length := by have := w.kle; omega
      have wlt := w.lt
      have wne := w.ne; have aL := w.aL; have kL := w.kL; have aH := w.aH; have kH := w.kH
      subst hk'
      rw [wset_new h0]
      exact ⟨by rw [List.getElem?_append_left (by simpa using wlt), List.getElem?_set_self wlt], fun _ => by rw [List.getElem?_append_right (by simp)]; simp, fun h => absurd h h0, aL, kL, aH, kH, wne, hb⟩
theorem wset_wset (w : Ws hp L H a k l) {n : List Nat} (hn : n.length ≠ 0) : wset (wset hp a k m) a k n = wset hp a k n := by
  by_cases h0 : m.length = 0
  · rw [wset_nil h0]
  · by_cases hk : k < hp.length
    · rw [wset_old h0 hk, wset_old hn hk, wset_old hn (by simpa using hk), List.set_comm _ _ (Ne.symm w.ne), List.set_set, List.set_set]
    · have hk' : k = hp.length := by have := w.kle; omega
      have wlt := w.lt
      subst hk'
      rw [wset_new h0, wset_new hn, wset_old hn (by simp), List.set_append_left _ _ (by simpa using wlt), List.set_set, List.set_append_right _ _ (by simp)]
      simp
theorem wset_length (w : Ws hp L H a k l) (hl : l.length ≠ 0) : (wset hp a k m).length = hp.length := by
  by_cases h0 : m.length = 0
  · rw [wset_nil h0]
  · rw [wset_old h0 (w.klt hl)]; simp
theorem wset_length_le : hp.length ≤ (wset hp a k m).length := by
  by_cases h0 : m.length = 0
  · rw [wset_nil h0]; exact Nat.le_refl _
  · unfold Bt.wset; rw [if_neg h0]; split <;> simp
theorem Wr_refs (h : m.length ≠ 0) : refsB (Wr k m) = [k] := by rw [Wr_some h]; rfl
/-- All that the writer needs is kept in its place. -/
theorem gc_wset (w : Ws hp L H a k l) {base : Nat} (hb : hp.length = base) {d : List Nat} {vs : List Value} (hv : ∀ v ∈ vs, ∀ r ∈ refs v, r < base) (hd : l.length = 0 → m.length ≠ 0 → d = [a]) :
    gc base vs ⟨wset hp a k m, L, H, d⟩ = some (vs, ⟨wset hp a k m, L, H, d⟩) := by
  by_cases hl : l.length = 0
  · by_cases hm : m.length = 0
    · rw [wset_nil hm, gc_same (by omega)]
    · have hk := w.k0 hl
      have wlt := w.lt
      subst hk
      rw [wset_new hm, hd hl hm]
      have hg : (hp.set a (Wr hp.length m))[a]? = some (Wr hp.length m) := List.getElem?_set_self wlt
      rw [gc_into (k := 0) (by simpa using hb) hv hg (by rw [Wr_refs hm]; simp [hb]) rfl, List.set_set]
      have : renB (plc base [base + 0]) (Wr hp.length m) = Wr hp.length m := by
        rw [Wr_some hm]
        simp only [renB, List.map_cons, List.map_nil, renC]
        have := plc_one base 0
        rw [Nat.add_zero, ← hb] at this
        rw [Nat.add_zero, ← hb, this]
      rw [this]; rfl
  · rw [gc_same (by rw [wset_length w hl]; omega)]
def dirt1 (a : Nat) (l : List Nat) : List Nat := if l.length % 8 = 0 then [a] else []
theorem Ws.add (w : Ws hp L H a k l) {d : List Nat} {b : Nat} (hb : b < 2) (hs : l.length ≤ 8388000) (hF : Fit hp.length L H) :
    Lrun env (.func 80) [.pointer (some ⟨a, 0, some 0⟩), .int .u8 b] ⟨hp, L, H, d⟩ = some (.tuple #[], ⟨Bt.wset hp a k (l ++ [b]), L, H, joinDirty d (dirt1 a l)⟩) := by
  have h0 : (l ++ [b]).length ≠ 0 := by simp
  unfold dirt1
  by_cases hl : l.length = 0
  · have : l = [] := List.eq_nil_of_length_eq_zero hl
    subst this
    have hk := w.k0 rfl
    subst hk
    rw [add_first w.w hb w.aL w.aH hF, wset_new h0]; rfl
  · rw [wset_old h0 (w.klt hl)]
    by_cases h8 : l.length % 8 = 0
    · rw [if_pos h8, add_more w.w (w.b hl) w.bits hb w.aL w.kL w.aH w.kH w.ne hl h8 hs hF]
    · rw [if_neg h8, add_in w.w (w.b hl) w.bits hb w.aL w.kL w.aH w.kH w.ne h8 hs hF]; rfl
theorem nb_snoc (l : List Nat) (b : Nat) : nb (l ++ [b]) = nb l + if l.length % 8 = 0 then 1 else 0 := by simp [nb]; split <;> omega
theorem dirt_snoc {l l' : List Nat} (h : nb l ≤ nb l') (a b : Nat) : joinDirty (dirt a l l') (dirt1 a l') = dirt a l (l' ++ [b]) := by
  unfold dirt dirt1
  rw [nb_snoc]
  by_cases h8 : l'.length % 8 = 0
  · rw [if_pos h8, if_pos h8, if_neg (by omega : ¬ nb l = nb l' + 1)]
    split <;> simp [joinDirty]
  · rw [if_neg h8, if_neg h8, Nat.add_zero]; rfl
end
theorem fits_walk (v : Nat) (w : Int) (hv : v < 4294967296) (hp : List Blk) (L : Nat) (H d : List Nat) (hF : Fit hp.length L H) :
    Lrun env (.func 78) [.int .u32 v, .int .i64 w] ⟨hp, L, H, d⟩ = some (.bool (decide (0 ≤ w ∧ w ≤ 32 ∧ v / 2 ^ w.toNat = 0)), ⟨hp, L, H, d⟩) := by
  rw [Lrun_sym 78 _ _ fn78]
  by_cases h0 : 0 ≤ w
  · by_cases h1 : w ≤ 32
    · have hneg : (w < 0) = False := eq_false (by omega)
      have hfd : (v : Int).fdiv (2 ^ w.toNat) = (v / 2 ^ w.toNat : Nat) := by
        rw [fdiv_pos _ (Int.pow_nonneg (by decide))]; push_cast; rfl
      simp (disch := (first | omega | (simp only [lnE] <;> omega) | (refine Fit.mono ‹Fit _ _ _› ?_ <;> (simp only [lnE] <;> omega)) | (refine Fit.draw ‹Fit _ _ _› ?_ ?_ <;> (simp only [lnE] <;> omega)) | (refine Fit.hid1 ‹Fit _ _ _› ?_ ?_ <;> (simp only [lnE] <;> omega)) | (refine Fit.hidc1 ‹Fit _ _ _› ?_ ?_ <;> (simp only [lnE] <;> omega)) | (refine Fit.hidc2 ‹Fit _ _ _› ?_ ?_ ?_ <;> (simp only [lnE] <;> omega)) | (refine Fit.draw1 ‹Fit _ _ _› ?_ ?_ ?_ <;> (simp only [lnE] <;> omega)) | (refine Fit.range0 ?_ ?_ <;> (simp only [lnE] <;> omega)) | fail)) only [syA, syB, argFr, D, E, T, C, undefv, eqF, aeq, sheqs, sheq, rdCells, cellsOf, fill, putAt, if_true, if_false, reduceIte, ↓reduceIte, reduceCtorEq, eq_self, Nat.reduceEqDiff, Nat.reduceAdd, Nat.reduceSub, Nat.reduceMul, Nat.reduceLT, Nat.reduceLeDiff, Nat.reducePow, Nat.reduceDiv, Nat.reduceMod, Int.reduceLT, Int.reduceLE, Int.reduceGT, Int.reduceGE, Int.reduceToNat, Int.reducePow, Int.reduceNeg, Int.reduceBEq, Int.reduceBNe, Int.reduceEq, Int.reduceAdd, Int.reduceSub, Int.reduceMul, cellv, sc, flatv, refs, refsF, refsC, hF.not0, hF.not1, hF.up0, hF.up1, ac78, h0, h1, hneg, hfd]
      refine congrArg (fun b => some (Value.bool b, (⟨hp, L, H, d⟩ : St))) ?_
      generalize v / 2 ^ w.toNat = x
      rw [Bool.eq_iff_iff]; simp
    · simp (disch := (first | omega | (simp only [lnE] <;> omega) | (refine Fit.mono ‹Fit _ _ _› ?_ <;> (simp only [lnE] <;> omega)) | (refine Fit.draw ‹Fit _ _ _› ?_ ?_ <;> (simp only [lnE] <;> omega)) | (refine Fit.hid1 ‹Fit _ _ _› ?_ ?_ <;> (simp only [lnE] <;> omega)) | (refine Fit.hidc1 ‹Fit _ _ _› ?_ ?_ <;> (simp only [lnE] <;> omega)) | (refine Fit.hidc2 ‹Fit _ _ _› ?_ ?_ ?_ <;> (simp only [lnE] <;> omega)) | (refine Fit.draw1 ‹Fit _ _ _› ?_ ?_ ?_ <;> (simp only [lnE] <;> omega)) | (refine Fit.range0 ?_ ?_ <;> (simp only [lnE] <;> omega)) | fail)) only [syA, syB, argFr, D, E, T, C, undefv, eqF, aeq, sheqs, sheq, rdCells, cellsOf, fill, putAt, if_true, if_false, reduceIte, ↓reduceIte, reduceCtorEq, eq_self, Nat.reduceEqDiff, Nat.reduceAdd, Nat.reduceSub, Nat.reduceMul, Nat.reduceLT, Nat.reduceLeDiff, Nat.reducePow, Nat.reduceDiv, Nat.reduceMod, Int.reduceLT, Int.reduceLE, Int.reduceGT, Int.reduceGE, Int.reduceToNat, Int.reducePow, Int.reduceNeg, Int.reduceBEq, Int.reduceBNe, Int.reduceEq, Int.reduceAdd, Int.reduceSub, Int.reduceMul, cellv, sc, flatv, refs, refsF, refsC, hF.not0, hF.not1, hF.up0, hF.up1, ac78, h0, h1]
  · simp (disch := (first | omega | (simp only [lnE] <;> omega) | (refine Fit.mono ‹Fit _ _ _› ?_ <;> (simp only [lnE] <;> omega)) | (refine Fit.draw ‹Fit _ _ _› ?_ ?_ <;> (simp only [lnE] <;> omega)) | (refine Fit.hid1 ‹Fit _ _ _› ?_ ?_ <;> (simp only [lnE] <;> omega)) | (refine Fit.hidc1 ‹Fit _ _ _› ?_ ?_ <;> (simp only [lnE] <;> omega)) | (refine Fit.hidc2 ‹Fit _ _ _› ?_ ?_ ?_ <;> (simp only [lnE] <;> omega)) | (refine Fit.draw1 ‹Fit _ _ _› ?_ ?_ ?_ <;> (simp only [lnE] <;> omega)) | (refine Fit.range0 ?_ ?_ <;> (simp only [lnE] <;> omega)) | fail)) only [syA, syB, argFr, D, E, T, C, undefv, eqF, aeq, sheqs, sheq, rdCells, cellsOf, fill, putAt, if_true, if_false, reduceIte, ↓reduceIte, reduceCtorEq, eq_self, Nat.reduceEqDiff, Nat.reduceAdd, Nat.reduceSub, Nat.reduceMul, Nat.reduceLT, Nat.reduceLeDiff, Nat.reducePow, Nat.reduceDiv, Nat.reduceMod, Int.reduceLT, Int.reduceLE, Int.reduceGT, Int.reduceGE, Int.reduceToNat, Int.reducePow, Int.reduceNeg, Int.reduceBEq, Int.reduceBNe, Int.reduceEq, Int.reduceAdd, Int.reduceSub, Int.reduceMul, cellv, sc, flatv, refs, refsF, refsC, hF.not0, hF.not1, hF.up0, hF.up1, ac78, h0]
theorem down_walk (v : Nat) (w : Int) (hp : List Blk) (L : Nat) (H d : List Nat) (hF : Fit hp.length L H) :
    Lrun env (.func 79) [.int .u32 v, .int .i64 w] ⟨hp, L, H, d⟩ = some (.func (.func 88) #[] #[.pointer (some ⟨hp.length, 0, some 0⟩), .pointer (some ⟨hp.length + 1, 0, some 0⟩)], ⟨hp ++ [.cells 0 true [.int .i64 w], .cells 0 true [.int .u32 v]], L, H, d⟩) := by
  rw [Lrun_sym 79 _ _ fn79]
  simp (disch := (first | omega | (simp only [lnE] <;> omega) | (refine Fit.mono ‹Fit _ _ _› ?_ <;> (simp only [lnE] <;> omega)) | (refine Fit.draw ‹Fit _ _ _› ?_ ?_ <;> (simp only [lnE] <;> omega)) | (refine Fit.hid1 ‹Fit _ _ _› ?_ ?_ <;> (simp only [lnE] <;> omega)) | (refine Fit.hidc1 ‹Fit _ _ _› ?_ ?_ <;> (simp only [lnE] <;> omega)) | (refine Fit.hidc2 ‹Fit _ _ _› ?_ ?_ ?_ <;> (simp only [lnE] <;> omega)) | (refine Fit.draw1 ‹Fit _ _ _› ?_ ?_ ?_ <;> (simp only [lnE] <;> omega)) | (refine Fit.range0 ?_ ?_ <;> (simp only [lnE] <;> omega)) | fail)) only [syA, syB, argFr, D, E, T, C, undefv, eqF, aeq, sheqs, sheq, rdCells, cellsOf, fill, putAt, if_true, if_false, reduceIte, ↓reduceIte, reduceCtorEq, eq_self, Nat.reduceEqDiff, Nat.reduceAdd, Nat.reduceSub, Nat.reduceMul, Nat.reduceLT, Nat.reduceLeDiff, Nat.reducePow, Nat.reduceDiv, Nat.reduceMod, Int.reduceLT, Int.reduceLE, Int.reduceGT, Int.reduceGE, Int.reduceToNat, Int.reducePow, Int.reduceNeg, Int.reduceBEq, Int.reduceBNe, Int.reduceEq, Int.reduceAdd, Int.reduceSub, Int.reduceMul, cellv, sc, flatv, refs, refsF, refsC, hF.not0, hF.not1, hF.up0, hF.up1, ac79]
  have e : gcY hp [Blk.cells 0 true [Value.int IntKind.u32 (v : Int)], Blk.cells 0 true [Value.int IntKind.i64 w]] (.func (.func 88) #[] #[.pointer (some ⟨hp.length + 1, 0, some 0⟩), .pointer (some ⟨hp.length, 0, some 0⟩)]) L H false
      = gc hp.length [.func (.func 88) #[] #[.pointer (some ⟨hp.length + 1, 0, some 0⟩), .pointer (some ⟨hp.length, 0, some 0⟩)]] ⟨hp ++ [Blk.cells 0 true [Value.int IntKind.u32 (v : Int)], Blk.cells 0 true [Value.int IntKind.i64 w]], L, H, []⟩ := rfl
  rw [e]
  have g0 : (hp ++ [Blk.cells 0 true [Value.int IntKind.u32 (v : Int)], Blk.cells 0 true [Value.int IntKind.i64 w]])[hp.length]? = some (Blk.cells 0 true [Value.int IntKind.u32 (v : Int)]) := get_new0 ..
  have g1 : (hp ++ [Blk.cells 0 true [Value.int IntKind.u32 (v : Int)], Blk.cells 0 true [Value.int IntKind.i64 w]])[hp.length + 1]? = some (Blk.cells 0 true [Value.int IntKind.i64 w]) := by rw [get_new]; rfl
  rw [gc_many (R := [hp.length + 1, hp.length]) rfl (by simp) (by simp [refs, refsF, refsC]) (by simp) (by simp) (fun r hr => by
    simp only [List.mem_cons, List.not_mem_nil, or_false] at hr
    rcases hr with rfl | rfl
    · exact ⟨_, _, g1⟩
    · exact ⟨_, _, g0⟩)]
  have hf : firsts [hp.length + 1, hp.length] [] = [hp.length + 1, hp.length] := by simp [firsts]
  rw [hf]
  have p1 : plc hp.length [hp.length + 1, hp.length] (hp.length + 1) = hp.length := by simp [plc]
  have p0 : plc hp.length [hp.length + 1, hp.length] hp.length = hp.length + 1 := by
    have : (hp.length + 1 == hp.length) = false := by simp
    simp [plc, List.idxOf_cons, this]
  simp only [List.map_cons, List.map_nil, ren, renF, renC, p0, p1, renAll, List.getD_eq_getElem?_getD, g0, g1, Option.getD_some]
  rfl
end Bt
end Go.Proofs.Ytlphmnhkkhcjfaa
end
