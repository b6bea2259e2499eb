/-
  HEADERS: walks of Grow, Concat and PutBlock. Conditions: none.
-/
import Derived.Test.YtpjjkmfidghkjaaHdC
set_option linter.all false
namespace Go.Proofs.Ytpjjkmfidghkjaa
namespace VarA
open Go Go.RowKit AM ArEnv

theorem aop_cap {callf : CallF} {fr : Fr} {σ : St} (x : Operand) : aop callf (.cap x) fr σ = bindX σ capF (ev fr x) := pure1 fr σ rfl (by
  simp only [pval]; cases ev fr x with
  | none => rfl
  | some v =>
    cases v <;> first
      | rfl
      | (rename_i a n c; cases a <;> cases n <;> cases c <;> rfl))
theorem capF_nil : capF (.slice none 0 0) = some (.int .i64 0) := rfl
theorem sliceF_nil0 : sliceF 1 (.slice none 0 0) none (some (.int .i64 0)) none = some (.slice none 0 0) := rfl
theorem grow_nil (k : Nat) (h1 : 1 ≤ k) (h2 : k ≤ 1048576) {hp : List Blk} {L : Nat} {H d : List Nat} (hF : Fit hp.length L H) :
    Lrun env (.func 45) [.slice none 0 0, .int .i64 k] ⟨hp, L, H, d⟩ = some (.slice (some ⟨hp.length, 0, some k⟩) 0 1, ⟨hp ++ [.cells k true (List.replicate k (.int .u8 0))], L, H, d⟩) := by
  rw [Lrun_sym 45 _ _ fn45]
  have e1 : ¬ (k : Int) < 0 := by omega
  have e2 : (k : Int) > 0 := by omega
  have e3 : ¬ (k : Int) = 0 := by omega
  have e5 : (0 : Int) ≤ k := by omega
  have e4 : (0 : Int) < k ∧ (k : Int) ≤ 1048576 := by omega
  simp (disch := (first | omega | (simp only [lnE] <;> omega) | (refine Fit.mono ‹Fit _ _ _› ?_ <;> (simp only [lnE] <;> omega)) | (refine Fit.draw ‹Fit _ _ _› ?_ ?_ <;> (simp only [lnE] <;> omega)) | (refine Fit.hid1 ‹Fit _ _ _› ?_ ?_ <;> (simp only [lnE] <;> omega)) | (refine Fit.hidc1 ‹Fit _ _ _› ?_ ?_ <;> (simp only [lnE] <;> omega)) | (refine Fit.hidc2 ‹Fit _ _ _› ?_ ?_ ?_ <;> (simp only [lnE] <;> omega)) | (refine Fit.draw1 ‹Fit _ _ _› ?_ ?_ ?_ <;> (simp only [lnE] <;> omega)) | (refine Fit.range0 ?_ ?_ <;> (simp only [lnE] <;> omega)) | fail)) only [syA, syB, argFr, D, E, T, C, undefv, eqF, aeq, sheqs, sheq, rdCells, cellsOf, fill, putAt, if_true, if_false, reduceIte, ↓reduceIte, reduceCtorEq, eq_self, Nat.reduceEqDiff, Nat.reduceAdd, Nat.reduceSub, Nat.reduceMul, Nat.reduceLT, Nat.reduceLeDiff, Nat.reducePow, Nat.reduceDiv, Nat.reduceMod, Int.reduceLT, Int.reduceLE, Int.reduceGT, Int.reduceGE, Int.reduceToNat, Int.reducePow, Int.reduceNeg, Int.reduceBEq, Int.reduceBNe, Int.reduceEq, Int.reduceAdd, Int.reduceSub, Int.reduceMul, cellv, sc, flatv, refs, refsF, refsC, hF.not0, hF.not1, hF.up0, hF.up1, ac45, e1, e2, e3, e4, e5, aop_cap, capF_nil, sliceF_nil0]
  rw [gc_keep 0 rfl (by simp [refs, refsF, refsC]) (by simp [refs, refsF, refsC])]
  simp (disch := (first | omega | (simp only [lnE] <;> omega) | (refine Fit.mono ‹Fit _ _ _› ?_ <;> (simp only [lnE] <;> omega)) | (refine Fit.draw ‹Fit _ _ _› ?_ ?_ <;> (simp only [lnE] <;> omega)) | (refine Fit.hid1 ‹Fit _ _ _› ?_ ?_ <;> (simp only [lnE] <;> omega)) | (refine Fit.hidc1 ‹Fit _ _ _› ?_ ?_ <;> (simp only [lnE] <;> omega)) | (refine Fit.hidc2 ‹Fit _ _ _› ?_ ?_ ?_ <;> (simp only [lnE] <;> omega)) | (refine Fit.draw1 ‹Fit _ _ _› ?_ ?_ ?_ <;> (simp only [lnE] <;> omega)) | (refine Fit.range0 ?_ ?_ <;> (simp only [lnE] <;> omega)) | fail)) only [syA, syB, argFr, D, E, T, C, undefv, eqF, aeq, sheqs, sheq, rdCells, cellsOf, fill, putAt, if_true, if_false, reduceIte, ↓reduceIte, reduceCtorEq, eq_self, Nat.reduceEqDiff, Nat.reduceAdd, Nat.reduceSub, Nat.reduceMul, Nat.reduceLT, Nat.reduceLeDiff, Nat.reducePow, Nat.reduceDiv, Nat.reduceMod, Int.reduceLT, Int.reduceLE, Int.reduceGT, Int.reduceGE, Int.reduceToNat, Int.reducePow, Int.reduceNeg, Int.reduceBEq, Int.reduceBNe, Int.reduceEq, Int.reduceAdd, Int.reduceSub, Int.reduceMul, cellv, sc, flatv, refs, refsF, refsC, hF.not0, hF.not1, hF.up0, hF.up1, ren, renF, renC, one_new0, Nat.add_zero, List.map_cons, List.map_nil]
theorem zeros_u8 (k : Nat) : List.replicate k (Value.int .u8 0) = u8s (List.replicate k 0) := by simp [u8s]
/-- An append in place: into the block's own cells. -/
theorem append_in {hp : List Blk} {L k : Nat} {H d : List Nat} {l0 r l : List Nat} (hF : Fit hp.length L H) (hl : l.length ≤ r.length) :
    St.append ⟨hp ++ [.cells k true (u8s (l0 ++ r))], L, H, d⟩ true 1 (.slice (some ⟨hp.length, 0, some k⟩) l0.length 1) l.length (u8s l) =
      some (.slice (some ⟨hp.length, 0, some k⟩) (l0 ++ l).length 1, ⟨hp ++ [.cells k true (u8s ((l0 ++ l) ++ r.drop l.length))], L, H, d⟩) := by
  by_cases h0 : l = []
  · subst h0
    simp [St.append]
  · have h1 : ¬ l.length = 0 := fun h => h0 (List.eq_nil_of_length_eq_zero h)
    have hk : ∀ n, St.blk ⟨hp ++ [.cells k true (u8s (l0 ++ r))], L, H, d⟩ ⟨hp.length, n, some k⟩ = some (true, u8s (l0 ++ r)) := fun n => by
      unfold St.blk
      simp only [hF.not0, get_new0]
      simp
    simp only [St.append]
    rw [if_neg h1, if_neg (by have := hF.1; simp; omega), hk]
    simp only [Option.bind_some]
    have hlen : (u8s (l0 ++ r)).length = l0.length + r.length := by simp [u8s]
    have hll : 0 < l.length := by omega
    rw [if_pos (by simp [u8s_cellv, u8s_sc]), if_neg (by rw [hlen]; omega), if_pos (by rw [hlen]; simp; omega)]
    simp only [Nat.zero_add, Nat.mul_one]
    rw [write_eq, if_neg (by have := hF.1; omega), hk, writeX_some, if_pos (by rw [hlen]; simp [u8s_cellv, u8s_sc, u8s_length]; omega), u8s_sc]
    have hp1 : AM.putAt (u8s (l0 ++ r)) l0.length (u8s l) = u8s ((l0 ++ l) ++ r.drop l.length) := by
      apply List.ext_getElem?
      intro j
      rw [putAt_get _ _ _ _ (by rw [hlen, u8s_length]; omega), u8s_length, u8s_get, u8s_get, u8s_get]
      split
      · rw [List.append_assoc, List.getElem?_append_right (by omega), List.getElem?_append_left (by omega)]
      · rcases Nat.lt_or_ge j l0.length with hj | hj
        · rw [List.append_assoc, List.getElem?_append_left hj, List.getElem?_append_left hj]
        · rw [List.getElem?_append_right hj, List.getElem?_append_right (by rw [List.length_append]; omega), List.getElem?_drop, List.length_append, show l.length + (j - (l0.length + l.length)) = j - l0.length by omega]
    rw [hp1, set_new0]
    simp
/-- Four slices after each other. -/
theorem concat_walk {l : List Nat} {hp : List Blk} {L b : Nat} {H d : List Nat} {v1 v2 v3 v4 : Value} {l1 l2 l3 l4 : List Nat} (hF : Fit hp.length L H) (hb : hp[b]? = some (.cells 0 false [v1, v2, v3, v4])) (hh : H.contains b = false)
    (r1 : Rd ⟨hp, L, H, []⟩ v1 l1) (r2 : Rd ⟨hp, L, H, []⟩ v2 l2) (r3 : Rd ⟨hp, L, H, []⟩ v3 l3) (r4 : Rd ⟨hp, L, H, []⟩ v4 l4) (hk : 1 ≤ l1.length + l2.length + l3.length + l4.length) (hk2 : l1.length + l2.length + l3.length + l4.length ≤ 100000) (hl : l = l1 ++ l2 ++ l3 ++ l4) :
    Lrun env (.func 29) [.slice (some ⟨b, 0, some 0⟩) 4 1] ⟨hp, L, H, d⟩ = some (sl hp.length l.length (some l), ⟨hp ++ slB l.length (some l), L, H, d⟩) := by
  rw [Lrun_sym 29 _ _ fn29]
  have hbl : b < hp.length := (List.getElem?_eq_some_iff.1 hb).1
  have f1 := r1.lenF
  have f2 := r2.lenF
  have f3 := r3.lenF
  have f4 := r4.lenF
  have n1 : ¬ (l1.length : Int) < 0 := by omega
  have n2 : ¬ (l1.length : Int) + (l2.length : Int) < 0 := by omega
  have n3 : ¬ (l1.length : Int) + (l2.length : Int) + (l3.length : Int) < 0 := by omega
  have n4 : ¬ (l1.length : Int) + (l2.length : Int) + (l3.length : Int) + (l4.length : Int) < 0 := by omega
  have hg := grow_nil (l1.length + l2.length + l3.length + l4.length) hk (by omega) (hp := hp) (L := L) (H := H) (d := []) hF
  simp only [Int.natCast_add] at hg
  simp (disch := (first | omega | (simp only [lnE] <;> omega) | (refine Fit.mono ‹Fit _ _ _› ?_ <;> (simp only [lnE] <;> omega)) | (refine Fit.draw ‹Fit _ _ _› ?_ ?_ <;> (simp only [lnE] <;> omega)) | (refine Fit.hid1 ‹Fit _ _ _› ?_ ?_ <;> (simp only [lnE] <;> omega)) | (refine Fit.hidc1 ‹Fit _ _ _› ?_ ?_ <;> (simp only [lnE] <;> omega)) | (refine Fit.hidc2 ‹Fit _ _ _› ?_ ?_ ?_ <;> (simp only [lnE] <;> omega)) | (refine Fit.draw1 ‹Fit _ _ _› ?_ ?_ ?_ <;> (simp only [lnE] <;> omega)) | (refine Fit.range0 ?_ ?_ <;> (simp only [lnE] <;> omega)) | fail)) only [syA, syB, argFr, D, E, T, C, undefv, eqF, aeq, sheqs, sheq, rdCells, cellsOf, fill, putAt, if_true, if_false, reduceIte, ↓reduceIte, reduceCtorEq, eq_self, Nat.reduceEqDiff, Nat.reduceAdd, Nat.reduceSub, Nat.reduceMul, Nat.reduceLT, Nat.reduceLeDiff, Nat.reducePow, Nat.reduceDiv, Nat.reduceMod, Int.reduceLT, Int.reduceLE, Int.reduceGT, Int.reduceGE, Int.reduceToNat, Int.reducePow, Int.reduceNeg, Int.reduceBEq, Int.reduceBNe, Int.reduceEq, Int.reduceAdd, Int.reduceSub, Int.reduceMul, cellv, sc, flatv, refs, refsF, refsC, hF.not0, hF.not1, hF.up0, hF.up1, ac29]
  have z0 : ∀ x : Int, 0 + x = x := fun x => Int.zero_add x
  have w2 : ∀ nw, St.news ⟨hp ++ nw, L, H, []⟩ 1 v1 = some (l1.length, u8s l1) := fun nw => (r1.app).news
  have w3 : ∀ nw, St.news ⟨hp ++ nw, L, H, []⟩ 1 v2 = some (l2.length, u8s l2) := fun nw => (r2.app).news
  have w4 : ∀ nw, St.news ⟨hp ++ nw, L, H, []⟩ 1 v3 = some (l3.length, u8s l3) := fun nw => (r3.app).news
  have w5 : ∀ nw, St.news ⟨hp ++ nw, L, H, []⟩ 1 v4 = some (l4.length, u8s l4) := fun nw => (r4.app).news
  iterate 5
    rw [iter_by lb29_1.eq_1]
    simp (disch := (first | omega | (simp only [lnE] <;> omega) | (refine Fit.mono ‹Fit _ _ _› ?_ <;> (simp only [lnE] <;> omega)) | (refine Fit.draw ‹Fit _ _ _› ?_ ?_ <;> (simp only [lnE] <;> omega)) | (refine Fit.hid1 ‹Fit _ _ _› ?_ ?_ <;> (simp only [lnE] <;> omega)) | (refine Fit.hidc1 ‹Fit _ _ _› ?_ ?_ <;> (simp only [lnE] <;> omega)) | (refine Fit.hidc2 ‹Fit _ _ _› ?_ ?_ ?_ <;> (simp only [lnE] <;> omega)) | (refine Fit.draw1 ‹Fit _ _ _› ?_ ?_ ?_ <;> (simp only [lnE] <;> omega)) | (refine Fit.range0 ?_ ?_ <;> (simp only [lnE] <;> omega)) | fail)) only [syA, syB, argFr, D, E, T, C, undefv, eqF, aeq, sheqs, sheq, rdCells, cellsOf, fill, putAt, if_true, if_false, reduceIte, ↓reduceIte, reduceCtorEq, eq_self, Nat.reduceEqDiff, Nat.reduceAdd, Nat.reduceSub, Nat.reduceMul, Nat.reduceLT, Nat.reduceLeDiff, Nat.reducePow, Nat.reduceDiv, Nat.reduceMod, Int.reduceLT, Int.reduceLE, Int.reduceGT, Int.reduceGE, Int.reduceToNat, Int.reducePow, Int.reduceNeg, Int.reduceBEq, Int.reduceBNe, Int.reduceEq, Int.reduceAdd, Int.reduceSub, Int.reduceMul, cellv, sc, flatv, refs, refsF, refsC, hF.not0, hF.not1, hF.up0, hF.up1, hb, hh, f1, f2, f3, f4, n1, n2, n3, n4, hg, zeros_u8]
  generalize hz : List.replicate (l1.length + l2.length + l3.length + l4.length) 0 = z
  have hzl : z.length = l1.length + l2.length + l3.length + l4.length := by rw [← hz, List.length_replicate]
  clear hz
  have a1 := append_in (hp := hp) (L := L) (H := H) (d := []) (k := l1.length + l2.length + l3.length + l4.length) (l0 := []) (r := z) (l := l1) hF (by omega)
  generalize hz1 : z.drop l1.length = z1 at a1
  have hzl1 : z1.length = l2.length + l3.length + l4.length := by rw [← hz1, List.length_drop]; omega
  have a2 := append_in (hp := hp) (L := L) (H := H) (d := []) (k := l1.length + l2.length + l3.length + l4.length) (l0 := l1) (r := z1) (l := l2) hF (by omega)
  generalize hz2 : z1.drop l2.length = z2 at a2
  have hzl2 : z2.length = l3.length + l4.length := by rw [← hz2, List.length_drop]; omega
  have a3 := append_in (hp := hp) (L := L) (H := H) (d := []) (k := l1.length + l2.length + l3.length + l4.length) (l0 := l1 ++ l2) (r := z2) (l := l3) hF (by omega)
  generalize hz3 : z2.drop l3.length = z3 at a3
  have hzl3 : z3.length = l4.length := by rw [← hz3, List.length_drop]; omega
  have a4 := append_in (hp := hp) (L := L) (H := H) (d := []) (k := l1.length + l2.length + l3.length + l4.length) (l0 := l1 ++ l2 ++ l3) (r := z3) (l := l4) hF (by omega)
  rw [List.drop_of_length_le (by omega), List.append_nil, ← hl] at a4
  simp only [List.nil_append, List.length_nil] at a1
  generalize u8s (l1 ++ z1) = c1 at a1 a2
  generalize u8s (l1 ++ l2 ++ z2) = c2 at a2 a3
  generalize u8s (l1 ++ l2 ++ l3 ++ z3) = c3 at a3 a4
  have hll : l.length = l1.length + l2.length + l3.length + l4.length := by rw [hl]; simp only [List.length_append]
  rw [← hll] at a1 a2 a3 a4
  simp only [List.length_append] at a1 a2 a3 a4
  rw [← hll]
  clear hl
  iterate 5
    rw [iter_by lb29_0.eq_1]
    simp (disch := (first | omega | (simp only [lnE] <;> omega) | (refine Fit.mono ‹Fit _ _ _› ?_ <;> (simp only [lnE] <;> omega)) | (refine Fit.draw ‹Fit _ _ _› ?_ ?_ <;> (simp only [lnE] <;> omega)) | (refine Fit.hid1 ‹Fit _ _ _› ?_ ?_ <;> (simp only [lnE] <;> omega)) | (refine Fit.hidc1 ‹Fit _ _ _› ?_ ?_ <;> (simp only [lnE] <;> omega)) | (refine Fit.hidc2 ‹Fit _ _ _› ?_ ?_ ?_ <;> (simp only [lnE] <;> omega)) | (refine Fit.draw1 ‹Fit _ _ _› ?_ ?_ ?_ <;> (simp only [lnE] <;> omega)) | (refine Fit.range0 ?_ ?_ <;> (simp only [lnE] <;> omega)) | fail)) only [syA, syB, argFr, D, E, T, C, undefv, eqF, aeq, sheqs, sheq, rdCells, cellsOf, fill, putAt, if_true, if_false, reduceIte, ↓reduceIte, reduceCtorEq, eq_self, Nat.reduceEqDiff, Nat.reduceAdd, Nat.reduceSub, Nat.reduceMul, Nat.reduceLT, Nat.reduceLeDiff, Nat.reducePow, Nat.reduceDiv, Nat.reduceMod, Int.reduceLT, Int.reduceLE, Int.reduceGT, Int.reduceGE, Int.reduceToNat, Int.reducePow, Int.reduceNeg, Int.reduceBEq, Int.reduceBNe, Int.reduceEq, Int.reduceAdd, Int.reduceSub, Int.reduceMul, cellv, sc, flatv, refs, refsF, refsC, hF.not0, hF.not1, hF.up0, hF.up1, hb, hh, w2, w3, w4, w5, a1, a2, a3, a4]
  rw [gc_keep 0 rfl (by simp [refs, refsF, refsC]) (by simp [refs, refsF, refsC])]
  simp (disch := (first | omega | (simp only [lnE] <;> omega) | (refine Fit.mono ‹Fit _ _ _› ?_ <;> (simp only [lnE] <;> omega)) | (refine Fit.draw ‹Fit _ _ _› ?_ ?_ <;> (simp only [lnE] <;> omega)) | (refine Fit.hid1 ‹Fit _ _ _› ?_ ?_ <;> (simp only [lnE] <;> omega)) | (refine Fit.hidc1 ‹Fit _ _ _› ?_ ?_ <;> (simp only [lnE] <;> omega)) | (refine Fit.hidc2 ‹Fit _ _ _› ?_ ?_ ?_ <;> (simp only [lnE] <;> omega)) | (refine Fit.draw1 ‹Fit _ _ _› ?_ ?_ ?_ <;> (simp only [lnE] <;> omega)) | (refine Fit.range0 ?_ ?_ <;> (simp only [lnE] <;> omega)) | fail)) only [syA, syB, argFr, D, E, T, C, undefv, eqF, aeq, sheqs, sheq, rdCells, cellsOf, fill, putAt, if_true, if_false, reduceIte, ↓reduceIte, reduceCtorEq, eq_self, Nat.reduceEqDiff, Nat.reduceAdd, Nat.reduceSub, Nat.reduceMul, Nat.reduceLT, Nat.reduceLeDiff, Nat.reducePow, Nat.reduceDiv, Nat.reduceMod, Int.reduceLT, Int.reduceLE, Int.reduceGT, Int.reduceGE, Int.reduceToNat, Int.reducePow, Int.reduceNeg, Int.reduceBEq, Int.reduceBNe, Int.reduceEq, Int.reduceAdd, Int.reduceSub, Int.reduceMul, cellv, sc, flatv, refs, refsF, refsC, hF.not0, hF.not1, hF.up0, hF.up1, ren, renF, renC, one_new0, Nat.add_zero, List.map_cons, List.map_nil, sl_some, slB_some]
/-- A block's header. -/
def blockOf (m p s : Nat) : List Nat := [1] ++ enc m ++ enc p ++ be s
theorem putblock_good (n : Int) (m p s : Nat) (hn : 1 ≤ n ∧ n ≤ 65536) (hm : 1 ≤ m ∧ (m : Int) ≤ n) (hp' : 1 ≤ p ∧ p ≤ m) (hs : s < 4294967296) {hp : List Blk} {L : Nat} {H d : List Nat} (hF : Fit hp.length L H) :
    Lrun env (.func 10) [.int .i64 n, .agg #[.int .i64 m, .int .i64 p, .int .u32 s]] ⟨hp, L, H, d⟩ = some (.tuple #[sl hp.length (blockOf m p s).length (some (blockOf m p s)), .int .i64 0], ⟨hp ++ slB (blockOf m p s).length (some (blockOf m p s)), L, H, d⟩) := by
  rw [Lrun_sym 10 _ _ fn10]
  have hi1 : inR m 1 n = true := inR_true.2 (by omega)
  have hi2 : inR p 1 m = true := inR_true.2 (by omega)
  have hi3 : inR n 1 65536 = true := inR_true.2 (by omega)
  have h5 := enc_len_le m (by omega)
  have h6 := enc_len_le p (by omega)
  have hm1 := fun nw => number_good m n (by omega) (hp := hp ++ nw) (L := L) (H := H) (d := []) (hF.mono (by simp))
  have hp1 := fun nw => number_good p m (by omega) (hp := hp ++ nw) (L := L) (H := H) (d := []) (hF.mono (by simp))
  have hc := fun nw => crcput_walk s hs (hp := hp ++ nw) (L := L) (H := H) (d := []) (hF.mono (by simp))
  simp only [sl_some, slB_some] at hm1 hp1 ⊢
  have q1 : Rd ⟨hp ++ [.cells 0 true [.int .i64 m, .int .i64 p, .int .u32 s], .cells (enc m).length true (u8s (enc m)), .cells (enc p).length true (u8s (enc p)), .cells 0 true (u8s [1]), bl4 s, .cells 0 false [.slice (some ⟨hp.length + 3, 0, some 0⟩) 1 1, .slice (some ⟨hp.length + 1, 0, some (enc m).length⟩) (enc m).length 1, .slice (some ⟨hp.length + 2, 0, some (enc p).length⟩) (enc p).length 1, .slice (some ⟨hp.length + 4, 0, some 0⟩) 4 0]], L, H, []⟩ (.slice (some ⟨hp.length + 3, 0, some 0⟩) 1 1) [1] :=
    Rd.whole (l := [1]) (by rw [get_new]; rfl) (hF.not1 3) (by intro x hx; simp at hx; omega) (.inr rfl)
  have q2 : Rd ⟨hp ++ [.cells 0 true [.int .i64 m, .int .i64 p, .int .u32 s], .cells (enc m).length true (u8s (enc m)), .cells (enc p).length true (u8s (enc p)), .cells 0 true (u8s [1]), bl4 s, .cells 0 false [.slice (some ⟨hp.length + 3, 0, some 0⟩) 1 1, .slice (some ⟨hp.length + 1, 0, some (enc m).length⟩) (enc m).length 1, .slice (some ⟨hp.length + 2, 0, some (enc p).length⟩) (enc p).length 1, .slice (some ⟨hp.length + 4, 0, some 0⟩) 4 0]], L, H, []⟩ (.slice (some ⟨hp.length + 1, 0, some (enc m).length⟩) (enc m).length 1) (enc m) :=
    Rd.whole (by rw [get_new]; rfl) (hF.not1 1) (enc_by m) (.inr rfl)
  have q3 : Rd ⟨hp ++ [.cells 0 true [.int .i64 m, .int .i64 p, .int .u32 s], .cells (enc m).length true (u8s (enc m)), .cells (enc p).length true (u8s (enc p)), .cells 0 true (u8s [1]), bl4 s, .cells 0 false [.slice (some ⟨hp.length + 3, 0, some 0⟩) 1 1, .slice (some ⟨hp.length + 1, 0, some (enc m).length⟩) (enc m).length 1, .slice (some ⟨hp.length + 2, 0, some (enc p).length⟩) (enc p).length 1, .slice (some ⟨hp.length + 4, 0, some 0⟩) 4 0]], L, H, []⟩ (.slice (some ⟨hp.length + 2, 0, some (enc p).length⟩) (enc p).length 1) (enc p) :=
    Rd.whole (by rw [get_new]; rfl) (hF.not1 2) (enc_by p) (.inr rfl)
  have q4 : Rd ⟨hp ++ [.cells 0 true [.int .i64 m, .int .i64 p, .int .u32 s], .cells (enc m).length true (u8s (enc m)), .cells (enc p).length true (u8s (enc p)), .cells 0 true (u8s [1]), bl4 s, .cells 0 false [.slice (some ⟨hp.length + 3, 0, some 0⟩) 1 1, .slice (some ⟨hp.length + 1, 0, some (enc m).length⟩) (enc m).length 1, .slice (some ⟨hp.length + 2, 0, some (enc p).length⟩) (enc p).length 1, .slice (some ⟨hp.length + 4, 0, some 0⟩) 4 0]], L, H, []⟩ (.slice (some ⟨hp.length + 4, 0, some 0⟩) 4 0) (be s) :=
    Rd.whole (l := be s) (by rw [get_new]; rfl) (hF.not1 4) (be_by s) (.inl rfl)
  have hcc := concat_walk (d := []) (l := blockOf m p s) (hF.mono (by simp)) (by rw [get_new]; rfl) (hF.not1 5) q1 q2 q3 q4 (by simp only [List.length_cons, List.length_nil]; omega) (by simp only [List.length_cons, List.length_nil, be_length]; omega) rfl
  simp only [sl_some, slB_some, List.append_assoc, List.cons_append, List.nil_append, List.length_append, List.length_cons, List.length_nil, Nat.zero_add, Nat.reduceAdd, u8s_cons, u8s_nil, Int.natCast_one] at hcc
  clear q1 q2 q3 q4
  simp (disch := (first | omega | (simp only [lnE] <;> omega) | (refine Fit.mono ‹Fit _ _ _› ?_ <;> (simp only [lnE] <;> omega)) | (refine Fit.draw ‹Fit _ _ _› ?_ ?_ <;> (simp only [lnE] <;> omega)) | (refine Fit.hid1 ‹Fit _ _ _› ?_ ?_ <;> (simp only [lnE] <;> omega)) | (refine Fit.hidc1 ‹Fit _ _ _› ?_ ?_ <;> (simp only [lnE] <;> omega)) | (refine Fit.hidc2 ‹Fit _ _ _› ?_ ?_ ?_ <;> (simp only [lnE] <;> omega)) | (refine Fit.draw1 ‹Fit _ _ _› ?_ ?_ ?_ <;> (simp only [lnE] <;> omega)) | (refine Fit.range0 ?_ ?_ <;> (simp only [lnE] <;> omega)) | fail)) only [syA, syB, argFr, D, E, T, C, undefv, eqF, aeq, sheqs, sheq, rdCells, cellsOf, fill, putAt, if_true, if_false, reduceIte, ↓reduceIte, reduceCtorEq, eq_self, Nat.reduceEqDiff, Nat.reduceAdd, Nat.reduceSub, Nat.reduceMul, Nat.reduceLT, Nat.reduceLeDiff, Nat.reducePow, Nat.reduceDiv, Nat.reduceMod, Int.reduceLT, Int.reduceLE, Int.reduceGT, Int.reduceGE, Int.reduceToNat, Int.reducePow, Int.reduceNeg, Int.reduceBEq, Int.reduceBNe, Int.reduceEq, Int.reduceAdd, Int.reduceSub, Int.reduceMul, cellv, sc, flatv, refs, refsF, refsC, hF.not0, hF.not1, hF.up0, hF.up1, ac10, hm1, hp1, hi1, hi2, hi3, within_walk, hc, small, sl4_eq, hcc]
  rw [gc_keep 6 rfl (by simp [refs, refsF, refsC]) (by simp [refs, refsF, refsC])]
  simp (disch := (first | omega | (simp only [lnE] <;> omega) | (refine Fit.mono ‹Fit _ _ _› ?_ <;> (simp only [lnE] <;> omega)) | (refine Fit.draw ‹Fit _ _ _› ?_ ?_ <;> (simp only [lnE] <;> omega)) | (refine Fit.hid1 ‹Fit _ _ _› ?_ ?_ <;> (simp only [lnE] <;> omega)) | (refine Fit.hidc1 ‹Fit _ _ _› ?_ ?_ <;> (simp only [lnE] <;> omega)) | (refine Fit.hidc2 ‹Fit _ _ _› ?_ ?_ ?_ <;> (simp only [lnE] <;> omega)) | (refine Fit.draw1 ‹Fit _ _ _› ?_ ?_ ?_ <;> (simp only [lnE] <;> omega)) | (refine Fit.range0 ?_ ?_ <;> (simp only [lnE] <;> omega)) | fail)) only [syA, syB, argFr, D, E, T, C, undefv, eqF, aeq, sheqs, sheq, rdCells, cellsOf, fill, putAt, if_true, if_false, reduceIte, ↓reduceIte, reduceCtorEq, eq_self, Nat.reduceEqDiff, Nat.reduceAdd, Nat.reduceSub, Nat.reduceMul, Nat.reduceLT, Nat.reduceLeDiff, Nat.reducePow, Nat.reduceDiv, Nat.reduceMod, Int.reduceLT, Int.reduceLE, Int.reduceGT, Int.reduceGE, Int.reduceToNat, Int.reducePow, Int.reduceNeg, Int.reduceBEq, Int.reduceBNe, Int.reduceEq, Int.reduceAdd, Int.reduceSub, Int.reduceMul, cellv, sc, flatv, refs, refsF, refsC, hF.not0, hF.not1, hF.up0, hF.up1, ren, renF, renC, one_new, List.map_cons, List.map_nil]
theorem putblock_bad (n m p : Int) (s : Nat) (h : ¬ ((1 ≤ n ∧ n ≤ 65536) ∧ (1 ≤ m ∧ m ≤ n) ∧ (1 ≤ p ∧ p ≤ m))) {hp : List Blk} {L : Nat} {H d : List Nat} (hF : Fit hp.length L H) :
    Lrun env (.func 10) [.int .i64 n, .agg #[.int .i64 m, .int .i64 p, .int .u32 s]] ⟨hp, L, H, d⟩ = some (.tuple #[.slice none 0 0, .int .i64 2], ⟨hp, L, H, d⟩) := by
  rw [Lrun_sym 10 _ _ fn10]
  have hn : ∀ x most : Int, (∀ nw, Lrun env (.func 26) [.int .i64 x, .int .i64 most] ⟨hp ++ nw, L, H, []⟩ = some (.tuple #[.slice none 0 0, .bool (inR x 1 most)], ⟨hp ++ nw, L, H, []⟩)) ∨
      ∃ k g l, (∀ nw, Lrun env (.func 26) [.int .i64 x, .int .i64 most] ⟨hp ++ nw, L, H, []⟩ = some (.tuple #[.slice (some ⟨(hp ++ nw).length, 0, some g⟩) k 1, .bool (inR x 1 most)], ⟨hp ++ nw ++ [.cells g true (u8s l)], L, H, []⟩)) := fun x most => by
    by_cases hb : x < 0 ∨ x > 2147483647
    · exact .inl fun nw => number_bad x most hb
    · obtain ⟨y, rfl⟩ : ∃ y : Nat, x = y := ⟨x.toNat, by omega⟩
      refine .inr ⟨(enc y).length, (enc y).length, enc y, fun nw => ?_⟩
      have := number_good y most (by omega) (hp := hp ++ nw) (L := L) (H := H) (d := []) (hF.mono (by simp))
      simp only [sl_some, slB_some] at this
      exact this
  have e3 : inR n 1 65536 = false ∨ (inR n 1 65536 = true ∧ inR m 1 n = false) ∨ (inR n 1 65536 = true ∧ inR m 1 n = true ∧ inR p 1 m = false) := by
    cases h1 : inR n 1 65536 with
    | false => exact .inl rfl
    | true =>
      cases h2 : inR m 1 n with
      | false => exact .inr (.inl ⟨rfl, rfl⟩)
      | true =>
        cases h3 : inR p 1 m with
        | false => exact .inr (.inr ⟨rfl, rfl, rfl⟩)
        | true => exact absurd ⟨inR_true.1 h1, inR_true.1 h2, inR_true.1 h3⟩ h
  rcases hn m n with g1 | ⟨k1, t1, l1, g1⟩ <;> rcases hn p m with g2 | ⟨k2, t2, l2, g2⟩ <;> rcases e3 with e1 | ⟨e1, e2⟩ | ⟨e1, e2, e3⟩
  all_goals first
    | (simp (disch := (first | omega | (simp only [lnE] <;> omega) | (refine Fit.mono ‹Fit _ _ _› ?_ <;> (simp only [lnE] <;> omega)) | (refine Fit.draw ‹Fit _ _ _› ?_ ?_ <;> (simp only [lnE] <;> omega)) | (refine Fit.hid1 ‹Fit _ _ _› ?_ ?_ <;> (simp only [lnE] <;> omega)) | (refine Fit.hidc1 ‹Fit _ _ _› ?_ ?_ <;> (simp only [lnE] <;> omega)) | (refine Fit.hidc2 ‹Fit _ _ _› ?_ ?_ ?_ <;> (simp only [lnE] <;> omega)) | (refine Fit.draw1 ‹Fit _ _ _› ?_ ?_ ?_ <;> (simp only [lnE] <;> omega)) | (refine Fit.range0 ?_ ?_ <;> (simp only [lnE] <;> omega)) | fail)) only [syA, syB, argFr, D, E, T, C, undefv, eqF, aeq, sheqs, sheq, rdCells, cellsOf, fill, putAt, if_true, if_false, reduceIte, ↓reduceIte, reduceCtorEq, eq_self, Nat.reduceEqDiff, Nat.reduceAdd, Nat.reduceSub, Nat.reduceMul, Nat.reduceLT, Nat.reduceLeDiff, Nat.reducePow, Nat.reduceDiv, Nat.reduceMod, Int.reduceLT, Int.reduceLE, Int.reduceGT, Int.reduceGE, Int.reduceToNat, Int.reducePow, Int.reduceNeg, Int.reduceBEq, Int.reduceBNe, Int.reduceEq, Int.reduceAdd, Int.reduceSub, Int.reduceMul, cellv, sc, flatv, refs, refsF, refsC, hF.not0, hF.not1, hF.up0, hF.up1, ac10, g1, g2, within_walk, e1]; done)
    | (simp (disch := (first | omega | (simp only [lnE] <;> omega) | (refine Fit.mono ‹Fit _ _ _› ?_ <;> (simp only [lnE] <;> omega)) | (refine Fit.draw ‹Fit _ _ _› ?_ ?_ <;> (simp only [lnE] <;> omega)) | (refine Fit.hid1 ‹Fit _ _ _› ?_ ?_ <;> (simp only [lnE] <;> omega)) | (refine Fit.hidc1 ‹Fit _ _ _› ?_ ?_ <;> (simp only [lnE] <;> omega)) | (refine Fit.hidc2 ‹Fit _ _ _› ?_ ?_ ?_ <;> (simp only [lnE] <;> omega)) | (refine Fit.draw1 ‹Fit _ _ _› ?_ ?_ ?_ <;> (simp only [lnE] <;> omega)) | (refine Fit.range0 ?_ ?_ <;> (simp only [lnE] <;> omega)) | fail)) only [syA, syB, argFr, D, E, T, C, undefv, eqF, aeq, sheqs, sheq, rdCells, cellsOf, fill, putAt, if_true, if_false, reduceIte, ↓reduceIte, reduceCtorEq, eq_self, Nat.reduceEqDiff, Nat.reduceAdd, Nat.reduceSub, Nat.reduceMul, Nat.reduceLT, Nat.reduceLeDiff, Nat.reducePow, Nat.reduceDiv, Nat.reduceMod, Int.reduceLT, Int.reduceLE, Int.reduceGT, Int.reduceGE, Int.reduceToNat, Int.reducePow, Int.reduceNeg, Int.reduceBEq, Int.reduceBNe, Int.reduceEq, Int.reduceAdd, Int.reduceSub, Int.reduceMul, cellv, sc, flatv, refs, refsF, refsC, hF.not0, hF.not1, hF.up0, hF.up1, ac10, g1, g2, within_walk, e1, e2]; done)
    | (simp (disch := (first | omega | (simp only [lnE] <;> omega) | (refine Fit.mono ‹Fit _ _ _› ?_ <;> (simp only [lnE] <;> omega)) | (refine Fit.draw ‹Fit _ _ _› ?_ ?_ <;> (simp only [lnE] <;> omega)) | (refine Fit.hid1 ‹Fit _ _ _› ?_ ?_ <;> (simp only [lnE] <;> omega)) | (refine Fit.hidc1 ‹Fit _ _ _› ?_ ?_ <;> (simp only [lnE] <;> omega)) | (refine Fit.hidc2 ‹Fit _ _ _› ?_ ?_ ?_ <;> (simp only [lnE] <;> omega)) | (refine Fit.draw1 ‹Fit _ _ _› ?_ ?_ ?_ <;> (simp only [lnE] <;> omega)) | (refine Fit.range0 ?_ ?_ <;> (simp only [lnE] <;> omega)) | fail)) only [syA, syB, argFr, D, E, T, C, undefv, eqF, aeq, sheqs, sheq, rdCells, cellsOf, fill, putAt, if_true, if_false, reduceIte, ↓reduceIte, reduceCtorEq, eq_self, Nat.reduceEqDiff, Nat.reduceAdd, Nat.reduceSub, Nat.reduceMul, Nat.reduceLT, Nat.reduceLeDiff, Nat.reducePow, Nat.reduceDiv, Nat.reduceMod, Int.reduceLT, Int.reduceLE, Int.reduceGT, Int.reduceGE, Int.reduceToNat, Int.reducePow, Int.reduceNeg, Int.reduceBEq, Int.reduceBNe, Int.reduceEq, Int.reduceAdd, Int.reduceSub, Int.reduceMul, cellv, sc, flatv, refs, refsF, refsC, hF.not0, hF.not1, hF.up0, hF.up1, ac10, g1, g2, within_walk, e1, e2, e3]; done)
end VarA
end Go.Proofs.Ytpjjkmfidghkjaa
