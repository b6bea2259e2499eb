/-
  LENGTH TABLES: Put, on the abstract machine. Conditions: none.
-/
import Derived.Test.YtlphmnhkkhcjfaaLtO
set_option linter.all false
section
namespace Go.Proofs.Ytlphmnhkkhcjfaa
namespace LtA
open Go Go.RowKit AM ArEnv Bt
variable {q : List Blk} {L : Nat} {H : List Nat} {a k s : Nat} {l : List Nat}

/-- The bits of a table are put, one by one, behind those of a writer. -/
theorem putl_loop {A : List Nat} (w : Ws q L H a k l) (hF : Fit q.length L H) (hA : Bits A) (hs : l.length + A.length ≤ 8380000) (hAs : q[s]? = some (.cells A.length true (is A))) (hHs : H.contains s = false) (hsa : s ≠ a) (hsk : s ≠ k) : ∀ (n i : Nat), i + n = A.length →
    ∃ fr, Liter env lb21_0 [22, 21, 20, 0] q.length [(22, .int .i64 i), (21, .int .i64 A.length), (20, .slice (some ⟨s, 0, some A.length⟩) A.length 1), (0, .pointer (some ⟨a, 0, some 0⟩))] ⟨Bt.wset q a k (l ++ A.take i), L, H, dirt a l (l ++ A.take i)⟩
      = some (.exit 0, fr, ⟨Bt.wset q a k (l ++ A), L, H, dirt a l (l ++ A)⟩)
  | 0, i, e => by
    obtain rfl : i = A.length := by omega
    rw [iter_by lb21_0.eq_1, List.take_length]
    simp (disch := (first | omega | (simp only [lnE] <;> omega) | (refine Fit.mono ‹Fit _ _ _› ?_ <;> (simp only [lnE] <;> omega)) | (refine Fit.draw ‹Fit _ _ _› ?_ ?_ <;> (simp only [lnE] <;> omega)) | (refine Fit.hid1 ‹Fit _ _ _› ?_ ?_ <;> (simp only [lnE] <;> omega)) | (refine Fit.hidc1 ‹Fit _ _ _› ?_ ?_ <;> (simp only [lnE] <;> omega)) | (refine Fit.hidc2 ‹Fit _ _ _› ?_ ?_ ?_ <;> (simp only [lnE] <;> omega)) | (refine Fit.draw1 ‹Fit _ _ _› ?_ ?_ ?_ <;> (simp only [lnE] <;> omega)) | (refine Fit.range0 ?_ ?_ <;> (simp only [lnE] <;> omega)) | fail)) only [syA, syB, argFr, D, E, T, C, undefv, eqF, aeq, sheqs, sheq, rdCells, cellsOf, fill, putAt, if_true, if_false, reduceIte, ↓reduceIte, reduceCtorEq, eq_self, Nat.reduceEqDiff, Nat.reduceAdd, Nat.reduceSub, Nat.reduceMul, Nat.reduceLT, Nat.reduceLeDiff, Nat.reducePow, Nat.reduceDiv, Nat.reduceMod, Int.reduceLT, Int.reduceLE, Int.reduceGT, Int.reduceGE, Int.reduceToNat, Int.reducePow, Int.reduceNeg, Int.reduceBEq, Int.reduceBNe, Int.reduceEq, Int.reduceAdd, Int.reduceSub, Int.reduceMul, cellv, sc, flatv, refs, refsF, refsC]
    exact ⟨_, rfl⟩
  | n + 1, i, e => by
    have hi : i < A.length := by omega
    have hi1 : (i : Int) < (A.length : Nat) := by omega
    have hi0 : (0 : Int) ≤ (i : Int) := by omega
    obtain ⟨fr, ih⟩ := putl_loop w hF hA hs hAs hHs hsa hsk n (i + 1) (by omega)
    refine ⟨fr, ?_⟩
    have hsl := (List.getElem?_eq_some_iff.1 hAs).1
    have hgs : (Bt.wset q a k (l ++ A.take i))[s]? = some (.cells A.length true (is A)) := by rw [wset_other w hsl hsa hsk, hAs]
    have hget : (is A)[i]? = some (.int .i64 (A[i] : Nat)) := by simp [is, hi]
    have hb := hA A[i] (List.getElem_mem hi)
    have ht : l ++ A.take (i + 1) = l ++ A.take i ++ [A[i]] := by rw [List.take_succ, List.getElem?_eq_getElem hi, List.append_assoc]; rfl
    have hbit1 : bitsAt A[i] 1 = [A[i]] := by simp [bitsAt]; omega
    have tl : (l ++ A.take i).length = l.length + i := by rw [List.length_append, List.length_take]; omega
    have tl1 : (l ++ A.take (i + 1)).length = l.length + (i + 1) := by rw [List.length_append, List.length_take]; omega
    have hbt : Bits (l ++ A.take i) := w.bits.append fun b hb => hA b (List.mem_of_mem_take hb)
    have w' := w.wset (m := l ++ A.take i) (fun h => by omega) hbt
    have hput := put_walk w' (v := A[i]) (n := 1) (by omega) (by omega) (by omega) (fit_wset hF) (by rw [Nat.div_eq_zero_iff]; omega) (dirt a l (l ++ A.take i))
    rw [hbit1, ← ht, wset_wset w (by omega), dirt_trans (by omega) (by omega)] at hput
    simp only [Int.natCast_one] at hput
    have hgc := gcFr_wset (m := l ++ A.take (i + 1)) w rfl (d := dirt a l (l ++ A.take (i + 1))) (fr := [(22, .int .i64 ((i : Int) + 1)), (21, .int .i64 A.length), (20, .slice (some ⟨s, 0, some A.length⟩) A.length 1), (0, .pointer (some ⟨a, 0, some 0⟩))]) (by
      intro p hp r hr
      simp only [List.mem_cons, List.not_mem_nil, or_false] at hp
      rcases hp with rfl | rfl | rfl | rfl
      · simp [refs, refsF, refsC] at hr
      · simp [refs, refsF, refsC] at hr
      · simp [refs, refsF, refsC] at hr; omega
      · simp [refs, refsF, refsC] at hr; have := w.lt; omega) (fun h1 h2 => dirt_new h1 h2)
    simp only [Int.natCast_add, Int.natCast_one] at ih
    have hsz : A.length ≤ 8380000 := by omega
    rw [iter_by lb21_0.eq_1]
    simp (disch := (first | omega | (simp only [lnE] <;> omega) | (refine Fit.mono ‹Fit _ _ _› ?_ <;> (simp only [lnE] <;> omega)) | (refine Fit.draw ‹Fit _ _ _› ?_ ?_ <;> (simp only [lnE] <;> omega)) | (refine Fit.hid1 ‹Fit _ _ _› ?_ ?_ <;> (simp only [lnE] <;> omega)) | (refine Fit.hidc1 ‹Fit _ _ _› ?_ ?_ <;> (simp only [lnE] <;> omega)) | (refine Fit.hidc2 ‹Fit _ _ _› ?_ ?_ ?_ <;> (simp only [lnE] <;> omega)) | (refine Fit.draw1 ‹Fit _ _ _› ?_ ?_ ?_ <;> (simp only [lnE] <;> omega)) | (refine Fit.range0 ?_ ?_ <;> (simp only [lnE] <;> omega)) | fail)) only [syA, syB, argFr, D, E, T, C, undefv, eqF, aeq, sheqs, sheq, rdCells, cellsOf, fill, putAt, if_true, if_false, reduceIte, ↓reduceIte, reduceCtorEq, eq_self, Nat.reduceEqDiff, Nat.reduceAdd, Nat.reduceSub, Nat.reduceMul, Nat.reduceLT, Nat.reduceLeDiff, Nat.reducePow, Nat.reduceDiv, Nat.reduceMod, Int.reduceLT, Int.reduceLE, Int.reduceGT, Int.reduceGE, Int.reduceToNat, Int.reducePow, Int.reduceNeg, Int.reduceBEq, Int.reduceBNe, Int.reduceEq, Int.reduceAdd, Int.reduceSub, Int.reduceMul, cellv, sc, flatv, refs, refsF, refsC, hi0, hi1, hgs, hHs, hget, hput, hgc]
    exact ih
theorem adj_bits (x : List Nat) : ∀ n i was, Bits (adj x n i was)
  | 0, _, _ => Bits.nil
  | n + 1, i, was => (chg_bits _ _).append (adj_bits x n (i + 1) _)
theorem encF_bits (x : List Nat) : Bits (encF x) := (f4_bits _ _).append (adj_bits x 258 0 _)
theorem adj_length {x : List Nat} (hx : ∀ i, x.getD i 0 ≤ 15) : ∀ n i was, was ≤ 15 → (adj x n i was).length ≤ 31 * n
  | 0, _, _, _ => by simp [adj]
  | n + 1, i, was, hw => by
    have h1 := adj_length hx n (i + 1) (x.getD i 0) (hx i)
    have hcl : ∀ now, now ≤ 15 → (chg was now).length ≤ 31 := fun now hn => by
      unfold chg
      split <;> (rw [List.length_append, rep_length, List.length_singleton]; omega)
    have h2 := hcl _ (hx i)
    rw [adj, List.length_append]
    omega
theorem encF_length {x : List Nat} (h : ∀ n ∈ x, n ≤ 15) : (encF x).length ≤ 8002 := by
  have hg : ∀ i, x.getD i 0 ≤ 15 := fun i => by
    rw [List.getD_eq_getElem?_getD]
    rcases Nat.lt_or_ge i x.length with h1 | h1
    · rw [List.getElem?_eq_getElem h1]; exact h _ (List.getElem_mem h1)
    · rw [List.getElem?_eq_none h1]; decide
  have := adj_length hg 258 0 (x.getD 0 0) (hg 0)
  unfold encF
  rw [List.length_append, f4_length]
  omega
theorem putl_bad {d : List Nat} {hp : List Blk} {x : List Nat} (hx : x.length = 258) (hx8 : By x) (ht : kTable x = false) (hF : Fit hp.length L H) :
    Lrun env (.func 21) [.pointer (some ⟨a, 0, some 0⟩), .agg (u8s x).toArray] ⟨hp, L, H, d⟩ = some (.int .i64 2, ⟨hp, L, H, d⟩) := by
  rw [Lrun_sym 21 _ _ fn21]
  have ho := fun hp L H d hF => of_bad (hp := hp) (L := L) (H := H) (d := d) hx hx8 ht hF
  have htk := take258 hx
  simp (disch := (first | omega | (simp only [lnE] <;> omega) | (refine Fit.mono ‹Fit _ _ _› ?_ <;> (simp only [lnE] <;> omega)) | (refine Fit.draw ‹Fit _ _ _› ?_ ?_ <;> (simp only [lnE] <;> omega)) | (refine Fit.hid1 ‹Fit _ _ _› ?_ ?_ <;> (simp only [lnE] <;> omega)) | (refine Fit.hidc1 ‹Fit _ _ _› ?_ ?_ <;> (simp only [lnE] <;> omega)) | (refine Fit.hidc2 ‹Fit _ _ _› ?_ ?_ ?_ <;> (simp only [lnE] <;> omega)) | (refine Fit.draw1 ‹Fit _ _ _› ?_ ?_ ?_ <;> (simp only [lnE] <;> omega)) | (refine Fit.range0 ?_ ?_ <;> (simp only [lnE] <;> omega)) | fail)) only [syA, syB, argFr, D, E, T, C, undefv, eqF, aeq, sheqs, sheq, rdCells, cellsOf, fill, putAt, if_true, if_false, reduceIte, ↓reduceIte, reduceCtorEq, eq_self, Nat.reduceEqDiff, Nat.reduceAdd, Nat.reduceSub, Nat.reduceMul, Nat.reduceLT, Nat.reduceLeDiff, Nat.reducePow, Nat.reduceDiv, Nat.reduceMod, Int.reduceLT, Int.reduceLE, Int.reduceGT, Int.reduceGE, Int.reduceToNat, Int.reducePow, Int.reduceNeg, Int.reduceBEq, Int.reduceBNe, Int.reduceEq, Int.reduceAdd, Int.reduceSub, Int.reduceMul, cellv, sc, flatv, refs, refsF, refsC, hF.not0, hF.not1, hF.up0, hF.up1, ac21, u8s_cellv, u8s_scs, ho, htk, hx, le258 hx]
theorem putl_walk {d : List Nat} {hp : List Blk} {x : List Nat} (w : Ws hp L H a k l) (hx : x.length = 258) (hx8 : By x) (ht : kTable x = true) (hs : l.length ≤ 8000000) (hF : Fit hp.length L H) :
    Lrun env (.func 21) [.pointer (some ⟨a, 0, some 0⟩), .agg (u8s x).toArray] ⟨hp, L, H, d⟩ = some (.int .i64 0, ⟨Bt.wset hp a k (l ++ encF x), L, H, joinDirty d (dirt a l (l ++ encF x))⟩) := by
  rw [Lrun_sym 21 _ _ fn21]
  have hlt := w.lt
  have he : (encF x).length ≠ 0 := by unfold encF; rw [List.length_append, f4_length]; omega
  have hel := encF_length (table_le ht)
  have ho := fun d => of_good (hp := hp ++ [.cells 0 true (u8s x)]) (L := L) (H := H) (d := d) hx hx8 ht (hF.mono (by simp))
  have eI : ∀ j, slI j (encF x) = .slice (some ⟨j, 0, some (encF x).length⟩) (encF x).length 1 := fun j => if_neg he
  have eB : slIB (encF x) = [.cells (encF x).length true (is (encF x))] := if_neg he
  simp only [eI, eB, List.length_append, List.length_cons, List.length_nil, Nat.zero_add, List.append_assoc, List.cons_append, List.nil_append] at ho
  have htk := take258 hx
  have W := w.app hF [Blk.cells 0 true (u8s x), .cells (encF x).length true (is (encF x))]
  have hFq : Fit (hp ++ [Blk.cells 0 true (u8s x), .cells (encF x).length true (is (encF x))]).length L H := hF.mono (by simp)
  simp only [List.length_cons, List.length_nil, Nat.zero_add, Nat.reduceAdd] at W
  obtain ⟨fr, h1⟩ := putl_loop (s := hp.length + 1) W hFq (encF_bits x) (by omega) (by rw [get_new]; rfl) (hF.not1 1) (by omega) (by split <;> rename_i hz <;> first | omega | (have := w.klt hz; omega)) (encF x).length 0 (by omega)
  have hself : Bt.wset (hp ++ [Blk.cells 0 true (u8s x), .cells (encF x).length true (is (encF x))]) a (if l.length = 0 then hp.length + 2 else k) l = hp ++ [Blk.cells 0 true (u8s x), .cells (encF x).length true (is (encF x))] := wset_self W
  rw [List.take_zero, List.append_nil, hself, dirt_self] at h1
  have G := gc_put (m := l ++ encF x) (v := .int .i64 0) w hF (nw := [Blk.cells 0 true (u8s x), .cells (encF x).length true (is (encF x))]) (by simp [refs, refsF, refsC]) (fun h => by rw [List.length_append] at h; omega)
  simp only [List.length_append, List.length_cons, List.length_nil, Nat.zero_add, Nat.reduceAdd, Int.natCast_zero] at h1 G
  have hj : joinDirty [] (dirt a l (l ++ encF x)) = dirt a l (l ++ encF x) := by unfold dirt; split <;> simp [joinDirty]
  clear hFq
  simp (disch := (first | omega | (simp only [lnE] <;> omega) | (refine Fit.mono ‹Fit _ _ _› ?_ <;> (simp only [lnE] <;> omega)) | (refine Fit.draw ‹Fit _ _ _› ?_ ?_ <;> (simp only [lnE] <;> omega)) | (refine Fit.hid1 ‹Fit _ _ _› ?_ ?_ <;> (simp only [lnE] <;> omega)) | (refine Fit.hidc1 ‹Fit _ _ _› ?_ ?_ <;> (simp only [lnE] <;> omega)) | (refine Fit.hidc2 ‹Fit _ _ _› ?_ ?_ ?_ <;> (simp only [lnE] <;> omega)) | (refine Fit.draw1 ‹Fit _ _ _› ?_ ?_ ?_ <;> (simp only [lnE] <;> omega)) | (refine Fit.range0 ?_ ?_ <;> (simp only [lnE] <;> omega)) | fail)) only [syA, syB, argFr, D, E, T, C, undefv, eqF, aeq, sheqs, sheq, rdCells, cellsOf, fill, putAt, if_true, if_false, reduceIte, ↓reduceIte, reduceCtorEq, eq_self, Nat.reduceEqDiff, Nat.reduceAdd, Nat.reduceSub, Nat.reduceMul, Nat.reduceLT, Nat.reduceLeDiff, Nat.reducePow, Nat.reduceDiv, Nat.reduceMod, Int.reduceLT, Int.reduceLE, Int.reduceGT, Int.reduceGE, Int.reduceToNat, Int.reducePow, Int.reduceNeg, Int.reduceBEq, Int.reduceBNe, Int.reduceEq, Int.reduceAdd, Int.reduceSub, Int.reduceMul, cellv, sc, flatv, refs, refsF, refsC, hF.not0, hF.not1, hF.up0, hF.up1, ac21, u8s_cellv, u8s_scs, ho, htk, hx, le258 hx, h1, G, hj]
end LtA
end Go.Proofs.Ytlphmnhkkhcjfaa
end
