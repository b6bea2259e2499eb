/-
  THE BIT WRITER's laws: the bits of bytes, written one by one. Conditions: none.
-/
import Derived.Test.YtceecoagooalpaaBtLaw
set_option linter.all false
section
namespace Go.Proofs.Ytceecoagooalpaa
namespace Bt
open Go Go.RowKit AM ArEnv
variable {q : List Blk} {L : Nat} {H : List Nat} {a k s : Nat} {l : List Nat}

theorem nb_mono {l m : List Nat} (h : l.length ≤ m.length) : nb l ≤ nb m := by unfold nb; omega
theorem dirt_trans {l l' m : List Nat} (h1 : l.length ≤ l'.length) (h2 : l'.length ≤ m.length) (a : Nat) : joinDirty (dirt a l l') (dirt a l' m) = dirt a l m := by
  have n1 := nb_mono h1
  have n2 := nb_mono h2
  unfold dirt
  by_cases e1 : nb l = nb l'
  · rw [if_pos e1, e1]
    split <;> simp [joinDirty]
  · rw [if_neg e1, if_neg (by omega : ¬ nb l = nb m)]
    split <;> simp [joinDirty]
theorem bitsIn_byte {bs : List Nat} (hb : By bs) {i : Nat} (hi : i < bs.length) : num (bitsIn bs (8 * i) 8) = bs[i] := by
  have hx := hb.get hi
  have hg : ∀ j, j < 8 → bitAt bs (8 * i + j) = bs[i] / 2 ^ (7 - j) % 2 := fun j hj => by
    unfold bitAt
    rw [show (8 * i + j) / 8 = i by omega, show (8 * i + j) % 8 = j by omega, List.getD_eq_getElem?_getD, List.getElem?_eq_getElem hi]
    rfl
  have h0 := hg 0 (by omega)
  rw [Nat.add_zero] at h0
  simp only [bitsIn, Nat.add_assoc, Nat.reduceAdd, h0, hg 1 (by omega), hg 2 (by omega), hg 3 (by omega), hg 4 (by omega), hg 5 (by omega), hg 6 (by omega), hg 7 (by omega)]
  simp only [num, List.foldl_cons, List.foldl_nil, Nat.reduceSub, Nat.reducePow]
  omega
theorem ofw_loop {A : List Nat} {v : Value} (w : Ws q L H a k []) (hF : Fit q.length L H) (hA : Bits A) (hs : A.length ≤ 2400) (hAs : q[s]? = some (.cells A.length true (is A))) (hHs : H.contains s = false) (hsa : s ≠ a) (hsk : s ≠ k) (hv : ∀ r ∈ refs v, r < q.length) : ∀ (n i : Nat), i + n = A.length →
    ∃ fr, Liter env lb11_1 [3, 4, 0, 5] q.length [(3, .slice (some ⟨s, 0, some A.length⟩) A.length 1), (4, .pointer (some ⟨a, 0, some 0⟩)), (0, v), (5, .int .i64 i)] ⟨wset q a k (A.take i), L, H, dirt a [] (A.take i)⟩
      = some (.exit 0, fr, ⟨wset q a k A, L, H, dirt a [] A⟩) ∧ fr.get 0 = some v ∧ fr.get 4 = some (.pointer (some ⟨a, 0, some 0⟩))
  | 0, i, e => by
    obtain rfl : i = A.length := by omega
    rw [iter_by lb11_1.eq_1, List.take_length]
    simp (disch := (first | omega | (simp only [lnE] <;> omega) | (refine Fit.mono ‹Fit _ _ _› ?_ <;> (simp only [lnE] <;> omega)) | (refine Fit.draw ‹Fit _ _ _› ?_ ?_ <;> (simp only [lnE] <;> omega)) | (refine Fit.hid1 ‹Fit _ _ _› ?_ ?_ <;> (simp only [lnE] <;> omega)) | (refine Fit.draw1 ‹Fit _ _ _› ?_ ?_ ?_ <;> (simp only [lnE] <;> omega)) | (refine Fit.range0 ?_ ?_ <;> (simp only [lnE] <;> omega)) | fail)) only [syA, syB, argFr, D, E, T, C, undefv, eqF, aeq, sheqs, sheq, rdCells, cellsOf, fill, putAt, if_true, if_false, reduceIte, ↓reduceIte, reduceCtorEq, eq_self, Nat.reduceEqDiff, Nat.reduceAdd, Nat.reduceSub, Nat.reduceMul, Nat.reduceLT, Nat.reduceLeDiff, Nat.reducePow, Nat.reduceDiv, Nat.reduceMod, Int.reduceLT, Int.reduceLE, Int.reduceGT, Int.reduceGE, Int.reduceToNat, Int.reducePow, Int.reduceNeg, Int.reduceBEq, Int.reduceBNe, Int.reduceEq, Int.reduceAdd, Int.reduceSub, Int.reduceMul, cellv, sc, flatv, refs, refsF, refsC]
    exact ⟨_, rfl, rfl, rfl⟩
  | n + 1, i, e => by
    have hi : i < A.length := by omega
    have hi1 : (i : Int) < (A.length : Nat) := by omega
    have hi0 : (0 : Int) ≤ (i : Int) := by omega
    obtain ⟨fr, ih, h1, h2⟩ := ofw_loop w hF hA hs hAs hHs hsa hsk hv n (i + 1) (by omega)
    refine ⟨fr, ?_, h1, h2⟩
    have hsl := (List.getElem?_eq_some_iff.1 hAs).1
    have hgs : (wset q a k (A.take i))[s]? = some (.cells A.length true (is A)) := by rw [wset_other w hsl hsa hsk, hAs]
    have hget : (is A)[i]? = some (.int .i64 (A[i] : Nat)) := by simp [is, hi]
    have hb := hA A[i] (List.getElem_mem hi)
    have ht : A.take (i + 1) = A.take i ++ [A[i]] := by rw [List.take_succ, List.getElem?_eq_getElem hi]; rfl
    have hbit1 : bitsAt A[i] 1 = [A[i]] := by simp [bitsAt]; omega
    have w' := w.wset (m := A.take i) (fun _ => rfl) (fun b hb => hA b (List.mem_of_mem_take hb))
    have hput := put_walk w' (v := A[i]) (n := 1) (by omega) (by omega) (by simp; omega) (fit_wset hF) (by rw [Nat.div_eq_zero_iff]; omega) (dirt a [] (A.take i))
    have tl : (A.take i).length = i := by simp; omega
    have tl1 : (A.take (i + 1)).length = i + 1 := by simp; omega
    rw [hbit1, ← ht, wset_wset w (by omega), dirt_trans (by simp) (by omega)] at hput
    simp only [Int.natCast_one] at hput
    have hgc := gcFr_wset (m := A.take (i + 1)) w rfl (d := dirt a [] (A.take (i + 1))) (fr := [(3, .slice (some ⟨s, 0, some A.length⟩) A.length 1), (4, .pointer (some ⟨a, 0, some 0⟩)), (0, v), (5, .int .i64 ((i : Int) + 1))]) (by
      intro p hp r hr
      simp only [List.mem_cons, List.not_mem_nil, or_false] at hp
      rcases hp with rfl | rfl | rfl | rfl
      · simp [refs, refsF, refsC] at hr; omega
      · simp [refs, refsF, refsC] at hr; have := w.lt; omega
      · exact hv r hr
      · simp [refs, refsF, refsC] at hr) (fun h1 h2 => dirt_new h1 h2)
    simp only [Int.natCast_add, Int.natCast_one] at ih
    have g0 : ¬ ((A[i] : Nat) : Int) < 0 := by omega
    have g1 : ¬ ((A[i] : Nat) : Int) > 1 := by omega
    rw [iter_by lb11_1.eq_1]
    simp (disch := (first | omega | (simp only [lnE] <;> omega) | (refine Fit.mono ‹Fit _ _ _› ?_ <;> (simp only [lnE] <;> omega)) | (refine Fit.draw ‹Fit _ _ _› ?_ ?_ <;> (simp only [lnE] <;> omega)) | (refine Fit.hid1 ‹Fit _ _ _› ?_ ?_ <;> (simp only [lnE] <;> omega)) | (refine Fit.draw1 ‹Fit _ _ _› ?_ ?_ ?_ <;> (simp only [lnE] <;> omega)) | (refine Fit.range0 ?_ ?_ <;> (simp only [lnE] <;> omega)) | fail)) only [syA, syB, argFr, D, E, T, C, undefv, eqF, aeq, sheqs, sheq, rdCells, cellsOf, fill, putAt, if_true, if_false, reduceIte, ↓reduceIte, reduceCtorEq, eq_self, Nat.reduceEqDiff, Nat.reduceAdd, Nat.reduceSub, Nat.reduceMul, Nat.reduceLT, Nat.reduceLeDiff, Nat.reducePow, Nat.reduceDiv, Nat.reduceMod, Int.reduceLT, Int.reduceLE, Int.reduceGT, Int.reduceGE, Int.reduceToNat, Int.reducePow, Int.reduceNeg, Int.reduceBEq, Int.reduceBNe, Int.reduceEq, Int.reduceAdd, Int.reduceSub, Int.reduceMul, cellv, sc, flatv, refs, refsF, refsC, hi0, hi1, hgs, hHs, hget, g0, g1, hput, hgc]
    exact ih
theorem ofg_loop {v : Value} (R : Rd ⟨q, L, H, []⟩ v l) (hs : l.length ≤ 300) (hF : Fit q.length L H) : ∀ (n i : Nat), i + n = l.length →
    ∃ fr, Liter env lb11_0 [0, 4, 6] q.length [(0, v), (4, .pointer (some ⟨a, 0, some 0⟩)), (6, .int .i64 i)] ⟨q, L, H, []⟩
      = some (.exit 2, fr, ⟨q, L, H, []⟩) ∧ fr.get 0 = some v ∧ fr.get 4 = some (.pointer (some ⟨a, 0, some 0⟩))
  | 0, i, e => by
    obtain rfl : i = l.length := by omega
    obtain ⟨p, e, rfl⟩ := R.len
    rw [iter_by lb11_0.eq_1]
    simp (disch := (first | omega | (simp only [lnE] <;> omega) | (refine Fit.mono ‹Fit _ _ _› ?_ <;> (simp only [lnE] <;> omega)) | (refine Fit.draw ‹Fit _ _ _› ?_ ?_ <;> (simp only [lnE] <;> omega)) | (refine Fit.hid1 ‹Fit _ _ _› ?_ ?_ <;> (simp only [lnE] <;> omega)) | (refine Fit.draw1 ‹Fit _ _ _› ?_ ?_ ?_ <;> (simp only [lnE] <;> omega)) | (refine Fit.range0 ?_ ?_ <;> (simp only [lnE] <;> omega)) | fail)) only [syA, syB, argFr, D, E, T, C, undefv, eqF, aeq, sheqs, sheq, rdCells, cellsOf, fill, putAt, if_true, if_false, reduceIte, ↓reduceIte, reduceCtorEq, eq_self, Nat.reduceEqDiff, Nat.reduceAdd, Nat.reduceSub, Nat.reduceMul, Nat.reduceLT, Nat.reduceLeDiff, Nat.reducePow, Nat.reduceDiv, Nat.reduceMod, Int.reduceLT, Int.reduceLE, Int.reduceGT, Int.reduceGE, Int.reduceToNat, Int.reducePow, Int.reduceNeg, Int.reduceBEq, Int.reduceBNe, Int.reduceEq, Int.reduceAdd, Int.reduceSub, Int.reduceMul, cellv, sc, flatv, refs, refsF, refsC]
    exact ⟨_, rfl, rfl, rfl⟩
  | n + 1, i, e => by
    have hi : i < l.length := by omega
    have hi1 : (i : Int) < (l.length : Nat) := by omega
    have hi0 : (0 : Int) ≤ (i : Int) := by omega
    obtain ⟨fr, ih, h1, h2⟩ := ofg_loop R hs hF n (i + 1) (by omega)
    refine ⟨fr, ?_, h1, h2⟩
    have hget := get_walk R (p := 8 * i) (w := 8) (by omega) (by omega) (by omega) hF
    rw [bitsIn_byte R.by_ hi] at hget
    simp only [Int.natCast_mul, Int.cast_ofNat_Int] at hget
    have hx := R.by_.get hi
    obtain ⟨p, e, rfl⟩ := R.len
    obtain ⟨b, o, g, pl, cs, rfl, _, hh, hb, hcell⟩ := R.at_ hi
    simp only [] at hh hb
    simp only [Int.natCast_add, Int.natCast_one] at ih
    rw [iter_by lb11_0.eq_1]
    simp (disch := (first | omega | (simp only [lnE] <;> omega) | (refine Fit.mono ‹Fit _ _ _› ?_ <;> (simp only [lnE] <;> omega)) | (refine Fit.draw ‹Fit _ _ _› ?_ ?_ <;> (simp only [lnE] <;> omega)) | (refine Fit.hid1 ‹Fit _ _ _› ?_ ?_ <;> (simp only [lnE] <;> omega)) | (refine Fit.draw1 ‹Fit _ _ _› ?_ ?_ ?_ <;> (simp only [lnE] <;> omega)) | (refine Fit.range0 ?_ ?_ <;> (simp only [lnE] <;> omega)) | fail)) only [syA, syB, argFr, D, E, T, C, undefv, eqF, aeq, sheqs, sheq, rdCells, cellsOf, fill, putAt, if_true, if_false, reduceIte, ↓reduceIte, reduceCtorEq, eq_self, Nat.reduceEqDiff, Nat.reduceAdd, Nat.reduceSub, Nat.reduceMul, Nat.reduceLT, Nat.reduceLeDiff, Nat.reducePow, Nat.reduceDiv, Nat.reduceMod, Int.reduceLT, Int.reduceLE, Int.reduceGT, Int.reduceGE, Int.reduceToNat, Int.reducePow, Int.reduceNeg, Int.reduceBEq, Int.reduceBNe, Int.reduceEq, Int.reduceAdd, Int.reduceSub, Int.reduceMul, cellv, sc, flatv, refs, refsF, refsC, hi0, hi1, hh, hb, hcell, hget]
    exact ih
theorem of_run {bs : List Blk} {v : Value} (R : Rd ⟨bs, bs.length, [], []⟩ v l) :
    ∃ σ', Lrun env (.func 11) [v] ⟨bs, bs.length, [], []⟩ = some (.bool true, σ') := by
  rw [Lrun_sym 11 _ _ fn11]
  have hF : Fit bs.length bs.length [] := ⟨Nat.le_refl _, Low.nil _⟩
  by_cases h1 : (l.length : Int) > 300
  · obtain ⟨p, e, rfl⟩ := R.len
    simp (disch := (first | omega | (simp only [lnE] <;> omega) | (refine Fit.mono ‹Fit _ _ _› ?_ <;> (simp only [lnE] <;> omega)) | (refine Fit.draw ‹Fit _ _ _› ?_ ?_ <;> (simp only [lnE] <;> omega)) | (refine Fit.hid1 ‹Fit _ _ _› ?_ ?_ <;> (simp only [lnE] <;> omega)) | (refine Fit.draw1 ‹Fit _ _ _› ?_ ?_ ?_ <;> (simp only [lnE] <;> omega)) | (refine Fit.range0 ?_ ?_ <;> (simp only [lnE] <;> omega)) | fail)) only [syA, syB, argFr, D, E, T, C, undefv, eqF, aeq, sheqs, sheq, rdCells, cellsOf, fill, putAt, if_true, if_false, reduceIte, ↓reduceIte, reduceCtorEq, eq_self, Nat.reduceEqDiff, Nat.reduceAdd, Nat.reduceSub, Nat.reduceMul, Nat.reduceLT, Nat.reduceLeDiff, Nat.reducePow, Nat.reduceDiv, Nat.reduceMod, Int.reduceLT, Int.reduceLE, Int.reduceGT, Int.reduceGE, Int.reduceToNat, Int.reducePow, Int.reduceNeg, Int.reduceBEq, Int.reduceBNe, Int.reduceEq, Int.reduceAdd, Int.reduceSub, Int.reduceMul, cellv, sc, flatv, refs, refsF, refsC, hF.not0, hF.not1, hF.up0, hF.up1, ac11, h1, wakes_walk]
    exact ⟨_, rfl⟩
  have hA : Bits (allBits l) := bitsIn_bits _ _ _
  have hAl : (allBits l).length = 8 * l.length := bitsIn_length _ _ _
  have hof := fun d => of_walk (d := d) (R.locked (d' := d)) (by omega) hF
  by_cases h0 : l.length = 0
  · have e1 : slI bs.length (allBits l) = .slice none 0 0 := if_pos (by omega)
    have e2 : slIB (allBits l) = [] := if_pos (by omega)
    rw [e1, e2] at hof
    simp only [List.append_nil] at hof
    have n1 := fun d => new_walk hF d
    have hn : l = [] := List.eq_nil_of_length_eq_zero h0
    subst hn
    have hF1 : Fit (bs ++ [Wr 0 []]).length bs.length [] := hF.mono (by simp)
    have w1 : Ws (bs ++ [Wr 0 []]) bs.length [] bs.length (bs ++ [Wr 0 []]).length [] :=
      ⟨get_new0 _, fun h => absurd rfl h, fun _ => rfl, Nat.le_refl _, by simp, rfl, rfl, by simp, Bits.nil⟩
    have hFq : Fit (bs ++ [Wr 0 []]).length (bs ++ [Wr 0 []]).length [] := ⟨Nat.le_refl _, Low.nil _⟩
    have b1 := fun d => bytes_walk w1.v (by simp) hFq d
    have pd := fun d => pad_walk w1 (by simp) hF1 d
    have e3 : sl (bs ++ [Wr 0 []]).length (nb []) (ob []) = .slice none 0 0 := rfl
    have e4 : slB (nb []) (ob []) = [] := rfl
    have e5 : padN [] = 0 := rfl
    rw [e3, e4] at b1
    rw [e5] at pd
    simp only [List.append_nil, List.length_append, List.length_cons, List.length_nil, Nat.zero_add] at b1
    have hstr : ∀ nw L d, St.str ⟨bs ++ nw, L, [], d⟩ v = some (b8 []) := fun nw L d => (R.app).str
    obtain ⟨p, e, rfl⟩ := R.len
    simp only [List.length_nil] at *
    have l1 := iter_by (env := env) lb11_0.eq_1
    have l2 := iter_by (env := env) lb11_1.eq_1
    simp (disch := (first | omega | (simp only [lnE] <;> omega) | (refine Fit.mono ‹Fit _ _ _› ?_ <;> (simp only [lnE] <;> omega)) | (refine Fit.draw ‹Fit _ _ _› ?_ ?_ <;> (simp only [lnE] <;> omega)) | (refine Fit.hid1 ‹Fit _ _ _› ?_ ?_ <;> (simp only [lnE] <;> omega)) | (refine Fit.draw1 ‹Fit _ _ _› ?_ ?_ ?_ <;> (simp only [lnE] <;> omega)) | (refine Fit.range0 ?_ ?_ <;> (simp only [lnE] <;> omega)) | fail)) only [syA, syB, argFr, D, E, T, C, undefv, eqF, aeq, sheqs, sheq, rdCells, cellsOf, fill, putAt, if_true, if_false, reduceIte, ↓reduceIte, reduceCtorEq, eq_self, Nat.reduceEqDiff, Nat.reduceAdd, Nat.reduceSub, Nat.reduceMul, Nat.reduceLT, Nat.reduceLeDiff, Nat.reducePow, Nat.reduceDiv, Nat.reduceMod, Int.reduceLT, Int.reduceLE, Int.reduceGT, Int.reduceGE, Int.reduceToNat, Int.reducePow, Int.reduceNeg, Int.reduceBEq, Int.reduceBNe, Int.reduceEq, Int.reduceAdd, Int.reduceSub, Int.reduceMul, cellv, sc, flatv, refs, refsF, refsC, hF.not0, hF.not1, hF.up0, hF.up1, ac11, hof, n1, wakes_walk, l1, l2, b1, pd, hstr, b8_nil]
    exact gc_end (by simp) _ _ _
  · have hF1 : Fit (bs ++ [Blk.cells (allBits l).length true (is (allBits l))]).length bs.length [] := hF.mono (by simp)
    have hF2 : Fit (bs ++ [Blk.cells (allBits l).length true (is (allBits l)), Wr 0 []]).length bs.length [] := hF.mono (by simp)
    have e1 : slI bs.length (allBits l) = .slice (some ⟨bs.length, 0, some (allBits l).length⟩) (allBits l).length 1 := if_neg (by omega)
    have e2 : slIB (allBits l) = [.cells (allBits l).length true (is (allBits l))] := if_neg (by omega)
    rw [e1, e2] at hof
    have n1 := fun d => new_walk hF1 d
    simp only [List.length_append, List.length_cons, List.length_nil, Nat.zero_add, List.append_assoc, List.cons_append, List.nil_append] at n1
    have w1 : Ws (bs ++ [Blk.cells (allBits l).length true (is (allBits l)), Wr 0 []]) bs.length [] (bs.length + 1) (bs ++ [Blk.cells (allBits l).length true (is (allBits l)), Wr 0 []]).length [] :=
      ⟨by rw [get_new]; rfl, fun h => absurd rfl h, fun _ => rfl, by omega, by simp, rfl, rfl, by simp, Bits.nil⟩
    have hvr := R.refs
    obtain ⟨fr1, lw, g1, g2⟩ := ofw_loop (s := bs.length) w1 hF2 hA (by omega) (get_new0 _) rfl (by omega) (by simp) (fun r hr => by have := hvr r hr; simp only [List.length_append, List.length_cons, List.length_nil] at this ⊢; omega) (allBits l).length 0 (by omega)
    rw [List.take_zero, wset_nil rfl, show dirt (bs.length + 1) [] [] = [] from rfl] at lw
    have hbl : (bs ++ [Blk.cells (allBits l).length true (is (allBits l)), Wr 0 []]).length = bs.length + 2 := by simp
    have w2 := w1.wset (m := allBits l) (fun _ => rfl) hA
    have hF3 := fit_wset (a := bs.length + 1) (k := (bs ++ [Blk.cells (allBits l).length true (is (allBits l)), Wr 0 []]).length) (m := allBits l) hF2
    have R2 : Rd ⟨wset (bs ++ [Blk.cells (allBits l).length true (is (allBits l)), Wr 0 []]) (bs.length + 1) (bs ++ [Blk.cells (allBits l).length true (is (allBits l)), Wr 0 []]).length (allBits l), bs.length, [], []⟩ v l := R.more fun b x hx hh => by
      have hlt : b < bs.length := (List.getElem?_eq_some_iff.1 hx).1
      refine ⟨?_, rfl⟩
      rw [wset_other w1 (by omega) (by omega) (by omega), List.getElem?_append_left hlt]
      exact hx
    rw [hbl] at lw
    generalize hq3 : wset (bs ++ [Blk.cells (allBits l).length true (is (allBits l)), Wr 0 []]) (bs.length + 1) (bs ++ [Blk.cells (allBits l).length true (is (allBits l)), Wr 0 []]).length (allBits l) = q3 at *
    rw [hbl] at hq3
    rw [hq3] at lw
    obtain ⟨fr2, lg, g3, g4⟩ := ofg_loop (a := bs.length + 1) R2 (by omega) hF3 l.length 0 (by omega)
    have hFq : Fit q3.length q3.length [] := ⟨Nat.le_refl _, hF3.2⟩
    have b1 := fun d => bytes_walk w2.v (by omega) hFq d
    have o0 : ob (allBits l) = some l := by unfold ob; rw [if_neg (by omega), byts_all R.by_]
    have hnb : nb (allBits l) = l.length := by unfold nb; omega
    rw [o0, hnb] at b1
    simp only [sl_some, slB_some] at b1
    have w3 := w2.app hF3 [Blk.cells l.length true (u8s l)]
    have hF4 : Fit (q3 ++ [Blk.cells l.length true (u8s l)]).length bs.length [] := hF3.mono (by simp)
    have pd := fun d => pad_walk w3 (by omega) hF4 d
    have e5 : padN (allBits l) = 0 := by unfold padN; omega
    rw [e5] at pd
    have hstr : ∀ nw n L d, St.str ⟨q3 ++ nw, L, List.range' q3.length n, d⟩ v = some (b8 l) := fun nw n L d => by
      have := (R2.hide (nw := nw) (L' := L) (d' := d) q3.length n (Nat.le_refl _)).str
      rwa [List.append_nil] at this
    obtain ⟨p, e, rfl⟩ := R.len
    have hc8 : ((8 * l.length : Nat) : Int) = 8 * (l.length : Int) := by omega
    simp only [hAl, Int.natCast_zero] at *
    simp (disch := (first | omega | (simp only [lnE] <;> omega) | (refine Fit.mono ‹Fit _ _ _› ?_ <;> (simp only [lnE] <;> omega)) | (refine Fit.draw ‹Fit _ _ _› ?_ ?_ <;> (simp only [lnE] <;> omega)) | (refine Fit.hid1 ‹Fit _ _ _› ?_ ?_ <;> (simp only [lnE] <;> omega)) | (refine Fit.draw1 ‹Fit _ _ _› ?_ ?_ ?_ <;> (simp only [lnE] <;> omega)) | (refine Fit.range0 ?_ ?_ <;> (simp only [lnE] <;> omega)) | fail)) only [syA, syB, argFr, D, E, T, C, undefv, eqF, aeq, sheqs, sheq, rdCells, cellsOf, fill, putAt, if_true, if_false, reduceIte, ↓reduceIte, reduceCtorEq, eq_self, Nat.reduceEqDiff, Nat.reduceAdd, Nat.reduceSub, Nat.reduceMul, Nat.reduceLT, Nat.reduceLeDiff, Nat.reducePow, Nat.reduceDiv, Nat.reduceMod, Int.reduceLT, Int.reduceLE, Int.reduceGT, Int.reduceGE, Int.reduceToNat, Int.reducePow, Int.reduceNeg, Int.reduceBEq, Int.reduceBNe, Int.reduceEq, Int.reduceAdd, Int.reduceSub, Int.reduceMul, cellv, sc, flatv, refs, refsF, refsC, hF.not0, hF.not1, hF.up0, hF.up1, ac11, h1, hc8, hof, n1, wakes_walk, lw, g1, g2, lg, g3, g4, b1, hstr, pd]
    exact gc_end (fun t ht => by
      rcases mem_join _ _ _ ht with ht | ht
      · cases ht
      · rw [mem_dirt ht]; omega) _ _ _
end Bt
end Go.Proofs.Ytceecoagooalpaa
end
