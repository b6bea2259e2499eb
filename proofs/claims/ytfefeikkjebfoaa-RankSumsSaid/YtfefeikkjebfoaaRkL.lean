/-
  RANKS: the laws run on the abstract machine: sizes. Conditions: none.
-/
import Derived.Test.YtfefeikkjebfoaaRkF
set_option linter.all false
namespace Go.Proofs.Ytfefeikkjebfoaa
namespace ArA
open Go Go.RowKit AM ArEnv

theorem zby (n : Nat) : By (List.replicate n 0) := fun x hx => by rw [List.mem_replicate] at hx; omega
theorem rsize_run {hp : List Blk} (m : Int) (hm0 : -9223372036854775808 ≤ m) (hm1 : m ≤ 9223372036854775807) (kk : Int) (hk0 : -9223372036854775808 ≤ kk) (hk1 : kk ≤ 9223372036854775807) :
    ∃ σ', Lrun env (.func 14) [.int .i64 m, .int .i64 kk] ⟨hp, hp.length, [], []⟩ = some (.bool true, σ') := by
  have hF : Fit hp.length hp.length [] := ⟨Nat.le_refl _, Low.nil _⟩
  rw [Lrun_sym 14 _ _ fn14]
  by_cases g1 : m < 1
  · simp (disch := (first | omega | (simp only [lnE] <;> omega) | (refine Fit.mono ‹Fit _ _ _› ?_ <;> (simp only [lnE] <;> omega)) | (refine Fit.draw ‹Fit _ _ _› ?_ ?_ <;> (simp only [lnE] <;> omega)) | (refine Fit.hid1 ‹Fit _ _ _› ?_ ?_ <;> (simp only [lnE] <;> omega)) | (refine Fit.draw1 ‹Fit _ _ _› ?_ ?_ ?_ <;> (simp only [lnE] <;> omega)) | (refine Fit.range0 ?_ ?_ <;> (simp only [lnE] <;> omega)) | fail)) only [syA, syB, argFr, D, E, T, C, undefv, eqF, aeq, sheqs, sheq, rdCells, cellsOf, fill, putAt, if_true, if_false, reduceIte, ↓reduceIte, reduceCtorEq, eq_self, Nat.reduceEqDiff, Nat.reduceAdd, Nat.reduceSub, Nat.reduceMul, Nat.reduceLT, Nat.reduceLeDiff, Nat.reducePow, Nat.reduceDiv, Nat.reduceMod, Int.reduceLT, Int.reduceLE, Int.reduceGT, Int.reduceGE, Int.reduceToNat, Int.reducePow, Int.reduceNeg, Int.reduceBEq, Int.reduceBNe, Int.reduceEq, Int.reduceAdd, Int.reduceSub, Int.reduceMul, cellv, sc, flatv, refs, refsF, refsC, hF.not0, hF.not1, hF.up0, hF.up1, ac14, g1, wakes20_walk]
    exact ⟨_, rfl⟩
  by_cases g2 : m > 300
  · simp (disch := (first | omega | (simp only [lnE] <;> omega) | (refine Fit.mono ‹Fit _ _ _› ?_ <;> (simp only [lnE] <;> omega)) | (refine Fit.draw ‹Fit _ _ _› ?_ ?_ <;> (simp only [lnE] <;> omega)) | (refine Fit.hid1 ‹Fit _ _ _› ?_ ?_ <;> (simp only [lnE] <;> omega)) | (refine Fit.draw1 ‹Fit _ _ _› ?_ ?_ ?_ <;> (simp only [lnE] <;> omega)) | (refine Fit.range0 ?_ ?_ <;> (simp only [lnE] <;> omega)) | fail)) only [syA, syB, argFr, D, E, T, C, undefv, eqF, aeq, sheqs, sheq, rdCells, cellsOf, fill, putAt, if_true, if_false, reduceIte, ↓reduceIte, reduceCtorEq, eq_self, Nat.reduceEqDiff, Nat.reduceAdd, Nat.reduceSub, Nat.reduceMul, Nat.reduceLT, Nat.reduceLeDiff, Nat.reducePow, Nat.reduceDiv, Nat.reduceMod, Int.reduceLT, Int.reduceLE, Int.reduceGT, Int.reduceGE, Int.reduceToNat, Int.reducePow, Int.reduceNeg, Int.reduceBEq, Int.reduceBNe, Int.reduceEq, Int.reduceAdd, Int.reduceSub, Int.reduceMul, cellv, sc, flatv, refs, refsF, refsC, hF.not0, hF.not1, hF.up0, hF.up1, ac14, g1, g2, wakes20_walk]
    exact ⟨_, rfl⟩
  by_cases g3 : kk < 1
  · simp (disch := (first | omega | (simp only [lnE] <;> omega) | (refine Fit.mono ‹Fit _ _ _› ?_ <;> (simp only [lnE] <;> omega)) | (refine Fit.draw ‹Fit _ _ _› ?_ ?_ <;> (simp only [lnE] <;> omega)) | (refine Fit.hid1 ‹Fit _ _ _› ?_ ?_ <;> (simp only [lnE] <;> omega)) | (refine Fit.draw1 ‹Fit _ _ _› ?_ ?_ ?_ <;> (simp only [lnE] <;> omega)) | (refine Fit.range0 ?_ ?_ <;> (simp only [lnE] <;> omega)) | fail)) only [syA, syB, argFr, D, E, T, C, undefv, eqF, aeq, sheqs, sheq, rdCells, cellsOf, fill, putAt, if_true, if_false, reduceIte, ↓reduceIte, reduceCtorEq, eq_self, Nat.reduceEqDiff, Nat.reduceAdd, Nat.reduceSub, Nat.reduceMul, Nat.reduceLT, Nat.reduceLeDiff, Nat.reducePow, Nat.reduceDiv, Nat.reduceMod, Int.reduceLT, Int.reduceLE, Int.reduceGT, Int.reduceGE, Int.reduceToNat, Int.reducePow, Int.reduceNeg, Int.reduceBEq, Int.reduceBNe, Int.reduceEq, Int.reduceAdd, Int.reduceSub, Int.reduceMul, cellv, sc, flatv, refs, refsF, refsC, hF.not0, hF.not1, hF.up0, hF.up1, ac14, g1, g2, g3, wakes20_walk]
    exact ⟨_, rfl⟩
  by_cases g4 : kk > 65536
  · simp (disch := (first | omega | (simp only [lnE] <;> omega) | (refine Fit.mono ‹Fit _ _ _› ?_ <;> (simp only [lnE] <;> omega)) | (refine Fit.draw ‹Fit _ _ _› ?_ ?_ <;> (simp only [lnE] <;> omega)) | (refine Fit.hid1 ‹Fit _ _ _› ?_ ?_ <;> (simp only [lnE] <;> omega)) | (refine Fit.draw1 ‹Fit _ _ _› ?_ ?_ ?_ <;> (simp only [lnE] <;> omega)) | (refine Fit.range0 ?_ ?_ <;> (simp only [lnE] <;> omega)) | fail)) only [syA, syB, argFr, D, E, T, C, undefv, eqF, aeq, sheqs, sheq, rdCells, cellsOf, fill, putAt, if_true, if_false, reduceIte, ↓reduceIte, reduceCtorEq, eq_self, Nat.reduceEqDiff, Nat.reduceAdd, Nat.reduceSub, Nat.reduceMul, Nat.reduceLT, Nat.reduceLeDiff, Nat.reducePow, Nat.reduceDiv, Nat.reduceMod, Int.reduceLT, Int.reduceLE, Int.reduceGT, Int.reduceGE, Int.reduceToNat, Int.reducePow, Int.reduceNeg, Int.reduceBEq, Int.reduceBNe, Int.reduceEq, Int.reduceAdd, Int.reduceSub, Int.reduceMul, cellv, sc, flatv, refs, refsF, refsC, hF.not0, hF.not1, hF.up0, hF.up1, ac14, g1, g2, g3, g4, wakes20_walk]
    exact ⟨_, rfl⟩
  obtain ⟨m, rfl⟩ := Int.eq_ofNat_of_zero_le (by omega : 0 ≤ m)
  obtain ⟨kk, rfl⟩ := Int.eq_ofNat_of_zero_le (by omega : 0 ≤ kk)
  have hsz := rSize_nat (m := m) (k := kk) (by omega) (by omega)
  have hq : Int.tdiv (m : Int) (kk : Int) = ((m / kk : Nat) : Int) := by rw [Int.tdiv_eq_ediv_of_nonneg (by omega)]; rfl
  have hdv : m / kk ≤ m := Nat.div_le_self _ _
  have hz0 : ¬ (kk : Int) = 0 := by omega
  generalize m / kk = dv at *
  generalize hszn : 4 * (256 * dv) = sz at *
  have hmul : (1024 : Int) * dv = (sz : Nat) := by omega
  have hlz : (List.replicate m 0).length = m := List.length_replicate
  have hw : hp.length ≤ hp.length + 1 ∧ hp.length ≤ hp.length + 1 + 1 := by omega
  have hrd : Rd ⟨hp ++ [.cells 0 true (u8s (List.replicate m 0))], hp.length, [], []⟩ (.slice (some ⟨hp.length, 0, some 0⟩) m 1) (List.replicate m 0) := by
    have := Rd.whole (hp := hp ++ [.cells 0 true (u8s (List.replicate m 0))]) (L := hp.length) (H := []) (d := []) (pl := true) (b := hp.length) (g := 0) (e := 1) (l := List.replicate m 0) (by rw [get_new0]) rfl (zby m) (.inr rfl)
    rwa [hlz] at this
  have ld := laid20_walk (d := []) (kk := kk) (sz := sz) (hF.mono (by simp)) hrd (by omega) (by rw [hlz]; exact hsz) (by omega)
  simp only [hlz, List.length_append, List.length_cons, List.length_nil, Nat.zero_add, List.append_assoc, List.cons_append, List.nil_append] at ld
  have e4 : ∀ (B0 : Blk) (nw : List Blk), hp.length + 3 ≤ (hp ++ (B0 :: default :: default :: nw)).length := fun _ _ => by simp
  have k0 : ArOk (hp.length + 3) (hp.length + 1) (hp.length + 1 + 1) [] (rl (List.replicate m 0) sz) := rl_ok (by omega) (by omega) (by omega) rfl rfl (zby m) (by rw [hlz]; omega)
  have hv1 : rValid (rl (List.replicate m 0) sz) 0 m m sz kk = true := by
    have := rl_valid (l := List.replicate m 0) (sz := sz) (kk := kk) (by omega) (by omega) (by omega) (by rw [hlz]; exact hsz)
    rw [hlz] at this
    exact this
  have hv2 : rValid (rl (List.replicate m 0) sz) 0 m m ((sz : Int) - 1) kk = false := by
    cases h : rValid (rl (List.replicate m 0) sz) 0 m m ((sz : Int) - 1) kk with
    | false => rfl
    | true =>
      have := (rValid_parts h).2.2.2.2.2
      rw [hsz] at this
      omega
  have vw := fun (B0 : Blk) (nw : List Blk) (s m t z k : Int) => rvalid_walk (d := []) (L := hp.length) (H := []) (hp := hp ++ (B0 :: default :: default :: nw)) (r := hp.length + 1) (q := hp.length + 1 + 1) (hF.mono (by simp)) (k0.mono (e4 B0 nw)) s m t z k
  have mb := fun (B0 : Blk) (nw : List Blk) => rmake_bad (d := []) (L := hp.length) (H := []) (hp := hp ++ (B0 :: default :: default :: nw)) (r := hp.length + 1) (q := hp.length + 1 + 1) (hF.mono (by simp)) (k0.mono (e4 B0 nw)) hv2
  generalize rl (List.replicate m 0) sz = A at *
  have z1 : rSize 65536 8192 = 8192 := by decide
  have c4 : 0 ≤ (m : Int) ∧ (m : Int) ≤ 1048576 := by omega
  have hmm : m ≤ 1048576 := by omega
  have hm00 : ¬ (m : Int) = 0 := by omega
  by_cases hs0 : sz = 0
  · have hs0' : ((sz : Int) == 0) = true := by rw [hs0]; rfl
    simp (disch := (first | omega | (simp only [lnE, put_length] <;> omega) | (refine Fit.mono ‹Fit _ _ _› ?_ <;> (simp only [lnE, put_length] <;> omega)) | (refine Fit.draw ‹Fit _ _ _› ?_ ?_ <;> (simp only [lnE, put_length] <;> omega)) | (refine Fit.hid1 ‹Fit _ _ _› ?_ ?_ <;> (simp only [lnE, put_length] <;> omega)) | (refine Fit.draw1 ‹Fit _ _ _› ?_ ?_ ?_ <;> (simp only [lnE, put_length] <;> omega)) | (refine Fit.range0 ?_ ?_ <;> (simp only [lnE, put_length] <;> omega)) | (refine ArOk.mono ‹ArOk _ _ _ _ _› ?_ <;> (simp only [lnE, put_length] <;> omega)) | (refine ArOk.hid ‹ArOk _ _ _ _ _› ?_ ?_ <;> (simp only [lnE, put_length] <;> omega)) | (refine ArOk.hid0 ‹ArOk _ _ _ _ _› ?_ ?_ <;> (simp only [lnE, put_length] <;> omega)) | ((intro xr hxr; simp [AM.refs, refsF, refsC] at hxr) <;> (simp only [lnE, put_length] <;> omega)) | fail)) only [syA, syB, argFr, D, E, T, C, undefv, eqF, aeq, sheqs, sheq, rdCells, cellsOf, fill, putAt, if_true, if_false, reduceIte, ↓reduceIte, reduceCtorEq, eq_self, Nat.reduceEqDiff, Nat.reduceAdd, Nat.reduceSub, Nat.reduceMul, Nat.reduceLT, Nat.reduceLeDiff, Nat.reducePow, Nat.reduceDiv, Nat.reduceMod, Int.reduceLT, Int.reduceLE, Int.reduceGT, Int.reduceGE, Int.reduceToNat, Int.reducePow, Int.reduceNeg, Int.reduceBEq, Int.reduceBNe, Int.reduceEq, Int.reduceAdd, Int.reduceSub, Int.reduceMul, cellv, sc, flatv, refs, refsF, refsC, syR, Int.le_refl, hF.not0, hF.not1, hF.up0, hF.up1, ac14, g1, g2, g3, g4, size_walk, hsz, hz0, hq, hmul, z1, c4, hmm, hm00, Nat.one_mul, flat_zero, ld, vw, hv1, hs0', wakes20_walk, gc_bool_new]
    exact ⟨_, rfl⟩
  · have hs0' : ((sz : Int) == 0) = false := by rw [beq_eq_false_iff_ne]; omega
    simp (disch := (first | omega | (simp only [lnE, put_length] <;> omega) | (refine Fit.mono ‹Fit _ _ _› ?_ <;> (simp only [lnE, put_length] <;> omega)) | (refine Fit.draw ‹Fit _ _ _› ?_ ?_ <;> (simp only [lnE, put_length] <;> omega)) | (refine Fit.hid1 ‹Fit _ _ _› ?_ ?_ <;> (simp only [lnE, put_length] <;> omega)) | (refine Fit.draw1 ‹Fit _ _ _› ?_ ?_ ?_ <;> (simp only [lnE, put_length] <;> omega)) | (refine Fit.range0 ?_ ?_ <;> (simp only [lnE, put_length] <;> omega)) | (refine ArOk.mono ‹ArOk _ _ _ _ _› ?_ <;> (simp only [lnE, put_length] <;> omega)) | (refine ArOk.hid ‹ArOk _ _ _ _ _› ?_ ?_ <;> (simp only [lnE, put_length] <;> omega)) | (refine ArOk.hid0 ‹ArOk _ _ _ _ _› ?_ ?_ <;> (simp only [lnE, put_length] <;> omega)) | ((intro xr hxr; simp [AM.refs, refsF, refsC] at hxr) <;> (simp only [lnE, put_length] <;> omega)) | fail)) only [syA, syB, argFr, D, E, T, C, undefv, eqF, aeq, sheqs, sheq, rdCells, cellsOf, fill, putAt, if_true, if_false, reduceIte, ↓reduceIte, reduceCtorEq, eq_self, Nat.reduceEqDiff, Nat.reduceAdd, Nat.reduceSub, Nat.reduceMul, Nat.reduceLT, Nat.reduceLeDiff, Nat.reducePow, Nat.reduceDiv, Nat.reduceMod, Int.reduceLT, Int.reduceLE, Int.reduceGT, Int.reduceGE, Int.reduceToNat, Int.reducePow, Int.reduceNeg, Int.reduceBEq, Int.reduceBNe, Int.reduceEq, Int.reduceAdd, Int.reduceSub, Int.reduceMul, cellv, sc, flatv, refs, refsF, refsC, syR, Int.le_refl, hF.not0, hF.not1, hF.up0, hF.up1, ac14, g1, g2, g3, g4, size_walk, hsz, hz0, hq, hmul, z1, c4, hmm, hm00, Nat.one_mul, flat_zero, ld, vw, hv1, hv2, mb, hs0', wakes20_walk, gc_bool_new]
    exact ⟨_, rfl⟩
end ArA
end Go.Proofs.Ytfefeikkjebfoaa
