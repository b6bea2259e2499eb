/-
  BwtBucketRooms, run on the abstract machine. Conditions: none.
-/
import Derived.Test.YtlphmnhkkhcjfaaHbP
set_option linter.all false
namespace Go.Proofs.Ytlphmnhkkhcjfaa
namespace ArA
open Go Go.RowKit AM ArEnv
theorem Rd_hide19 {hp nw : List Blk} {L L' r q lo n : Nat} {d d' : List Nat} {v : Value} {l : List Nat} {A : Arn} (k : Rd ⟨hp, L, [], d⟩ v l) (hr : hp.length ≤ r) (hq : hp.length ≤ q) (hlo : hp.length ≤ lo) : Rd ⟨put (hp ++ nw) r q A, L', List.range' lo n, d'⟩ v l :=
  k.more fun b x hx hh => by
    have hb := (List.getElem?_eq_some_iff.1 hx).1
    simp only at hb hx hh
    refine ⟨by simp only; rw [put_o (by omega) (by omega), get_left hb]; exact hx, ?_⟩
    simp only []
    cases hc : (List.range' lo n).contains b with
    | false => rfl
    | true =>
      rw [List.contains_iff_mem, List.mem_range'_1] at hc
      omega
set_option maxRecDepth 100000 in
theorem rooms_run {hp : List Blk} {v : Value} {x : List Nat} (hr : Rd ⟨hp, hp.length, [], []⟩ v x) (one : Int) (h1 : -9223372036854775808 ≤ one) (h2 : one ≤ 9223372036854775807) (two : Int) (h3 : -9223372036854775808 ≤ two) (h4 : two ≤ 9223372036854775807) :
    ∃ σ', Lrun env (.func 7) [v, .int .i64 one, .int .i64 two] ⟨hp, hp.length, [], []⟩ = some (.bool true, σ') := by
  have hF : Fit hp.length hp.length [] := ⟨Nat.le_refl _, Low.nil _⟩
  have hlen := hr.lenF
  by_cases g : (x.length : Int) = 0 ∨ (x.length : Int) > 100 ∨ one < 1 ∨ one > 110 ∨ two < 1 ∨ two > 110
  · rw [Lrun_sym 7 _ _ fn7]
    by_cases g1 : (x.length : Int) = 0
    · simp (disch := (first | omega | (simp only [lnE] <;> omega) | (refine Fit.mono ‹Fit _ _ _› ?_ <;> (simp only [lnE] <;> omega)) | (refine Fit.draw ‹Fit _ _ _› ?_ ?_ <;> (simp only [lnE] <;> omega)) | (refine Fit.hid1 ‹Fit _ _ _› ?_ ?_ <;> (simp only [lnE] <;> omega)) | (refine Fit.draw1 ‹Fit _ _ _› ?_ ?_ ?_ <;> (simp only [lnE] <;> omega)) | (refine Fit.range0 ?_ ?_ <;> (simp only [lnE] <;> omega)) | fail)) only [syA, syB, argFr, D, E, T, C, undefv, eqF, aeq, sheqs, sheq, rdCells, cellsOf, fill, putAt, if_true, if_false, reduceIte, ↓reduceIte, reduceCtorEq, eq_self, Nat.reduceEqDiff, Nat.reduceAdd, Nat.reduceSub, Nat.reduceMul, Nat.reduceLT, Nat.reduceLeDiff, Nat.reducePow, Nat.reduceDiv, Nat.reduceMod, Int.reduceLT, Int.reduceLE, Int.reduceGT, Int.reduceGE, Int.reduceToNat, Int.reducePow, Int.reduceNeg, Int.reduceBEq, Int.reduceBNe, Int.reduceEq, Int.reduceAdd, Int.reduceSub, Int.reduceMul, cellv, sc, flatv, refs, refsF, refsC, hF.not0, hF.not1, hF.up0, hF.up1, ac7, hlen, g1, wakes19_walk]
      exact ⟨_, rfl⟩
    have g1' : ((x.length : Int) == 0) = false := by rw [beq_eq_false_iff_ne]; exact g1
    by_cases g2 : (x.length : Int) > 100
    · simp (disch := (first | omega | (simp only [lnE] <;> omega) | (refine Fit.mono ‹Fit _ _ _› ?_ <;> (simp only [lnE] <;> omega)) | (refine Fit.draw ‹Fit _ _ _› ?_ ?_ <;> (simp only [lnE] <;> omega)) | (refine Fit.hid1 ‹Fit _ _ _› ?_ ?_ <;> (simp only [lnE] <;> omega)) | (refine Fit.draw1 ‹Fit _ _ _› ?_ ?_ ?_ <;> (simp only [lnE] <;> omega)) | (refine Fit.range0 ?_ ?_ <;> (simp only [lnE] <;> omega)) | fail)) only [syA, syB, argFr, D, E, T, C, undefv, eqF, aeq, sheqs, sheq, rdCells, cellsOf, fill, putAt, if_true, if_false, reduceIte, ↓reduceIte, reduceCtorEq, eq_self, Nat.reduceEqDiff, Nat.reduceAdd, Nat.reduceSub, Nat.reduceMul, Nat.reduceLT, Nat.reduceLeDiff, Nat.reducePow, Nat.reduceDiv, Nat.reduceMod, Int.reduceLT, Int.reduceLE, Int.reduceGT, Int.reduceGE, Int.reduceToNat, Int.reducePow, Int.reduceNeg, Int.reduceBEq, Int.reduceBNe, Int.reduceEq, Int.reduceAdd, Int.reduceSub, Int.reduceMul, cellv, sc, flatv, refs, refsF, refsC, hF.not0, hF.not1, hF.up0, hF.up1, ac7, hlen, g1', g2, wakes19_walk]
      exact ⟨_, rfl⟩
    by_cases g3 : one < 1
    · simp (disch := (first | omega | (simp only [lnE] <;> omega) | (refine Fit.mono ‹Fit _ _ _› ?_ <;> (simp only [lnE] <;> omega)) | (refine Fit.draw ‹Fit _ _ _› ?_ ?_ <;> (simp only [lnE] <;> omega)) | (refine Fit.hid1 ‹Fit _ _ _› ?_ ?_ <;> (simp only [lnE] <;> omega)) | (refine Fit.draw1 ‹Fit _ _ _› ?_ ?_ ?_ <;> (simp only [lnE] <;> omega)) | (refine Fit.range0 ?_ ?_ <;> (simp only [lnE] <;> omega)) | fail)) only [syA, syB, argFr, D, E, T, C, undefv, eqF, aeq, sheqs, sheq, rdCells, cellsOf, fill, putAt, if_true, if_false, reduceIte, ↓reduceIte, reduceCtorEq, eq_self, Nat.reduceEqDiff, Nat.reduceAdd, Nat.reduceSub, Nat.reduceMul, Nat.reduceLT, Nat.reduceLeDiff, Nat.reducePow, Nat.reduceDiv, Nat.reduceMod, Int.reduceLT, Int.reduceLE, Int.reduceGT, Int.reduceGE, Int.reduceToNat, Int.reducePow, Int.reduceNeg, Int.reduceBEq, Int.reduceBNe, Int.reduceEq, Int.reduceAdd, Int.reduceSub, Int.reduceMul, cellv, sc, flatv, refs, refsF, refsC, hF.not0, hF.not1, hF.up0, hF.up1, ac7, hlen, g1', g2, g3, wakes19_walk]
      exact ⟨_, rfl⟩
    by_cases g4 : one > 110
    · simp (disch := (first | omega | (simp only [lnE] <;> omega) | (refine Fit.mono ‹Fit _ _ _› ?_ <;> (simp only [lnE] <;> omega)) | (refine Fit.draw ‹Fit _ _ _› ?_ ?_ <;> (simp only [lnE] <;> omega)) | (refine Fit.hid1 ‹Fit _ _ _› ?_ ?_ <;> (simp only [lnE] <;> omega)) | (refine Fit.draw1 ‹Fit _ _ _› ?_ ?_ ?_ <;> (simp only [lnE] <;> omega)) | (refine Fit.range0 ?_ ?_ <;> (simp only [lnE] <;> omega)) | fail)) only [syA, syB, argFr, D, E, T, C, undefv, eqF, aeq, sheqs, sheq, rdCells, cellsOf, fill, putAt, if_true, if_false, reduceIte, ↓reduceIte, reduceCtorEq, eq_self, Nat.reduceEqDiff, Nat.reduceAdd, Nat.reduceSub, Nat.reduceMul, Nat.reduceLT, Nat.reduceLeDiff, Nat.reducePow, Nat.reduceDiv, Nat.reduceMod, Int.reduceLT, Int.reduceLE, Int.reduceGT, Int.reduceGE, Int.reduceToNat, Int.reducePow, Int.reduceNeg, Int.reduceBEq, Int.reduceBNe, Int.reduceEq, Int.reduceAdd, Int.reduceSub, Int.reduceMul, cellv, sc, flatv, refs, refsF, refsC, hF.not0, hF.not1, hF.up0, hF.up1, ac7, hlen, g1', g2, g3, g4, wakes19_walk]
      exact ⟨_, rfl⟩
    by_cases g5 : two < 1
    · simp (disch := (first | omega | (simp only [lnE] <;> omega) | (refine Fit.mono ‹Fit _ _ _› ?_ <;> (simp only [lnE] <;> omega)) | (refine Fit.draw ‹Fit _ _ _› ?_ ?_ <;> (simp only [lnE] <;> omega)) | (refine Fit.hid1 ‹Fit _ _ _› ?_ ?_ <;> (simp only [lnE] <;> omega)) | (refine Fit.draw1 ‹Fit _ _ _› ?_ ?_ ?_ <;> (simp only [lnE] <;> omega)) | (refine Fit.range0 ?_ ?_ <;> (simp only [lnE] <;> omega)) | fail)) only [syA, syB, argFr, D, E, T, C, undefv, eqF, aeq, sheqs, sheq, rdCells, cellsOf, fill, putAt, if_true, if_false, reduceIte, ↓reduceIte, reduceCtorEq, eq_self, Nat.reduceEqDiff, Nat.reduceAdd, Nat.reduceSub, Nat.reduceMul, Nat.reduceLT, Nat.reduceLeDiff, Nat.reducePow, Nat.reduceDiv, Nat.reduceMod, Int.reduceLT, Int.reduceLE, Int.reduceGT, Int.reduceGE, Int.reduceToNat, Int.reducePow, Int.reduceNeg, Int.reduceBEq, Int.reduceBNe, Int.reduceEq, Int.reduceAdd, Int.reduceSub, Int.reduceMul, cellv, sc, flatv, refs, refsF, refsC, hF.not0, hF.not1, hF.up0, hF.up1, ac7, hlen, g1', g2, g3, g4, g5, wakes19_walk]
      exact ⟨_, rfl⟩
    by_cases g6 : two > 110
    · simp (disch := (first | omega | (simp only [lnE] <;> omega) | (refine Fit.mono ‹Fit _ _ _› ?_ <;> (simp only [lnE] <;> omega)) | (refine Fit.draw ‹Fit _ _ _› ?_ ?_ <;> (simp only [lnE] <;> omega)) | (refine Fit.hid1 ‹Fit _ _ _› ?_ ?_ <;> (simp only [lnE] <;> omega)) | (refine Fit.draw1 ‹Fit _ _ _› ?_ ?_ ?_ <;> (simp only [lnE] <;> omega)) | (refine Fit.range0 ?_ ?_ <;> (simp only [lnE] <;> omega)) | fail)) only [syA, syB, argFr, D, E, T, C, undefv, eqF, aeq, sheqs, sheq, rdCells, cellsOf, fill, putAt, if_true, if_false, reduceIte, ↓reduceIte, reduceCtorEq, eq_self, Nat.reduceEqDiff, Nat.reduceAdd, Nat.reduceSub, Nat.reduceMul, Nat.reduceLT, Nat.reduceLeDiff, Nat.reducePow, Nat.reduceDiv, Nat.reduceMod, Int.reduceLT, Int.reduceLE, Int.reduceGT, Int.reduceGE, Int.reduceToNat, Int.reducePow, Int.reduceNeg, Int.reduceBEq, Int.reduceBNe, Int.reduceEq, Int.reduceAdd, Int.reduceSub, Int.reduceMul, cellv, sc, flatv, refs, refsF, refsC, hF.not0, hF.not1, hF.up0, hF.up1, ac7, hlen, g1', g2, g3, g4, g5, g6, wakes19_walk]
      exact ⟨_, rfl⟩
    omega
  · have g1 : ¬ (x.length : Int) = 0 := by omega
    have g1' : ((x.length : Int) == 0) = false := by rw [beq_eq_false_iff_ne]; exact g1
    have g2 : ¬ (x.length : Int) > 100 := by omega
    have g3 : ¬ one < 1 := by omega
    have g4 : ¬ one > 110 := by omega
    have g5 : ¬ two < 1 := by omega
    have g6 : ¬ two > 110 := by omega
    obtain ⟨r1, rfl⟩ := Int.eq_ofNat_of_zero_le (by omega : 0 ≤ one)
    obtain ⟨r2, rfl⟩ := Int.eq_ofNat_of_zero_le (by omega : 0 ≤ two)
    have hx0 : x ≠ [] := by intro h; subst h; exact g1 rfl
    have hby := hr.by_
    obtain ⟨m, hm⟩ : ∃ m, x.length = m := ⟨_, rfl⟩
    obtain ⟨TB, hTB⟩ : ∃ TB : Blk, TB = .cells 0 true [.int .i64 0, .int .i64 m] := ⟨_, rfl⟩
    obtain ⟨CB, hCB⟩ : ∃ CB : Blk, CB = .cells 0 true [.int .i64 m, .int .i64 m] := ⟨_, rfl⟩
    have ld := laid19_walk (d := []) (n := 700 - m - 1) (hp := hp ++ [TB, CB]) (L := hp.length) (H := []) (hF.mono (by simp)) hr.app (by omega) (by omega)
    have k0 : ArOk (hp.length + 4) (hp.length + 2) (hp.length + 2 + 1) [] (rl x (700 - m - 1)) := rl_ok (by omega) (by omega) (by omega) rfl rfl hby (by omega)
    have lv : (rl x (700 - m - 1)).live = 700 := by rw [rl_live]; omega
    have pk : (rl x (700 - m - 1)).peak = 700 := by
      show ((x ++ List.replicate _ 0).length : Int) = 700
      simp; omega
    have hw : hp.length ≤ hp.length + 2 ∧ hp.length ≤ hp.length + 2 + 1 := by omega
    have hval : ∀ (A : Arn) (z : Nat), A.live = 700 → 4 ≤ z → z ≤ 443 → bValid A (0 : Nat) x.length (m : Nat) x.length (2 * m : Nat) z = true := fun A z hA hz1 hz2 => by
      unfold bValid Arn.has rApart
      simp only [hA, hm, Bool.and_eq_true, decide_eq_true_eq]
      and_intros <;> first | trivial | omega
    obtain ⟨B1, t1, b1⟩ := bturn_ok (hp := hp ++ [TB, CB, default, default]) (L := hp.length) (H := []) (hF.mono (by simp)) (k0.mono (by simp)) hw (rl_holds x _) hby (hval _ (4 * r1) lv (by omega) (by omega))
    have lv1 : B1.live = 700 := b1.live.trans lv
    have k1 := b1.ok k0
    have hcl : (turnR x).1.length = m := by rw [(turnR_len x).1, hm]
    have l1 := b1.col.load
    rw [hcl] at l1
    have lw1 := load_walk (d := []) (hp := hp ++ [TB, CB, default, default]) (r := hp.length + 2) (q := hp.length + 2 + 1) (L := hp.length) (H := []) (hF.mono (by simp)) (k1.mono (by simp)) m m
    rw [l1] at lw1
    obtain ⟨N1, hN1⟩ : ∃ N1 : Blk, N1 = .cells m true (u8s (turnR x).1) := ⟨_, rfl⟩
    obtain ⟨B, t2, b2⟩ := bturn_ok (hp := hp ++ [TB, CB, default, default, N1]) (L := hp.length) (H := []) (hF.mono (by simp)) (k1.mono (by simp)) hw b1.text hby (hval _ (4 * r2 + 3) lv1 (by omega) (by omega))
    have kB := b2.ok k1
    have l2 := b2.col.load
    rw [hcl] at l2
    have l3 := b2.text.load
    rw [hm] at l3
    have lw2 := load_walk (d := []) (hp := hp ++ [TB, CB, default, default, N1]) (r := hp.length + 2) (q := hp.length + 2 + 1) (L := hp.length) (H := []) (hF.mono (by simp)) (kB.mono (by simp)) m m
    rw [l2] at lw2
    have pB : B.peak = 700 := b2.peak.trans (b1.peak.trans pk)
    have z1 : 4 * r1 / 4 = r1 := by omega
    have z2 : (4 * r2 + 3) / 4 = r2 := by omega
    have p1 : Int.tdiv ((m : Int) + r1) r1 = ((m / r1 + 1 : Nat) : Int) := by
      rw [show (m : Int) + r1 = ((m + r1 : Nat) : Int) by omega, show Int.tdiv ((m + r1 : Nat) : Int) (r1 : Nat) = (((m + r1) / r1 : Nat) : Int) from rfl, Nat.add_div_right _ (by omega)]
    have p2 : Int.tdiv ((m : Int) + r2) r2 = ((m / r2 + 1 : Nat) : Int) := by
      rw [show (m : Int) + r2 = ((m + r2 : Nat) : Int) by omega, show Int.tdiv ((m + r2 : Nat) : Int) (r2 : Nat) = (((m + r2) / r2 : Nat) : Int) from rfl, Nat.add_div_right _ (by omega)]
    have ho := ordR_ord x
    obtain ⟨o1, o2⟩ := turnR_is x
    have hcb : By (turnR x).1 := turnR_by x hby
    have hix : (turnR x).2.1 ≤ m := by rw [← hm]; exact (turnR_len x).2
    have hrd1 : ∀ (B0 : Blk) (nw : List Blk) (A : Arn) (L' : Nat) (H d : List Nat), H.contains (hp.length + 4) = false → Rd ⟨put (hp ++ (TB :: CB :: default :: default :: N1 :: B0 :: nw)) (hp.length + 2) (hp.length + 2 + 1) A, L', H, d⟩ (.slice (some ⟨hp.length + 4, 0, some m⟩) m 1) (turnR x).1 := fun B0 nw A L' H d hH => by
      have h := Rd.whole (hp := put (hp ++ (TB :: CB :: default :: default :: N1 :: B0 :: nw)) (hp.length + 2) (hp.length + 2 + 1) A) (b := hp.length + 4) (g := m) (e := 1) (L := L') (H := H) (d := d) (pl := true) (l := (turnR x).1) (by rw [put_o (by omega) (by omega), get_new]; exact congrArg some hN1) hH hcb (.inr rfl)
      rw [hcl] at h
      exact h
    have hrd2 : ∀ (B0 : Blk) (nw : List Blk) (A : Arn) (L' : Nat) (H d : List Nat), H.contains (hp.length + 5) = false → Rd ⟨put (hp ++ (TB :: CB :: default :: default :: B0 :: N1 :: nw)) (hp.length + 2) (hp.length + 2 + 1) A, L', H, d⟩ (.slice (some ⟨hp.length + 5, 0, some m⟩) m 1) (turnR x).1 := fun B0 nw A L' H d hH => by
      have h := Rd.whole (hp := put (hp ++ (TB :: CB :: default :: default :: B0 :: N1 :: nw)) (hp.length + 2) (hp.length + 2 + 1) A) (b := hp.length + 5) (g := m) (e := 1) (L := L') (H := H) (d := d) (pl := true) (l := (turnR x).1) (by rw [put_o (by omega) (by omega), get_new]; exact congrArg some hN1) hH hcb (.inr rfl)
      rw [hcl] at h
      exact h
    have lw3 := fun nw L' H (hF' : Fit (hp ++ (TB :: CB :: default :: default :: nw)).length L' H) hk => load_walk (d := []) (hp := hp ++ (TB :: CB :: default :: default :: nw)) (r := hp.length + 2) (q := hp.length + 2 + 1) (A := B) (L := L') (H := H) hF' hk (0 : Nat) m
    simp only [l3] at lw3
    simp only [hm, hcl, sl_some, slB_some, ← hN1, z1, z2, List.length_append, List.length_cons, List.length_nil, Nat.reduceAdd, Nat.zero_add, List.append_assoc, List.cons_append, List.nil_append, Int.natCast_zero, Int.natCast_one, Int.cast_ofNat_Int, Option.getD_some] at ld t1 lw1 t2 lw2 lw3 hlen g1 g1' g2
    have c700 : ((m + (700 - m - 1) + 1 : Nat) : Int) = 700 := by omega
    rw [c700] at ld
    have e1 : (2 : Int) * m = ((2 * m : Nat) : Int) := by omega
    have e2 : (4 : Int) * r1 = ((4 * r1 : Nat) : Int) := by omega
    have e3 : (4 : Int) * r2 + 3 = ((4 * r2 + 3 : Nat) : Int) := by omega
    have s1 := fun B0 nw A L' d => (hrd1 B0 nw A L' [] d rfl).str
    have s2 := fun B0 nw A L' d => (hrd2 B0 nw A L' [] d rfl).str
    have s1h := fun B0 nw A L' lo n d (hlo : hp.length + 5 ≤ lo) => (hrd1 B0 nw A L' (List.range' lo n) d (by simp [List.contains_eq_mem, List.mem_range']; omega)).str
    have s2h := fun B0 nw A L' lo n d (hlo : hp.length + 6 ≤ lo) => (hrd2 B0 nw A L' (List.range' lo n) d (by simp [List.contains_eq_mem, List.mem_range']; omega)).str
    have rv := fun nw L' => (Rd.put (nw := nw) (L' := L') (d' := []) (r := hp.length + 2) (q := hp.length + 2 + 1) (A := B) hr (by omega) (by omega)).str
    have rvh := fun nw L' lo n (hlo : hp.length ≤ lo) => (Rd_hide19 (nw := nw) (L' := L') (d' := []) (r := hp.length + 2) (q := hp.length + 2 + 1) (lo := lo) (n := n) (A := B) hr (by omega) (by omega) hlo).str
    have n1 : ¬ ((r1 : Nat) : Int) = 0 := by omega
    have n2 : ¬ ((r2 : Nat) : Int) = 0 := by omega
    have s3 := fun (B0 B1 : Blk) nw A L' d => (show Rd ⟨put (hp ++ (TB :: CB :: default :: default :: B0 :: B1 :: .cells m true (u8s x) :: nw)) (hp.length + 2) (hp.length + 2 + 1) A, L', [], d⟩ (.slice (some ⟨hp.length + 6, 0, some m⟩) m 1) x by
      have h := Rd.whole (hp := put (hp ++ (TB :: CB :: default :: default :: B0 :: B1 :: .cells m true (u8s x) :: nw)) (hp.length + 2) (hp.length + 2 + 1) A) (b := hp.length + 6) (g := m) (e := 1) (L := L') (H := []) (d := d) (pl := true) (l := x) (by rw [put_o (by omega) (by omega), get_new]; rfl) rfl hby (.inr rfl)
      rw [hm] at h
      exact h).str
    have pB1 : ∀ nw, (put (hp ++ (TB :: CB :: default :: default :: nw)) (hp.length + 2) (hp.length + 2 + 1) B).length = hp.length + 4 + nw.length := fun nw => by rw [put_length]; simp; omega
    have bk := back17_right (d := []) (L := hp.length) (H := []) (hq := put (hp ++ [TB, CB, default, default, N1, N1, .cells m true (u8s x)]) (hp.length + 2) (hp.length + 2 + 1) B) (by rw [pB1]; exact hF.mono (by simp; omega)) ho (by rw [← o1]; exact hrd1 N1 [.cells m true (u8s x)] B hp.length [] [] rfl) (by omega) hx0 hby
    rw [pB1, ← o2, bv_ne hx0, bb_ne hx0, put_app (by simp) (by simp), hm] at bk
    simp only [List.length_append, List.length_cons, List.length_nil, Nat.reduceAdd, Nat.zero_add, List.append_assoc, List.cons_append, List.nil_append] at bk
    have s4 := fun (B0 B1 B2 : Blk) nw A L' d => (show Rd ⟨put (hp ++ (TB :: CB :: default :: default :: B0 :: B1 :: B2 :: .cells m true (u8s x) :: nw)) (hp.length + 2) (hp.length + 2 + 1) A, L', [], d⟩ (.slice (some ⟨hp.length + 7, 0, some m⟩) m 1) x by
      have h := Rd.whole (hp := put (hp ++ (TB :: CB :: default :: default :: B0 :: B1 :: B2 :: .cells m true (u8s x) :: nw)) (hp.length + 2) (hp.length + 2 + 1) A) (b := hp.length + 7) (g := m) (e := 1) (L := L') (H := []) (d := d) (pl := true) (l := x) (by rw [put_o (by omega) (by omega), get_new]; rfl) rfl hby (.inr rfl)
      rw [hm] at h
      exact h).str
    have hP1 : m / r1 + 1 ≤ 101 := by have := Nat.div_le_self m r1; omega
    have hP2 : m / r2 + 1 ≤ 101 := by have := Nat.div_le_self m r2; omega
    generalize m / r1 + 1 = P1 at *
    generalize m / r2 + 1 = P2 at *
    have pw := fun nw => peak_walk (d := []) (hp := hp ++ (TB :: CB :: default :: default :: nw)) (r := hp.length + 2) (q := hp.length + 2 + 1) (A := B) (L := hp.length) (H := []) (hF.mono (by simp)) (kB.mono (by simp))
    simp only [pB] at pw
    subst hTB hCB
    rw [Lrun_sym 7 _ _ fn7]
    simp (disch := (first | omega | (simp only [lnE, put_length] <;> omega) | (refine Fit.mono ‹Fit _ _ _› ?_ <;> (simp only [lnE, put_length] <;> omega)) | (refine Fit.draw ‹Fit _ _ _› ?_ ?_ <;> (simp only [lnE, put_length] <;> omega)) | (refine Fit.hid1 ‹Fit _ _ _› ?_ ?_ <;> (simp only [lnE, put_length] <;> omega)) | (refine Fit.draw1 ‹Fit _ _ _› ?_ ?_ ?_ <;> (simp only [lnE, put_length] <;> omega)) | (refine Fit.range0 ?_ ?_ <;> (simp only [lnE, put_length] <;> omega)) | (refine ArOk.mono ‹ArOk _ _ _ _ _› ?_ <;> (simp only [lnE, put_length] <;> omega)) | (refine ArOk.hid ‹ArOk _ _ _ _ _› ?_ ?_ <;> (simp only [lnE, put_length] <;> omega)) | (refine ArOk.hid0 ‹ArOk _ _ _ _ _› ?_ ?_ <;> (simp only [lnE, put_length] <;> omega)) | ((intro xr hxr; simp [AM.refs, refsF, refsC] at hxr) <;> (simp only [lnE, put_length] <;> omega)) | fail)) only [syA, syB, argFr, D, E, T, C, undefv, eqF, aeq, sheqs, sheq, rdCells, cellsOf, fill, putAt, if_true, if_false, reduceIte, ↓reduceIte, reduceCtorEq, eq_self, Nat.reduceEqDiff, Nat.reduceAdd, Nat.reduceSub, Nat.reduceMul, Nat.reduceLT, Nat.reduceLeDiff, Nat.reducePow, Nat.reduceDiv, Nat.reduceMod, Int.reduceLT, Int.reduceLE, Int.reduceGT, Int.reduceGE, Int.reduceToNat, Int.reducePow, Int.reduceNeg, Int.reduceBEq, Int.reduceBNe, Int.reduceEq, Int.reduceAdd, Int.reduceSub, Int.reduceMul, cellv, sc, flatv, refs, refsF, refsC, syR, Int.le_refl, hF.not0, hF.not1, hF.up0, hF.up1, ac7, hlen, g1', g2, g3, g4, g5, g6, ld, e1, e2, e3, t1, lw1, t2, lw2, s1, s2, s1h, s2h, rv, rvh, lw3, n1, n2, p1, p2, s3, bk, s4, pw, wakes19_walk, gc_bool_new]
    exact ⟨_, rfl⟩
end ArA
end Go.Proofs.Ytlphmnhkkhcjfaa
