/-
  BwtBucketPlaced, run on the abstract machine. Conditions: none.
-/
import Derived.Test.YtlphmnhkkhcjfaaHbS
set_option linter.all false
namespace Go.Proofs.Ytlphmnhkkhcjfaa
namespace ArA
open Go Go.RowKit AM ArEnv
/-- A text stored in an arena of zeros. -/
theorem zs6_store {T s : Nat} {x : List Nat} (hT : T ≤ 600) (hs : s + x.length ≤ T) : (zs6 T).part s x.length 0 x.length = true ∧ ((zs6 T).store s x.length 0 x).live = T ∧ Holds ((zs6 T).store s x.length 0 x) s x := by
  have hl : (zs6 T).live = T := by show ((List.replicate T 0).length : Int) = T; simp
  have hlen : (zs6 T).bs.length = 600 := laid_len (by simp; exact hT)
  have hp : (zs6 T).part s x.length 0 x.length = true := by rw [Arn.part_iff, hl]; omega
  have e : (zs6 T).store s x.length 0 x = ⟨putN (zs6 T).bs s x, (zs6 T).live, (zs6 T).peak⟩ := by
    unfold Arn.store
    rw [if_pos hp]
    unfold Arn.setAt
    rw [show ((s : Int) + 0).toNat = s by omega]
  refine ⟨hp, by rw [e]; exact hl, ⟨by rw [e]; show (s : Int) + _ ≤ (zs6 T).live; rw [hl]; omega, fun i hi => ?_⟩⟩
  rw [e]
  show (putN _ _ _)[s + i]? = _
  rw [putN_get (by rw [hlen]; omega), if_pos (by omega), show s + i - s = i by omega, List.getElem?_eq_getElem hi]
set_option maxRecDepth 100000 in
theorem placed_run {hp : List Blk} {v : Value} {x : List Nat} (hr : Rd ⟨hp, hp.length, [], []⟩ v x) (room : Int) (h1 : -9223372036854775808 ≤ room) (h2 : room ≤ 9223372036854775807) (first : Int) (h3 : -9223372036854775808 ≤ first) (h4 : first ≤ 9223372036854775807) (btw : Int) (h5 : -9223372036854775808 ≤ btw) (h6 : btw ≤ 9223372036854775807) :
    ∃ σ', Lrun env (.func 8) [v, .int .i64 room, .int .i64 first, .int .i64 btw] ⟨hp, hp.length, [], []⟩ = some (.bool true, σ') := by
  have hF : Fit hp.length hp.length [] := ⟨Nat.le_refl _, Low.nil _⟩
  have hlen := hr.lenF
  by_cases g : (x.length : Int) = 0 ∨ (x.length : Int) > 60 ∨ room < 1 ∨ room > 70 ∨ btw < 0 ∨ btw > 20
  · rw [Lrun_sym 8 _ _ fn8]
    by_cases g1 : (x.length : Int) = 0
    · simp (disch := (first | omega | (simp only [lnE] <;> omega) | (refine Fit.mono ‹Fit _ _ _› ?_ <;> (simp only [lnE] <;> omega)) | (refine Fit.draw ‹Fit _ _ _› ?_ ?_ <;> (simp only [lnE] <;> omega)) | (refine Fit.hid1 ‹Fit _ _ _› ?_ ?_ <;> (simp only [lnE] <;> omega)) | (refine Fit.draw1 ‹Fit _ _ _› ?_ ?_ ?_ <;> (simp only [lnE] <;> omega)) | (refine Fit.range0 ?_ ?_ <;> (simp only [lnE] <;> omega)) | fail)) only [syA, syB, argFr, D, E, T, C, undefv, eqF, aeq, sheqs, sheq, rdCells, cellsOf, fill, putAt, if_true, if_false, reduceIte, ↓reduceIte, reduceCtorEq, eq_self, Nat.reduceEqDiff, Nat.reduceAdd, Nat.reduceSub, Nat.reduceMul, Nat.reduceLT, Nat.reduceLeDiff, Nat.reducePow, Nat.reduceDiv, Nat.reduceMod, Int.reduceLT, Int.reduceLE, Int.reduceGT, Int.reduceGE, Int.reduceToNat, Int.reducePow, Int.reduceNeg, Int.reduceBEq, Int.reduceBNe, Int.reduceEq, Int.reduceAdd, Int.reduceSub, Int.reduceMul, cellv, sc, flatv, refs, refsF, refsC, hF.not0, hF.not1, hF.up0, hF.up1, ac8, hlen, g1, wakes19_walk]
      exact ⟨_, rfl⟩
    have g1' : ((x.length : Int) == 0) = false := by rw [beq_eq_false_iff_ne]; exact g1
    by_cases g2 : (x.length : Int) > 60
    · simp (disch := (first | omega | (simp only [lnE] <;> omega) | (refine Fit.mono ‹Fit _ _ _› ?_ <;> (simp only [lnE] <;> omega)) | (refine Fit.draw ‹Fit _ _ _› ?_ ?_ <;> (simp only [lnE] <;> omega)) | (refine Fit.hid1 ‹Fit _ _ _› ?_ ?_ <;> (simp only [lnE] <;> omega)) | (refine Fit.draw1 ‹Fit _ _ _› ?_ ?_ ?_ <;> (simp only [lnE] <;> omega)) | (refine Fit.range0 ?_ ?_ <;> (simp only [lnE] <;> omega)) | fail)) only [syA, syB, argFr, D, E, T, C, undefv, eqF, aeq, sheqs, sheq, rdCells, cellsOf, fill, putAt, if_true, if_false, reduceIte, ↓reduceIte, reduceCtorEq, eq_self, Nat.reduceEqDiff, Nat.reduceAdd, Nat.reduceSub, Nat.reduceMul, Nat.reduceLT, Nat.reduceLeDiff, Nat.reducePow, Nat.reduceDiv, Nat.reduceMod, Int.reduceLT, Int.reduceLE, Int.reduceGT, Int.reduceGE, Int.reduceToNat, Int.reducePow, Int.reduceNeg, Int.reduceBEq, Int.reduceBNe, Int.reduceEq, Int.reduceAdd, Int.reduceSub, Int.reduceMul, cellv, sc, flatv, refs, refsF, refsC, hF.not0, hF.not1, hF.up0, hF.up1, ac8, hlen, g1', g2, wakes19_walk]
      exact ⟨_, rfl⟩
    by_cases g3 : room < 1
    · simp (disch := (first | omega | (simp only [lnE] <;> omega) | (refine Fit.mono ‹Fit _ _ _› ?_ <;> (simp only [lnE] <;> omega)) | (refine Fit.draw ‹Fit _ _ _› ?_ ?_ <;> (simp only [lnE] <;> omega)) | (refine Fit.hid1 ‹Fit _ _ _› ?_ ?_ <;> (simp only [lnE] <;> omega)) | (refine Fit.draw1 ‹Fit _ _ _› ?_ ?_ ?_ <;> (simp only [lnE] <;> omega)) | (refine Fit.range0 ?_ ?_ <;> (simp only [lnE] <;> omega)) | fail)) only [syA, syB, argFr, D, E, T, C, undefv, eqF, aeq, sheqs, sheq, rdCells, cellsOf, fill, putAt, if_true, if_false, reduceIte, ↓reduceIte, reduceCtorEq, eq_self, Nat.reduceEqDiff, Nat.reduceAdd, Nat.reduceSub, Nat.reduceMul, Nat.reduceLT, Nat.reduceLeDiff, Nat.reducePow, Nat.reduceDiv, Nat.reduceMod, Int.reduceLT, Int.reduceLE, Int.reduceGT, Int.reduceGE, Int.reduceToNat, Int.reducePow, Int.reduceNeg, Int.reduceBEq, Int.reduceBNe, Int.reduceEq, Int.reduceAdd, Int.reduceSub, Int.reduceMul, cellv, sc, flatv, refs, refsF, refsC, hF.not0, hF.not1, hF.up0, hF.up1, ac8, hlen, g1', g2, g3, wakes19_walk]
      exact ⟨_, rfl⟩
    by_cases g4 : room > 70
    · simp (disch := (first | omega | (simp only [lnE] <;> omega) | (refine Fit.mono ‹Fit _ _ _› ?_ <;> (simp only [lnE] <;> omega)) | (refine Fit.draw ‹Fit _ _ _› ?_ ?_ <;> (simp only [lnE] <;> omega)) | (refine Fit.hid1 ‹Fit _ _ _› ?_ ?_ <;> (simp only [lnE] <;> omega)) | (refine Fit.draw1 ‹Fit _ _ _› ?_ ?_ ?_ <;> (simp only [lnE] <;> omega)) | (refine Fit.range0 ?_ ?_ <;> (simp only [lnE] <;> omega)) | fail)) only [syA, syB, argFr, D, E, T, C, undefv, eqF, aeq, sheqs, sheq, rdCells, cellsOf, fill, putAt, if_true, if_false, reduceIte, ↓reduceIte, reduceCtorEq, eq_self, Nat.reduceEqDiff, Nat.reduceAdd, Nat.reduceSub, Nat.reduceMul, Nat.reduceLT, Nat.reduceLeDiff, Nat.reducePow, Nat.reduceDiv, Nat.reduceMod, Int.reduceLT, Int.reduceLE, Int.reduceGT, Int.reduceGE, Int.reduceToNat, Int.reducePow, Int.reduceNeg, Int.reduceBEq, Int.reduceBNe, Int.reduceEq, Int.reduceAdd, Int.reduceSub, Int.reduceMul, cellv, sc, flatv, refs, refsF, refsC, hF.not0, hF.not1, hF.up0, hF.up1, ac8, hlen, g1', g2, g3, g4, wakes19_walk]
      exact ⟨_, rfl⟩
    by_cases g5 : btw < 0
    · simp (disch := (first | omega | (simp only [lnE] <;> omega) | (refine Fit.mono ‹Fit _ _ _› ?_ <;> (simp only [lnE] <;> omega)) | (refine Fit.draw ‹Fit _ _ _› ?_ ?_ <;> (simp only [lnE] <;> omega)) | (refine Fit.hid1 ‹Fit _ _ _› ?_ ?_ <;> (simp only [lnE] <;> omega)) | (refine Fit.draw1 ‹Fit _ _ _› ?_ ?_ ?_ <;> (simp only [lnE] <;> omega)) | (refine Fit.range0 ?_ ?_ <;> (simp only [lnE] <;> omega)) | fail)) only [syA, syB, argFr, D, E, T, C, undefv, eqF, aeq, sheqs, sheq, rdCells, cellsOf, fill, putAt, if_true, if_false, reduceIte, ↓reduceIte, reduceCtorEq, eq_self, Nat.reduceEqDiff, Nat.reduceAdd, Nat.reduceSub, Nat.reduceMul, Nat.reduceLT, Nat.reduceLeDiff, Nat.reducePow, Nat.reduceDiv, Nat.reduceMod, Int.reduceLT, Int.reduceLE, Int.reduceGT, Int.reduceGE, Int.reduceToNat, Int.reducePow, Int.reduceNeg, Int.reduceBEq, Int.reduceBNe, Int.reduceEq, Int.reduceAdd, Int.reduceSub, Int.reduceMul, cellv, sc, flatv, refs, refsF, refsC, hF.not0, hF.not1, hF.up0, hF.up1, ac8, hlen, g1', g2, g3, g4, g5, wakes19_walk]
      exact ⟨_, rfl⟩
    by_cases g6 : btw > 20
    · simp (disch := (first | omega | (simp only [lnE] <;> omega) | (refine Fit.mono ‹Fit _ _ _› ?_ <;> (simp only [lnE] <;> omega)) | (refine Fit.draw ‹Fit _ _ _› ?_ ?_ <;> (simp only [lnE] <;> omega)) | (refine Fit.hid1 ‹Fit _ _ _› ?_ ?_ <;> (simp only [lnE] <;> omega)) | (refine Fit.draw1 ‹Fit _ _ _› ?_ ?_ ?_ <;> (simp only [lnE] <;> omega)) | (refine Fit.range0 ?_ ?_ <;> (simp only [lnE] <;> omega)) | fail)) only [syA, syB, argFr, D, E, T, C, undefv, eqF, aeq, sheqs, sheq, rdCells, cellsOf, fill, putAt, if_true, if_false, reduceIte, ↓reduceIte, reduceCtorEq, eq_self, Nat.reduceEqDiff, Nat.reduceAdd, Nat.reduceSub, Nat.reduceMul, Nat.reduceLT, Nat.reduceLeDiff, Nat.reducePow, Nat.reduceDiv, Nat.reduceMod, Int.reduceLT, Int.reduceLE, Int.reduceGT, Int.reduceGE, Int.reduceToNat, Int.reducePow, Int.reduceNeg, Int.reduceBEq, Int.reduceBNe, Int.reduceEq, Int.reduceAdd, Int.reduceSub, Int.reduceMul, cellv, sc, flatv, refs, refsF, refsC, hF.not0, hF.not1, hF.up0, hF.up1, ac8, hlen, g1', g2, g3, g4, g5, g6, wakes19_walk]
      exact ⟨_, rfl⟩
    omega
  · have g1 : ¬ (x.length : Int) = 0 := by omega
    have g1' : ((x.length : Int) == 0) = false := by rw [beq_eq_false_iff_ne]; exact g1
    have g2 : ¬ (x.length : Int) > 60 := by omega
    have g3 : ¬ room < 1 := by omega
    have g4 : ¬ room > 70 := by omega
    have g5 : ¬ btw < 0 := by omega
    have g6 : ¬ btw > 20 := by omega
    obtain ⟨rm, rfl⟩ := Int.eq_ofNat_of_zero_le (by omega : 0 ≤ room)
    obtain ⟨bt, rfl⟩ := Int.eq_ofNat_of_zero_le (by omega : 0 ≤ btw)
    have hx0 : x ≠ [] := by intro h; subst h; exact g1 rfl
    have hby := hr.by_
    obtain ⟨m, hm⟩ : ∃ m, x.length = m := ⟨_, rfl⟩
    have hvr : ∀ y ∈ refs v, y < hp.length := hr.refs
    obtain ⟨s, c, t, tt, lp, q1, q2, q3, q4, q5, q6, q7⟩ := placed_loop (hp := hp) (v := v) (m := m) (z := 4 * rm) (btw := bt) first rm (by omega) (by omega) (by omega) hvr
    obtain ⟨st1, st2, st3⟩ := zs6_store (T := tt) (s := s) (x := x) q1 (by omega)
    have kz := zs6_ok (T := tt) (n := hp.length + 4) (r := hp.length + 1) (q := hp.length + 1 + 1) q1 (by omega) (by omega) (by omega)
    have hw : hp.length ≤ hp.length + 1 ∧ hp.length ≤ hp.length + 1 + 1 := by omega
    obtain ⟨SZ, hSZ⟩ : ∃ SZ : Blk, SZ = .cells 0 true [.int .i64 m, .int .i64 m, .int .i64 (4 * rm : Nat)] := ⟨_, rfl⟩
    obtain ⟨SP, hSP⟩ : ∃ SP : Blk, SP = .cells 0 true [.int .i64 s, .int .i64 m, .int .i64 c, .int .i64 m, .int .i64 t, .int .i64 (4 * rm : Nat)] := ⟨_, rfl⟩
    have sw := store_walk (d := []) (hp := hp ++ [SZ, default, default, SP]) (r := hp.length + 1) (q := hp.length + 1 + 1) (L := hp.length) (H := []) (by omega : x.length ≤ 1048576) (hF.mono (by simp)) (kz.mono (by simp)) hw s x.length 0 (fun nw => by rw [List.append_assoc]; exact hr.put (by omega) (by omega))
    rw [st1] at sw
    have kA := kz.store (s := s) (len := x.length) (i := 0) hby
    generalize (zs6 tt).store s x.length 0 x = A at *
    have mw := fun nw => mark_walk (d := []) (hp := hp ++ (SZ :: default :: default :: SP :: nw)) (r := hp.length + 1) (q := hp.length + 1 + 1) (A := A) (L := hp.length) (H := []) (hF.mono (by simp)) (kA.mono (by simp))
    have hv : bValid A s x.length c x.length t (4 * rm : Nat) = true := by
      unfold bValid Arn.has rApart
      simp only [st2, hm, Bool.and_eq_true, decide_eq_true_eq]
      and_intros <;> first | trivial | omega
    obtain ⟨B, t1, b1⟩ := bturn_ok (hp := hp ++ [SZ, default, default, SP]) (L := hp.length) (H := []) (hF.mono (by simp)) (kA.mono (by simp)) hw st3 hby hv
    have kB := b1.ok kA
    have lvB : B.live = tt := b1.live.trans st2
    have hcl : (turnR x).1.length = m := by rw [(turnR_len x).1, hm]
    have l2 := b1.col.load
    rw [hcl] at l2
    have l3 := b1.text.load
    rw [hm] at l3
    have hcb : By (turnR x).1 := turnR_by x hby
    have hcn : (turnR x).1 ≠ [] := by intro h; rw [h] at hcl; simp at hcl; omega
    have tw := turn17_walk (d := []) (hq := put (hp ++ [SZ, default, default, SP]) (hp.length + 1) (hp.length + 1 + 1) B) (L := hp.length) (H := []) (by rw [put_length]; exact hF.mono (by simp)) (by exact hr.put (by omega) (by omega)) (by omega)
    rw [bv_ne hcn, bb_ne hcn, put_app (by simp) (by simp), put_length, hcl] at tw
    obtain ⟨N1, hN1⟩ : ∃ N1 : Blk, N1 = .cells m true (u8s (turnR x).1) := ⟨_, rfl⟩
    have pw := fun (hp : List Blk) (L : Nat) (H d : List Nat) (hF : Fit hp.length L H) => bpasses_walk (d := d) hF m rm (by omega) (by omega)
    have p1 : bPasses m rm = ((m / rm + 1 : Nat) : Int) := by
      unfold bPasses
      rw [if_neg (by omega)]
      rfl
    have z1 : 4 * rm / 4 = rm := by omega
    have hP1 : m / rm + 1 ≤ 61 := by have := Nat.div_le_self m rm; omega
    rw [z1, hm] at t1
    simp only [p1] at pw
    have hrd1 : ∀ (nw : List Blk) (A : Arn) (L' : Nat) (H d : List Nat), H.contains (hp.length + 4) = false → Rd ⟨put (hp ++ (SZ :: default :: default :: SP :: N1 :: nw)) (hp.length + 1) (hp.length + 1 + 1) A, L', H, d⟩ (.slice (some ⟨hp.length + 4, 0, some m⟩) m 1) (turnR x).1 := fun nw A L' H d hH => by
      have h := Rd.whole (hp := put (hp ++ (SZ :: default :: default :: SP :: N1 :: nw)) (hp.length + 1) (hp.length + 1 + 1) A) (b := hp.length + 4) (g := m) (e := 1) (L := L') (H := H) (d := d) (pl := true) (l := (turnR x).1) (by rw [put_o (by omega) (by omega), get_new]; exact congrArg some hN1) hH hcb (.inr rfl)
      rw [hcl] at h
      exact h
    have hrd2 : ∀ (B0 : Blk) (nw : List Blk) (A : Arn) (L' : Nat) (H d : List Nat), H.contains (hp.length + 5) = false → Rd ⟨put (hp ++ (SZ :: default :: default :: SP :: B0 :: N1 :: nw)) (hp.length + 1) (hp.length + 1 + 1) A, L', H, d⟩ (.slice (some ⟨hp.length + 5, 0, some m⟩) m 1) (turnR x).1 := fun B0 nw A L' H d hH => by
      have h := Rd.whole (hp := put (hp ++ (SZ :: default :: default :: SP :: B0 :: N1 :: nw)) (hp.length + 1) (hp.length + 1 + 1) A) (b := hp.length + 5) (g := m) (e := 1) (L := L') (H := H) (d := d) (pl := true) (l := (turnR x).1) (by rw [put_o (by omega) (by omega), get_new]; exact congrArg some hN1) hH hcb (.inr rfl)
      rw [hcl] at h
      exact h
    have hrd3 : ∀ (B0 B1 : Blk) (nw : List Blk) (A : Arn) (L' : Nat) (H d : List Nat), H.contains (hp.length + 6) = false → Rd ⟨put (hp ++ (SZ :: default :: default :: SP :: B0 :: B1 :: .cells m true (u8s x) :: nw)) (hp.length + 1) (hp.length + 1 + 1) A, L', H, d⟩ (.slice (some ⟨hp.length + 6, 0, some m⟩) m 1) x := fun B0 B1 nw A L' H d hH => by
      have h := Rd.whole (hp := put (hp ++ (SZ :: default :: default :: SP :: B0 :: B1 :: .cells m true (u8s x) :: nw)) (hp.length + 1) (hp.length + 1 + 1) A) (b := hp.length + 6) (g := m) (e := 1) (L := L') (H := H) (d := d) (pl := true) (l := x) (by rw [put_o (by omega) (by omega), get_new]; rfl) hH hby (.inr rfl)
      rw [hm] at h
      exact h
    have s1 := fun nw A L' d => (hrd1 nw A L' [] d rfl).str
    have s2 := fun B0 nw A L' d => (hrd2 B0 nw A L' [] d rfl).str
    have s3 := fun B0 B1 nw A L' d => (hrd3 B0 B1 nw A L' [] d rfl).str
    have hcon : ∀ b lo n, b < lo → (List.range' lo n).contains b = false := fun b lo n h => by simp [List.contains_eq_mem, List.mem_range']; omega
    have s1h := fun nw A L' lo n d (hlo : hp.length + 4 < lo) => (hrd1 nw A L' (List.range' lo n) d (hcon _ _ _ hlo)).str
    have s2h := fun B0 nw A L' lo n d (hlo : hp.length + 5 < lo) => (hrd2 B0 nw A L' (List.range' lo n) d (hcon _ _ _ hlo)).str
    have s3h := fun B0 B1 nw A L' lo n d (hlo : hp.length + 6 < lo) => (hrd3 B0 B1 nw A L' (List.range' lo n) d (hcon _ _ _ hlo)).str
    have rv := fun nw L' => (Rd.put (nw := nw) (L' := L') (d' := []) (r := hp.length + 1) (q := hp.length + 1 + 1) (A := B) hr (by omega) (by omega)).str
    have rvh := fun nw L' lo n (hlo : hp.length ≤ lo) => (Rd_hide19 (nw := nw) (L' := L') (d' := []) (r := hp.length + 1) (q := hp.length + 1 + 1) (lo := lo) (n := n) (A := B) hr (by omega) (by omega) hlo).str
    have lw2 := fun nw L' H (hF' : Fit (hp ++ (SZ :: default :: default :: SP :: nw)).length L' H) hk => load_walk (d := []) (hp := hp ++ (SZ :: default :: default :: SP :: nw)) (r := hp.length + 1) (q := hp.length + 1 + 1) (A := B) (L := L') (H := H) hF' hk c m
    have lw3 := fun nw L' H (hF' : Fit (hp ++ (SZ :: default :: default :: SP :: nw)).length L' H) hk => load_walk (d := []) (hp := hp ++ (SZ :: default :: default :: SP :: nw)) (r := hp.length + 1) (q := hp.length + 1 + 1) (A := B) (L := L') (H := H) hF' hk s m
    have mw2 := fun nw L' H (hF' : Fit (hp ++ (SZ :: default :: default :: SP :: nw)).length L' H) hk => mark_walk (d := []) (hp := hp ++ (SZ :: default :: default :: SP :: nw)) (r := hp.length + 1) (q := hp.length + 1 + 1) (A := B) (L := L') (H := H) hF' hk
    simp only [l2] at lw2
    simp only [l3] at lw3
    simp only [lvB] at mw2
    simp only [st2] at mw
    simp only [hm, hcl, sl_some, slB_some, ← hN1, List.length_append, List.length_cons, List.length_nil, Nat.reduceAdd, Nat.zero_add, List.append_assoc, List.cons_append, List.nil_append, Int.natCast_zero, Int.natCast_one, Int.cast_ofNat_Int, Option.getD_some] at t1 tw lw2 lw3 hlen g1 g1' g2 sw mw mw2 lp
    have e2 : (4 : Int) * rm = ((4 * rm : Nat) : Int) := by omega
    have n600 : ((600 : Int)).toNat = 600 := rfl
    have nz : Arn.new 600 = zs6 0 := by rw [new_laid]; rfl
    have h6 : List.replicate 6 (Value.int .i64 0) = [.int .i64 0, .int .i64 0, .int .i64 0, .int .i64 0, .int .i64 0, .int .i64 0] := rfl
    generalize m / rm + 1 = P1 at *
    subst hSZ hSP
    rw [Lrun_sym 8 _ _ fn8]
    simp (disch := (first | omega | (simp only [lnE, put_length] <;> omega) | (refine Fit.mono ‹Fit _ _ _› ?_ <;> (simp only [lnE, put_length] <;> omega)) | (refine Fit.draw ‹Fit _ _ _› ?_ ?_ <;> (simp only [lnE, put_length] <;> omega)) | (refine Fit.hid1 ‹Fit _ _ _› ?_ ?_ <;> (simp only [lnE, put_length] <;> omega)) | (refine Fit.draw1 ‹Fit _ _ _› ?_ ?_ ?_ <;> (simp only [lnE, put_length] <;> omega)) | (refine Fit.range0 ?_ ?_ <;> (simp only [lnE, put_length] <;> omega)) | (refine ArOk.mono ‹ArOk _ _ _ _ _› ?_ <;> (simp only [lnE, put_length] <;> omega)) | (refine ArOk.hid ‹ArOk _ _ _ _ _› ?_ ?_ <;> (simp only [lnE, put_length] <;> omega)) | (refine ArOk.hid0 ‹ArOk _ _ _ _ _› ?_ ?_ <;> (simp only [lnE, put_length] <;> omega)) | ((intro xr hxr; simp [AM.refs, refsF, refsC] at hxr) <;> (simp only [lnE, put_length] <;> omega)) | fail)) only [syA, syB, argFr, D, E, T, C, undefv, eqF, aeq, sheqs, sheq, rdCells, cellsOf, fill, putAt, if_true, if_false, reduceIte, ↓reduceIte, reduceCtorEq, eq_self, Nat.reduceEqDiff, Nat.reduceAdd, Nat.reduceSub, Nat.reduceMul, Nat.reduceLT, Nat.reduceLeDiff, Nat.reducePow, Nat.reduceDiv, Nat.reduceMod, Int.reduceLT, Int.reduceLE, Int.reduceGT, Int.reduceGE, Int.reduceToNat, Int.reducePow, Int.reduceNeg, Int.reduceBEq, Int.reduceBNe, Int.reduceEq, Int.reduceAdd, Int.reduceSub, Int.reduceMul, cellv, sc, flatv, refs, refsF, refsC, syR, Int.le_refl, hF.not0, hF.not1, hF.up0, hF.up1, ac8, hlen, g1', g2, g3, g4, g5, g6, e2, h6, new_walk, n600, nz, lp, sw, mw, t1, tw, pw, s1, s2, s3, s1h, s2h, s3h, rv, rvh, lw2, lw3, mw2, wakes19_walk, gc_bool_new]
    exact ⟨_, rfl⟩
end ArA
end Go.Proofs.Ytlphmnhkkhcjfaa
