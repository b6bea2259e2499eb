/-
  THE TRANSFORM BY BUCKETS: the examples. Conditions: none.
-/
import Derived.Test.YtlphmnhkkhcjfaaHbN
set_option linter.all false
namespace Go.Proofs.Ytlphmnhkkhcjfaa
namespace ArA
open Go Go.RowKit AM ArEnv
theorem bValid_live {A B : Arn} (h : B.live = A.live) (s m c n t z : Int) : bValid B s m c n t z = bValid A s m c n t z := by
  unfold bValid Arn.has
  rw [h]
theorem bturn_nil {hp : List Blk} {L : Nat} {H d : List Nat} (hF : Fit hp.length L H) (s m c n t z : Int) :
    Lrun env (.func 28) [.pointer none, .agg #[.int .i64 s, .int .i64 m], .agg #[.int .i64 c, .int .i64 n], .agg #[.int .i64 t, .int .i64 z]] ⟨hp, L, H, d⟩ = some (.tuple #[.int .i64 0, .int .i64 0, .int .i64 2], ⟨hp, L, H, d⟩) := by
  rw [Lrun_sym 28 _ _ fn28]
  simp (disch := (first | omega | (simp only [lnE] <;> omega) | (refine Fit.mono ‹Fit _ _ _› ?_ <;> (simp only [lnE] <;> omega)) | (refine Fit.draw ‹Fit _ _ _› ?_ ?_ <;> (simp only [lnE] <;> omega)) | (refine Fit.hid1 ‹Fit _ _ _› ?_ ?_ <;> (simp only [lnE] <;> omega)) | (refine Fit.draw1 ‹Fit _ _ _› ?_ ?_ ?_ <;> (simp only [lnE] <;> omega)) | (refine Fit.range0 ?_ ?_ <;> (simp only [lnE] <;> omega)) | fail)) only [syA, syB, argFr, D, E, T, C, undefv, eqF, aeq, sheqs, sheq, rdCells, cellsOf, fill, putAt, if_true, if_false, reduceIte, ↓reduceIte, reduceCtorEq, eq_self, Nat.reduceEqDiff, Nat.reduceAdd, Nat.reduceSub, Nat.reduceMul, Nat.reduceLT, Nat.reduceLeDiff, Nat.reducePow, Nat.reduceDiv, Nat.reduceMod, Int.reduceLT, Int.reduceLE, Int.reduceGT, Int.reduceGE, Int.reduceToNat, Int.reducePow, Int.reduceNeg, Int.reduceBEq, Int.reduceBNe, Int.reduceEq, Int.reduceAdd, Int.reduceSub, Int.reduceMul, cellv, sc, flatv, refs, refsF, refsC, hF.not0, hF.not1, hF.up0, hF.up1, ac28, bvalid_nil]
def ban : List Nat := [98, 97, 110, 97, 110, 97]
def banC : List Nat := [97, 110, 110, 98, 97, 97]
theorem ban_turn : (turnR ban).1 = banC ∧ (turnR ban).2.1 = 4 := by decide
theorem ban_by : By ban := by unfold By; decide
theorem banC_by : By banC := by unfold By; decide
theorem gc_bool_any {base : Nat} {h : List Blk} {L : Nat} {H d : List Nat} {b : Bool} (hl : base < h.length) (hd : d.filter (fun t => decide (t < base)) = []) : gc base [.bool b] ⟨h, L, H, d⟩ = some ([.bool b], ⟨h.take base, L, H, []⟩) := by
  unfold gc
  rw [if_neg (by simpa using hl)]
  simp [refs, refsF, refsC, hd]
set_option maxRecDepth 100000 in
theorem wakes19_walk {hp : List Blk} {L : Nat} {H d : List Nat} (hF : Fit hp.length L H) : Lrun env (.func 26) [] ⟨hp, L, H, d⟩ = some (.bool true, ⟨hp, L, H, d⟩) := by
  obtain ⟨TB, hTB⟩ : ∃ TB : Blk, TB = .cells 0 true [.int .i64 0, .int .i64 6] := ⟨_, rfl⟩
  obtain ⟨CB, hCB⟩ : ∃ CB : Blk, CB = .cells 0 true [.int .i64 6, .int .i64 6] := ⟨_, rfl⟩
  obtain ⟨BN, hBN⟩ : ∃ BN : Blk, BN = .cells 0 true (u8s ban) := ⟨_, rfl⟩
  have hw : L ≤ hp.length + 3 ∧ L ≤ hp.length + 3 + 1 := by have := hF.1; omega
  have hh1 := hF.not1 3
  have hh2 : H.contains (hp.length + 3 + 1) = false := hF.not1 4
  have hrd : ∀ d, Rd ⟨hp ++ [TB, CB, BN], L, H, d⟩ (.slice (some ⟨hp.length + 2, 0, some 0⟩) 6 1) ban := fun d => Rd.whole (hp := hp ++ [TB, CB, BN]) (b := hp.length + 2) (g := 0) (e := 1) (l := ban) (by rw [get_new]; exact congrArg some hBN) (hF.not1 2) ban_by (.inr rfl)
  have ld := laid19_walk (d := []) (n := 43) (hp := hp ++ [TB, CB, BN]) (L := L) (H := H) (hF.mono (by simp)) (hrd []) (by decide) (by decide)
  have k0 : ArOk (hp.length + 5) (hp.length + 3) (hp.length + 3 + 1) H (rl ban 43) := rl_ok (by omega) (by omega) (by omega) hh1 hh2 ban_by (by decide)
  have lv : (rl ban 43).live = 50 := by rw [rl_live]; rfl
  have hv0 : bValid (rl ban 43) (0 : Nat) ban.length (6 : Nat) ban.length (12 : Nat) (15 : Nat) = true := by
    unfold bValid Arn.has; rw [lv]; decide
  obtain ⟨B1, t1, b1⟩ := bturn_ok (hp := hp ++ [TB, CB, BN, default, default]) (L := L) (H := H) (hF.mono (by simp)) (k0.mono (by simp)) hw (rl_holds ban 43) ban_by hv0
  have lv1 : B1.live = 50 := b1.live.trans lv
  have k1 := b1.ok k0
  have l1 := b1.col.load
  rw [ban_turn.1] at l1
  have lw1 := load_walk (d := []) (hp := hp ++ [TB, CB, BN, default, default]) (r := hp.length + 3) (q := hp.length + 3 + 1) (L := L) (H := H) (hF.mono (by simp)) (k1.mono (by simp)) (6 : Nat) banC.length
  rw [l1] at lw1
  obtain ⟨N1, hN1⟩ : ∃ N1 : Blk, N1 = .cells 6 true (u8s banC) := ⟨_, rfl⟩
  have hv1 : bValid B1 (0 : Nat) ban.length (6 : Nat) ban.length (12 : Nat) (28 : Nat) = true := by
    unfold bValid Arn.has; rw [lv1]; decide
  obtain ⟨B, t2, b2⟩ := bturn_ok (hp := hp ++ [TB, CB, BN, default, default, N1]) (L := L) (H := H) (hF.mono (by simp)) (k1.mono (by simp)) hw b1.text ban_by hv1
  have lvB : B.live = 50 := b2.live.trans lv1
  have kB := b2.ok k1
  have t3 := fun d => bturn_bad (d := d) (hp := hp ++ [TB, CB, BN, default, default, N1]) (L := L) (H := H) (r := hp.length + 3) (q := hp.length + 3 + 1) (A := B) (s := 0) (m := 6) (c := 6) (n := 6) (t := 11) (z := 8) (hF.mono (by simp)) (kB.mono (by simp)) (by unfold bValid Arn.has; rw [lvB]; decide)
  have l2 := b2.col.load
  rw [ban_turn.1] at l2
  have l3 := b2.text.load
  have lw2 := load_walk (d := []) (hp := hp ++ [TB, CB, BN, default, default, N1]) (r := hp.length + 3) (q := hp.length + 3 + 1) (L := L) (H := H) (hF.mono (by simp)) (kB.mono (by simp)) (6 : Nat) banC.length
  rw [l2] at lw2
  have lw3 := fun B0 => load_walk (d := []) (hp := hp ++ [TB, CB, BN, default, default, N1, B0]) (r := hp.length + 3) (q := hp.length + 3 + 1) (L := L) (H := H) (hF.mono (by simp)) (kB.mono (by simp)) (0 : Nat) ban.length
  simp only [l3] at lw3
  have va := fun nw (z : Int) => bvalid_walk (d := []) (hp := hp ++ (TB :: CB :: BN :: default :: default :: nw)) (L := L) (H := H) (r := hp.length + 3) (q := hp.length + 3 + 1) (A := B) (hF.mono (by simp)) (kB.mono (by simp)) 0 6 6 6 12 z
  have va4 : bValid B 0 6 6 6 12 4 = true := by unfold bValid Arn.has; rw [lvB]; decide
  have va3 : bValid B 0 6 6 6 12 3 = false := by unfold bValid Arn.has; rw [lvB]; decide
  have pa1 := fun (hp : List Blk) (L : Nat) (H d : List Nat) (hF : Fit hp.length L H) => bpasses_walk (d := d) hF 6 3 (by omega) (by omega)
  have pa2 := fun (hp : List Blk) (L : Nat) (H d : List Nat) (hF : Fit hp.length L H) => bpasses_walk (d := d) hF 6 0 (by omega) (by omega)
  have pa3 := fun (hp : List Blk) (L : Nat) (H d : List Nat) (hF : Fit hp.length L H) => bpasses_walk (d := d) hF 0 1 (by omega) (by omega)
  have q1 : bPasses 6 3 = 3 := by decide
  have q2 : bPasses 6 0 = 0 := by decide
  have q3 : bPasses 0 1 = 1 := by decide
  have hal : ban.length = 6 := rfl
  have hbl : banC.length = 6 := rfl
  have hx3 : (turnR ban).2.1 = 4 := ban_turn.2
  have hdr : Nat.div 6 (15 / 4) + 1 = 3 := rfl
  have sl1 := sl_some; have slb1 := slB_some
  have st1 : ∀ (nw : List Blk) (d : List Nat), St.str ⟨put (hp ++ (TB :: CB :: BN :: default :: default :: N1 :: nw)) (hp.length + 3) (hp.length + 3 + 1) B1, L, H, d⟩ (.slice (some ⟨hp.length + 5, 0, some 6⟩) 6 1) = some (b8 banC) := fun nw d =>
    (Rd.whole (l := banC) (by rw [put_o (by omega) (by omega), get_new]; exact congrArg some hN1) (hF.not1 5) banC_by (.inr rfl)).str
  have st2 : ∀ (nw : List Blk) (d : List Nat), St.str ⟨put (hp ++ (TB :: CB :: BN :: default :: default :: N1 :: N1 :: nw)) (hp.length + 3) (hp.length + 3 + 1) B, L, H, d⟩ (.slice (some ⟨hp.length + 6, 0, some 6⟩) 6 1) = some (b8 banC) := fun nw d =>
    (Rd.whole (l := banC) (by rw [put_o (by omega) (by omega), get_new]; exact congrArg some hN1) (hF.not1 6) banC_by (.inr rfl)).str
  have st3 : ∀ (B0 : Blk) (nw : List Blk) (d : List Nat), St.str ⟨put (hp ++ (TB :: CB :: BN :: default :: default :: N1 :: B0 :: .cells 6 true (u8s ban) :: nw)) (hp.length + 3) (hp.length + 3 + 1) B, L, H, d⟩ (.slice (some ⟨hp.length + 7, 0, some 6⟩) 6 1) = some (b8 ban) := fun B0 nw d =>
    (Rd.whole (l := ban) (by rw [put_o (by omega) (by omega), get_new]; rfl) (hF.not1 7) ban_by (.inr rfl)).str
  simp only [hal, hbl, hx3, sl_some, slB_some, ← hN1, List.length_append, List.length_cons, List.length_nil, Nat.reduceAdd, Nat.zero_add, List.append_assoc, List.cons_append, List.nil_append, Int.natCast_zero, Int.natCast_one, Int.cast_ofNat_Int, Option.getD_some, Nat.reduceDiv] at ld t1 lw1 t2 t3 lw2 lw3
  have hsC : Value.string ⟨#[97, 110, 110, 98, 97, 97]⟩ = .string ⟨(b8 banC).toArray⟩ := rfl
  have hsB : Value.string ⟨#[98, 97, 110, 97, 110, 97]⟩ = .string ⟨(b8 ban).toArray⟩ := rfl
  have hann : [Value.int .u8 98, .int .u8 97, .int .u8 110, .int .u8 97, .int .u8 110, .int .u8 97] = u8s ban := rfl
  have sm6 : small 6 = true := by decide
  have mkx := markX_some (σ := ⟨hp ++ [TB, CB, BN], L, H, []⟩) (hp.length + 2) 0 0 6 1 (hF.up1 2) (by simp)
  have hr6 : List.replicate 6 (Value.int .u8 0) = [.int .u8 0, .int .u8 0, .int .u8 0, .int .u8 0, .int .u8 0, .int .u8 0] := rfl
  subst hTB hCB hBN
  rw [Lrun_sym 26 _ _ fn26]
  simp (disch := (first | omega | (simp only [lnE, put_length] <;> omega) | (refine Fit.mono ‹Fit _ _ _› ?_ <;> (simp only [lnE, put_length] <;> omega)) | (refine Fit.draw ‹Fit _ _ _› ?_ ?_ <;> (simp only [lnE, put_length] <;> omega)) | (refine Fit.hid1 ‹Fit _ _ _› ?_ ?_ <;> (simp only [lnE, put_length] <;> omega)) | (refine Fit.draw1 ‹Fit _ _ _› ?_ ?_ ?_ <;> (simp only [lnE, put_length] <;> omega)) | (refine Fit.range0 ?_ ?_ <;> (simp only [lnE, put_length] <;> omega)) | (refine ArOk.mono ‹ArOk _ _ _ _ _› ?_ <;> (simp only [lnE, put_length] <;> omega)) | (refine ArOk.hid ‹ArOk _ _ _ _ _› ?_ ?_ <;> (simp only [lnE, put_length] <;> omega)) | (refine ArOk.hid0 ‹ArOk _ _ _ _ _› ?_ ?_ <;> (simp only [lnE, put_length] <;> omega)) | ((intro xr hxr; simp [AM.refs, refsF, refsC] at hxr) <;> (simp only [lnE, put_length] <;> omega)) | fail)) only [syA, syB, argFr, D, E, T, C, undefv, eqF, aeq, sheqs, sheq, rdCells, cellsOf, fill, putAt, if_true, if_false, reduceIte, ↓reduceIte, reduceCtorEq, eq_self, Nat.reduceEqDiff, Nat.reduceAdd, Nat.reduceSub, Nat.reduceMul, Nat.reduceLT, Nat.reduceLeDiff, Nat.reducePow, Nat.reduceDiv, Nat.reduceMod, Int.reduceLT, Int.reduceLE, Int.reduceGT, Int.reduceGE, Int.reduceToNat, Int.reducePow, Int.reduceNeg, Int.reduceBEq, Int.reduceBNe, Int.reduceEq, Int.reduceAdd, Int.reduceSub, Int.reduceMul, cellv, sc, flatv, refs, refsF, refsC, syR, Int.le_refl, hF.not0, hF.not1, hF.up0, hF.up1, ac26, hr6, hal, u8s_sc, mkx, sm6, hann, ld, t1, lw1, t2, t3, bturn_nil, lw2, lw3, va, va3, va4, bvalid_nil, pa1, pa2, pa3, q1, q2, q3, st1, st2, st3, hsC, hsB]
  rw [gc_bool_new (by omega) (by omega) (by simp)]
  simp (disch := (first | omega | (simp only [lnE, put_length] <;> omega) | (refine Fit.mono ‹Fit _ _ _› ?_ <;> (simp only [lnE, put_length] <;> omega)) | (refine Fit.draw ‹Fit _ _ _› ?_ ?_ <;> (simp only [lnE, put_length] <;> omega)) | (refine Fit.hid1 ‹Fit _ _ _› ?_ ?_ <;> (simp only [lnE, put_length] <;> omega)) | (refine Fit.draw1 ‹Fit _ _ _› ?_ ?_ ?_ <;> (simp only [lnE, put_length] <;> omega)) | (refine Fit.range0 ?_ ?_ <;> (simp only [lnE, put_length] <;> omega)) | (refine ArOk.mono ‹ArOk _ _ _ _ _› ?_ <;> (simp only [lnE, put_length] <;> omega)) | (refine ArOk.hid ‹ArOk _ _ _ _ _› ?_ ?_ <;> (simp only [lnE, put_length] <;> omega)) | (refine ArOk.hid0 ‹ArOk _ _ _ _ _› ?_ ?_ <;> (simp only [lnE, put_length] <;> omega)) | ((intro xr hxr; simp [AM.refs, refsF, refsC] at hxr) <;> (simp only [lnE, put_length] <;> omega)) | fail)) only [syA, syB, argFr, D, E, T, C, undefv, eqF, aeq, sheqs, sheq, rdCells, cellsOf, fill, putAt, if_true, if_false, reduceIte, ↓reduceIte, reduceCtorEq, eq_self, Nat.reduceEqDiff, Nat.reduceAdd, Nat.reduceSub, Nat.reduceMul, Nat.reduceLT, Nat.reduceLeDiff, Nat.reducePow, Nat.reduceDiv, Nat.reduceMod, Int.reduceLT, Int.reduceLE, Int.reduceGT, Int.reduceGE, Int.reduceToNat, Int.reducePow, Int.reduceNeg, Int.reduceBEq, Int.reduceBNe, Int.reduceEq, Int.reduceAdd, Int.reduceSub, Int.reduceMul, cellv, sc, flatv, refs, refsF, refsC, syR, Int.le_refl]
end ArA
end Go.Proofs.Ytlphmnhkkhcjfaa
