/-
  THE TRANSFORM BY BUCKETS: what Turn leaves; the law's arena; the examples. Conditions: none.
  THE TRANSFORM BY BUCKETS: the examples. Conditions: none.
-/
import Derived.Test.YtlphmnhkkhcjfaaHbM
import Derived.Test.YtlphmnhkkhcjfaaRkD
import Derived.Test.YtlphmnhkkhcjfaaRkF
set_option linter.all false
section
set_option linter.all false
namespace Go.Proofs.Ytlphmnhkkhcjfaa
namespace ArA
open Go Go.RowKit AM ArEnv
/-- What Turn leaves: the column; what lies neither in the column nor in the rows stays. -/
structure BT (A B : Arn) (s c t z : Nat) (x : List Nat) : Prop where
  live : B.live = A.live
  peak : B.peak = A.peak
  len : B.bs.length = A.bs.length
  by_ : By B.bs
  text : Holds B s x
  col : Holds B c (turnR x).1
  out : ∀ p, p < c ∨ c + x.length ≤ p → p < t ∨ t + z ≤ p → B.bs[p]? = A.bs[p]?
theorem BT.ok {A B : Arn} {s c t z n r q : Nat} {H : List Nat} {x : List Nat} (h : BT A B s c t z x) (o : ArOk n r q H A) : ArOk n r q H B where
  r_lt := o.r_lt
  q_lt := o.q_lt
  ne := o.ne
  by_ := h.by_
  live0 := by rw [h.live]; exact o.live0
  live1 := by rw [h.live, h.len]; exact o.live1
  peak0 := by rw [h.peak]; exact o.peak0
  peak1 := by rw [h.peak, h.len]; exact o.peak1
  size := by rw [h.len]; exact o.size
  hr := o.hr
  hq := o.hq
theorem passes_is {m r : Nat} (hr : 1 ≤ r) : (m + 1 + min r (m + 1) - 1) / min r (m + 1) = m / r + 1 := by
  by_cases h : r ≤ m + 1
  · rw [Nat.min_eq_left h, show m + 1 + r - 1 = m + r by omega, Nat.add_div_right _ (by omega)]
  · rw [Nat.min_eq_right (by omega), Nat.div_eq_of_lt (show m < r by omega), show m + 1 + (m + 1) - 1 = m + (m + 1) by omega, Nat.add_div_right _ (by omega), Nat.div_eq_of_lt (by omega)]
theorem bturn_ok {hp : List Blk} {L : Nat} {H : List Nat} {r q : Nat} {A : Arn} (hF : Fit hp.length L H) (k : ArOk hp.length r q H A) (hw : L ≤ r ∧ L ≤ q) {s c t z : Nat} {x : List Nat} (hx : Holds A s x) (hb : By x) (hv : bValid A s x.length c x.length t z = true) : ∃ B,
    (∀ d, Lrun env (.func 28) [arP r, .agg #[.int .i64 s, .int .i64 x.length], .agg #[.int .i64 c, .int .i64 x.length], .agg #[.int .i64 t, .int .i64 z]] ⟨put hp r q A, L, H, d⟩ =
      some (.tuple #[.int .i64 (turnR x).2.1, .int .i64 (x.length / (z / 4) + 1 : Nat), .int .i64 0], ⟨put hp r q B, L, H, d⟩)) ∧ BT A B s c t z x := by
  obtain ⟨A2, B, V, e1, e2, e3⟩ := bturn_walk hF k hw hx hb hv
  obtain ⟨v1, v2, v3, v4, v5, v6, v7⟩ := bValid_parts hv
  have b1 := Arn.has_iff.1 v1
  have b2 := Arn.has_iff.1 v2
  have b3 := Arn.has_iff.1 v3
  have hl1 := k.live1
  have hcl : (turnR x).1.length = x.length := (turnR_len x).1
  unfold rApart at v5 v6 v7
  rw [decide_eq_true_eq] at v5 v6 v7
  have hz : (bRoom x z : Nat) = min (z / 4) (x.length + 1) := rfl
  rw [hz, passes_is (by omega)] at e1
  refine ⟨B, e1, ⟨e2.live.trans e3.live, e2.peak.trans e3.peak, e2.len.trans e3.len, e2.by_, ⟨by rw [e2.live, e3.live]; exact hx.live, fun i hi => ?_⟩, ⟨by rw [e2.live, e3.live, hcl]; omega, fun i hi => ?_⟩, fun p h1 h2 => ?_⟩⟩
  · rw [e2.out _ (by omega), e3.out _ (by rw [hcl]; omega)]; exact hx.get i hi
  · rw [hcl] at hi
    rw [e2.out _ (by omega), e3.at_ i (by rw [hcl]; exact hi)]
    exact List.getElem?_eq_getElem _
  · rw [e2.out _ (by omega), e3.out _ (by rw [hcl]; exact h1)]
set_option maxRecDepth 40000 in
/-- The law's arena: all of it live, the text ahead. -/
theorem laid19_walk {hp : List Blk} {L : Nat} {H d : List Nat} {v : Value} {l : List Nat} {n : Nat} (hF : Fit hp.length L H) (hr : Rd ⟨hp, L, H, []⟩ v l) (hl : l.length ≤ 1000) (hn : n ≤ 1000) :
    Lrun env (.func 27) [.int .i64 (l.length + n + 1 : Nat), .agg #[.int .i64 0, .int .i64 l.length], v] ⟨hp, L, H, d⟩ =
      some (arP hp.length, ⟨put (hp ++ [default, default]) hp.length (hp.length + 1) (rl l n), L, H, d⟩) := by
  have hlen := hr.lenF
  have t1 := laid_taken (N := l.length + n + 1) (l := []) (m := l.length + n + 1) (by simp)
  simp only [List.nil_append, List.length_nil, Int.natCast_zero] at t1
  rw [← new_laid] at t1
  obtain ⟨p1, p2⟩ := rl_store (l := l) (sz := n)
  have c1 : ((l.length + n + 1 : Nat) : Int) ≤ 1048576 := by omega
  have c3 : (1 : Int) ≤ ((l.length + n + 1 : Nat) : Int) := by omega
  have hw : L ≤ hp.length + 1 ∧ L ≤ hp.length + 1 + 1 := by have := hF.1; omega
  have hh1 := hF.not1 1
  have hh2 : H.contains (hp.length + 1 + 1) = false := hF.not1 2
  have hz : ∀ n, By (List.replicate n 0) := fun n x hx => by rw [List.mem_replicate] at hx; omega
  have k0 : ArOk (hp.length + 3) (hp.length + 1) (hp.length + 1 + 1) H (Arn.new (l.length + n + 1)) := ArOk.new (by omega) (by omega) (by omega) (by omega) hh1 hh2
  have k3 : ArOk (hp.length + 3) (hp.length + 1) (hp.length + 1 + 1) H (Arn.laid (l.length + n + 1) (List.replicate (l.length + n + 1) 0)) := ArOk.laid (by omega) (by omega) (by omega) (hz _) (by simp) (by omega) hh1 hh2
  have e4 : ∀ (B0 : Blk) (nw : List Blk), hp.length + 3 ≤ (hp ++ (B0 :: default :: default :: nw)).length := fun _ _ => by simp
  have tk1 := fun B0 nw => take_walk (d := []) (hp := hp ++ (B0 :: default :: default :: nw)) (r := hp.length + 1) (q := hp.length + 1 + 1) (L := L) (H := H) (hF.mono (by simp)) (k0.mono (e4 B0 nw)) hw (l.length + n + 1 : Nat)
  have st := fun B0 nw => store_walk (d := []) (hp := hp ++ (B0 :: default :: default :: nw)) (r := hp.length + 1) (q := hp.length + 1 + 1) (L := L) (H := H) (by omega : l.length ≤ 1048576) (hF.mono (by simp)) (k3.mono (e4 B0 nw)) hw 0 l.length 0 (fun nw => by rw [List.append_assoc]; exact hr.put (by omega) (by omega))
  simp only [t1] at tk1
  simp only [p1, p2] at st
  have hnat : (((l.length + n + 1 : Nat) : Int)).toNat = l.length + n + 1 := by omega
  rw [Lrun_sym 27 _ _ fn27]
  simp (disch := (first | omega | (simp only [lnE, put_length] <;> omega) | (refine Fit.mono ‹Fit _ _ _› ?_ <;> (simp only [lnE, put_length] <;> omega)) | (refine Fit.draw ‹Fit _ _ _› ?_ ?_ <;> (simp only [lnE, put_length] <;> omega)) | (refine Fit.hid1 ‹Fit _ _ _› ?_ ?_ <;> (simp only [lnE, put_length] <;> omega)) | (refine Fit.draw1 ‹Fit _ _ _› ?_ ?_ ?_ <;> (simp only [lnE, put_length] <;> omega)) | (refine Fit.range0 ?_ ?_ <;> (simp only [lnE, put_length] <;> omega)) | (refine ArOk.mono ‹ArOk _ _ _ _ _› ?_ <;> (simp only [lnE, put_length] <;> omega)) | (refine ArOk.hid ‹ArOk _ _ _ _ _› ?_ ?_ <;> (simp only [lnE, put_length] <;> omega)) | (refine ArOk.hid0 ‹ArOk _ _ _ _ _› ?_ ?_ <;> (simp only [lnE, put_length] <;> omega)) | ((intro xr hxr; simp [AM.refs, refsF, refsC] at hxr) <;> (simp only [lnE, put_length] <;> omega)) | fail)) only [syA, syB, argFr, D, E, T, C, undefv, eqF, aeq, sheqs, sheq, rdCells, cellsOf, fill, putAt, if_true, if_false, reduceIte, ↓reduceIte, reduceCtorEq, eq_self, Nat.reduceEqDiff, Nat.reduceAdd, Nat.reduceSub, Nat.reduceMul, Nat.reduceLT, Nat.reduceLeDiff, Nat.reducePow, Nat.reduceDiv, Nat.reduceMod, Int.reduceLT, Int.reduceLE, Int.reduceGT, Int.reduceGE, Int.reduceToNat, Int.reducePow, Int.reduceNeg, Int.reduceBEq, Int.reduceBNe, Int.reduceEq, Int.reduceAdd, Int.reduceSub, Int.reduceMul, cellv, sc, flatv, refs, refsF, refsC, syR, Int.le_refl, hF.not0, hF.not1, hF.up0, hF.up1, ac27, hlen, new_walk, c1, c3, hnat, tk1, st]
  rw [gc_put_new (by omega) (by simp) (by omega) (by simp) (by omega) (by simp [refs, refsF, refsC, arP])]
  simp [gcX, ren, renF, renC, joinDirty, List.idxOf, List.findIdx_cons, arP]
end ArA
end Go.Proofs.Ytlphmnhkkhcjfaa
end
section
set_option linter.all false
namespace Go.Proofs.Ytlphmnhkkhcjfaa
namespace ArA
open Go Go.RowKit AM ArEnv
theorem bturn_nil {hp : List Blk} {L : Nat} {H d : List Nat} (hF : Fit hp.length L H) (s m c n t z : Int) :
    Lrun env (.func 28) [.pointer none, .agg #[.int .i64 s, .int .i64 m], .agg #[.int .i64 c, .int .i64 n], .agg #[.int .i64 t, .int .i64 z]] ⟨hp, L, H, d⟩ = some (.tuple #[.int .i64 0, .int .i64 0, .int .i64 2], ⟨hp, L, H, d⟩) := by
  rw [Lrun_sym 28 _ _ fn28]
  simp (disch := (first | omega | (simp only [lnE] <;> omega) | (refine Fit.mono ‹Fit _ _ _› ?_ <;> (simp only [lnE] <;> omega)) | (refine Fit.draw ‹Fit _ _ _› ?_ ?_ <;> (simp only [lnE] <;> omega)) | (refine Fit.hid1 ‹Fit _ _ _› ?_ ?_ <;> (simp only [lnE] <;> omega)) | (refine Fit.draw1 ‹Fit _ _ _› ?_ ?_ ?_ <;> (simp only [lnE] <;> omega)) | (refine Fit.range0 ?_ ?_ <;> (simp only [lnE] <;> omega)) | fail)) only [syA, syB, argFr, D, E, T, C, undefv, eqF, aeq, sheqs, sheq, rdCells, cellsOf, fill, putAt, if_true, if_false, reduceIte, ↓reduceIte, reduceCtorEq, eq_self, Nat.reduceEqDiff, Nat.reduceAdd, Nat.reduceSub, Nat.reduceMul, Nat.reduceLT, Nat.reduceLeDiff, Nat.reducePow, Nat.reduceDiv, Nat.reduceMod, Int.reduceLT, Int.reduceLE, Int.reduceGT, Int.reduceGE, Int.reduceToNat, Int.reducePow, Int.reduceNeg, Int.reduceBEq, Int.reduceBNe, Int.reduceEq, Int.reduceAdd, Int.reduceSub, Int.reduceMul, cellv, sc, flatv, refs, refsF, refsC, hF.not0, hF.not1, hF.up0, hF.up1, ac28, bvalid_nil]
def ban : List Nat := [98, 97, 110, 97, 110, 97]
def banC : List Nat := [97, 110, 110, 98, 97, 97]
theorem ban_turn : (turnR ban).1 = banC ∧ (turnR ban).2.1 = 4 := by decide
theorem ban_by : By ban := by unfold By; decide
theorem banC_by : By banC := by unfold By; decide
set_option maxRecDepth 100000 in
theorem wakes19_walk {hp : List Blk} {L : Nat} {H d : List Nat} (hF : Fit hp.length L H) : Lrun env (.func 26) [] ⟨hp, L, H, d⟩ = some (.bool true, ⟨hp, L, H, d⟩) := by
  obtain ⟨TB, hTB⟩ : ∃ TB : Blk, TB = .cells 0 true [.int .i64 0, .int .i64 6] := ⟨_, rfl⟩
  obtain ⟨CB, hCB⟩ : ∃ CB : Blk, CB = .cells 0 true [.int .i64 6, .int .i64 6] := ⟨_, rfl⟩
  obtain ⟨BN, hBN⟩ : ∃ BN : Blk, BN = .cells 0 true (u8s ban) := ⟨_, rfl⟩
  have hw : L ≤ hp.length + 3 ∧ L ≤ hp.length + 3 + 1 := by have := hF.1; omega
  have hh1 := hF.not1 3
  have hh2 : H.contains (hp.length + 3 + 1) = false := hF.not1 4
  have hrd : ∀ d, Rd ⟨hp ++ [TB, CB, BN], L, H, d⟩ (.slice (some ⟨hp.length + 2, 0, some 0⟩) 6 1) ban := fun d => Rd.whole (hp := hp ++ [TB, CB, BN]) (b := hp.length + 2) (g := 0) (e := 1) (l := ban) (by rw [get_new]; exact congrArg some hBN) (hF.not1 2) ban_by (.inr rfl)
  have ld := laid19_walk (d := []) (n := 43) (hp := hp ++ [TB, CB, BN]) (L := L) (H := H) (hF.mono (by simp)) (hrd []) (by decide) (by decide)
  have k0 : ArOk (hp.length + 5) (hp.length + 3) (hp.length + 3 + 1) H (rl ban 43) := rl_ok (by omega) (by omega) (by omega) hh1 hh2 ban_by (by decide)
  have lv : (rl ban 43).live = 50 := by rw [rl_live]; rfl
  have hv0 : bValid (rl ban 43) (0 : Nat) ban.length (6 : Nat) ban.length (12 : Nat) (15 : Nat) = true := by
    unfold bValid Arn.has; rw [lv]; decide
  obtain ⟨B1, t1, b1⟩ := bturn_ok (hp := hp ++ [TB, CB, BN, default, default]) (L := L) (H := H) (hF.mono (by simp)) (k0.mono (by simp)) hw (rl_holds ban 43) ban_by hv0
  have lv1 : B1.live = 50 := b1.live.trans lv
  have k1 := b1.ok k0
  have l1 := b1.col.load
  rw [ban_turn.1] at l1
  have lw1 := load_walk (d := []) (hp := hp ++ [TB, CB, BN, default, default]) (r := hp.length + 3) (q := hp.length + 3 + 1) (L := L) (H := H) (hF.mono (by simp)) (k1.mono (by simp)) (6 : Nat) banC.length
  rw [l1] at lw1
  obtain ⟨N1, hN1⟩ : ∃ N1 : Blk, N1 = .cells 6 true (u8s banC) := ⟨_, rfl⟩
  have hv1 : bValid B1 (0 : Nat) ban.length (6 : Nat) ban.length (12 : Nat) (28 : Nat) = true := by
    unfold bValid Arn.has; rw [lv1]; decide
  obtain ⟨B, t2, b2⟩ := bturn_ok (hp := hp ++ [TB, CB, BN, default, default, N1]) (L := L) (H := H) (hF.mono (by simp)) (k1.mono (by simp)) hw b1.text ban_by hv1
  have lvB : B.live = 50 := b2.live.trans lv1
  have kB := b2.ok k1
  have t3 := fun d => bturn_bad (d := d) (hp := hp ++ [TB, CB, BN, default, default, N1]) (L := L) (H := H) (r := hp.length + 3) (q := hp.length + 3 + 1) (A := B) (s := 0) (m := 6) (c := 6) (n := 6) (t := 11) (z := 8) (hF.mono (by simp)) (kB.mono (by simp)) (by unfold bValid Arn.has; rw [lvB]; decide)
  have l2 := b2.col.load
  rw [ban_turn.1] at l2
  have l3 := b2.text.load
  have lw2 := load_walk (d := []) (hp := hp ++ [TB, CB, BN, default, default, N1]) (r := hp.length + 3) (q := hp.length + 3 + 1) (L := L) (H := H) (hF.mono (by simp)) (kB.mono (by simp)) (6 : Nat) banC.length
  rw [l2] at lw2
  have lw3 := fun B0 => load_walk (d := []) (hp := hp ++ [TB, CB, BN, default, default, N1, B0]) (r := hp.length + 3) (q := hp.length + 3 + 1) (L := L) (H := H) (hF.mono (by simp)) (kB.mono (by simp)) (0 : Nat) ban.length
  simp only [l3] at lw3
  have va := fun nw (z : Int) => bvalid_walk (d := []) (hp := hp ++ (TB :: CB :: BN :: default :: default :: nw)) (L := L) (H := H) (r := hp.length + 3) (q := hp.length + 3 + 1) (A := B) (hF.mono (by simp)) (kB.mono (by simp)) 0 6 6 6 12 z
  have va4 : bValid B 0 6 6 6 12 4 = true := by unfold bValid Arn.has; rw [lvB]; decide
  have va3 : bValid B 0 6 6 6 12 3 = false := by unfold bValid Arn.has; rw [lvB]; decide
  have pa1 := fun (hp : List Blk) (L : Nat) (H d : List Nat) (hF : Fit hp.length L H) => bpasses_walk (d := d) hF 6 3 (by omega) (by omega)
  have pa2 := fun (hp : List Blk) (L : Nat) (H d : List Nat) (hF : Fit hp.length L H) => bpasses_walk (d := d) hF 6 0 (by omega) (by omega)
  have pa3 := fun (hp : List Blk) (L : Nat) (H d : List Nat) (hF : Fit hp.length L H) => bpasses_walk (d := d) hF 0 1 (by omega) (by omega)
  have q1 : bPasses 6 3 = 3 := by decide
  have q2 : bPasses 6 0 = 0 := by decide
  have q3 : bPasses 0 1 = 1 := by decide
  have hal : ban.length = 6 := rfl
  have hbl : banC.length = 6 := rfl
  have hx3 : (turnR ban).2.1 = 4 := ban_turn.2
  have hdr : Nat.div 6 (15 / 4) + 1 = 3 := rfl
  have sl1 := sl_some; have slb1 := slB_some
  have st1 : ∀ (nw : List Blk) (d : List Nat), St.str ⟨put (hp ++ (TB :: CB :: BN :: default :: default :: N1 :: nw)) (hp.length + 3) (hp.length + 3 + 1) B1, L, H, d⟩ (.slice (some ⟨hp.length + 5, 0, some 6⟩) 6 1) = some (b8 banC) := fun nw d =>
    (Rd.whole (l := banC) (by rw [put_o (by omega) (by omega), get_new]; exact congrArg some hN1) (hF.not1 5) banC_by (.inr rfl)).str
  have st2 : ∀ (nw : List Blk) (d : List Nat), St.str ⟨put (hp ++ (TB :: CB :: BN :: default :: default :: N1 :: N1 :: nw)) (hp.length + 3) (hp.length + 3 + 1) B, L, H, d⟩ (.slice (some ⟨hp.length + 6, 0, some 6⟩) 6 1) = some (b8 banC) := fun nw d =>
    (Rd.whole (l := banC) (by rw [put_o (by omega) (by omega), get_new]; exact congrArg some hN1) (hF.not1 6) banC_by (.inr rfl)).str
  have st3 : ∀ (B0 : Blk) (nw : List Blk) (d : List Nat), St.str ⟨put (hp ++ (TB :: CB :: BN :: default :: default :: N1 :: B0 :: .cells 6 true (u8s ban) :: nw)) (hp.length + 3) (hp.length + 3 + 1) B, L, H, d⟩ (.slice (some ⟨hp.length + 7, 0, some 6⟩) 6 1) = some (b8 ban) := fun B0 nw d =>
    (Rd.whole (l := ban) (by rw [put_o (by omega) (by omega), get_new]; rfl) (hF.not1 7) ban_by (.inr rfl)).str
  simp only [hal, hbl, hx3, sl_some, slB_some, ← hN1, List.length_append, List.length_cons, List.length_nil, Nat.reduceAdd, Nat.zero_add, List.append_assoc, List.cons_append, List.nil_append, Int.natCast_zero, Int.natCast_one, Int.cast_ofNat_Int, Option.getD_some, Nat.reduceDiv] at ld t1 lw1 t2 t3 lw2 lw3
  have hsC : Value.string ⟨#[97, 110, 110, 98, 97, 97]⟩ = .string ⟨(b8 banC).toArray⟩ := rfl
  have hsB : Value.string ⟨#[98, 97, 110, 97, 110, 97]⟩ = .string ⟨(b8 ban).toArray⟩ := rfl
  have hann : [Value.int .u8 98, .int .u8 97, .int .u8 110, .int .u8 97, .int .u8 110, .int .u8 97] = u8s ban := rfl
  have sm6 : small 6 = true := by decide
  have mkx := markX_some (σ := ⟨hp ++ [TB, CB, BN], L, H, []⟩) (hp.length + 2) 0 0 6 1 (hF.up1 2) (by simp)
  have hr6 : List.replicate 6 (Value.int .u8 0) = [.int .u8 0, .int .u8 0, .int .u8 0, .int .u8 0, .int .u8 0, .int .u8 0] := rfl
  subst hTB hCB hBN
  rw [Lrun_sym 26 _ _ fn26]
  simp (disch := (first | omega | (simp only [lnE, put_length] <;> omega) | (refine Fit.mono ‹Fit _ _ _› ?_ <;> (simp only [lnE, put_length] <;> omega)) | (refine Fit.draw ‹Fit _ _ _› ?_ ?_ <;> (simp only [lnE, put_length] <;> omega)) | (refine Fit.hid1 ‹Fit _ _ _› ?_ ?_ <;> (simp only [lnE, put_length] <;> omega)) | (refine Fit.draw1 ‹Fit _ _ _› ?_ ?_ ?_ <;> (simp only [lnE, put_length] <;> omega)) | (refine Fit.range0 ?_ ?_ <;> (simp only [lnE, put_length] <;> omega)) | (refine ArOk.mono ‹ArOk _ _ _ _ _› ?_ <;> (simp only [lnE, put_length] <;> omega)) | (refine ArOk.hid ‹ArOk _ _ _ _ _› ?_ ?_ <;> (simp only [lnE, put_length] <;> omega)) | (refine ArOk.hid0 ‹ArOk _ _ _ _ _› ?_ ?_ <;> (simp only [lnE, put_length] <;> omega)) | ((intro xr hxr; simp [AM.refs, refsF, refsC] at hxr) <;> (simp only [lnE, put_length] <;> omega)) | fail)) only [syA, syB, argFr, D, E, T, C, undefv, eqF, aeq, sheqs, sheq, rdCells, cellsOf, fill, putAt, if_true, if_false, reduceIte, ↓reduceIte, reduceCtorEq, eq_self, Nat.reduceEqDiff, Nat.reduceAdd, Nat.reduceSub, Nat.reduceMul, Nat.reduceLT, Nat.reduceLeDiff, Nat.reducePow, Nat.reduceDiv, Nat.reduceMod, Int.reduceLT, Int.reduceLE, Int.reduceGT, Int.reduceGE, Int.reduceToNat, Int.reducePow, Int.reduceNeg, Int.reduceBEq, Int.reduceBNe, Int.reduceEq, Int.reduceAdd, Int.reduceSub, Int.reduceMul, cellv, sc, flatv, refs, refsF, refsC, syR, Int.le_refl, hF.not0, hF.not1, hF.up0, hF.up1, ac26, hr6, hal, u8s_sc, mkx, sm6, hann, ld, t1, lw1, t2, t3, bturn_nil, lw2, lw3, va, va3, va4, bvalid_nil, pa1, pa2, pa3, q1, q2, q3, st1, st2, st3, hsC, hsB]
  rw [gc_bool_new (by omega) (by omega) (by simp)]
  simp (disch := (first | omega | (simp only [lnE, put_length] <;> omega) | (refine Fit.mono ‹Fit _ _ _› ?_ <;> (simp only [lnE, put_length] <;> omega)) | (refine Fit.draw ‹Fit _ _ _› ?_ ?_ <;> (simp only [lnE, put_length] <;> omega)) | (refine Fit.hid1 ‹Fit _ _ _› ?_ ?_ <;> (simp only [lnE, put_length] <;> omega)) | (refine Fit.draw1 ‹Fit _ _ _› ?_ ?_ ?_ <;> (simp only [lnE, put_length] <;> omega)) | (refine Fit.range0 ?_ ?_ <;> (simp only [lnE, put_length] <;> omega)) | (refine ArOk.mono ‹ArOk _ _ _ _ _› ?_ <;> (simp only [lnE, put_length] <;> omega)) | (refine ArOk.hid ‹ArOk _ _ _ _ _› ?_ ?_ <;> (simp only [lnE, put_length] <;> omega)) | (refine ArOk.hid0 ‹ArOk _ _ _ _ _› ?_ ?_ <;> (simp only [lnE, put_length] <;> omega)) | ((intro xr hxr; simp [AM.refs, refsF, refsC] at hxr) <;> (simp only [lnE, put_length] <;> omega)) | fail)) only [syA, syB, argFr, D, E, T, C, undefv, eqF, aeq, sheqs, sheq, rdCells, cellsOf, fill, putAt, if_true, if_false, reduceIte, ↓reduceIte, reduceCtorEq, eq_self, Nat.reduceEqDiff, Nat.reduceAdd, Nat.reduceSub, Nat.reduceMul, Nat.reduceLT, Nat.reduceLeDiff, Nat.reducePow, Nat.reduceDiv, Nat.reduceMod, Int.reduceLT, Int.reduceLE, Int.reduceGT, Int.reduceGE, Int.reduceToNat, Int.reducePow, Int.reduceNeg, Int.reduceBEq, Int.reduceBNe, Int.reduceEq, Int.reduceAdd, Int.reduceSub, Int.reduceMul, cellv, sc, flatv, refs, refsF, refsC, syR, Int.le_refl]
end ArA
end Go.Proofs.Ytlphmnhkkhcjfaa
end
