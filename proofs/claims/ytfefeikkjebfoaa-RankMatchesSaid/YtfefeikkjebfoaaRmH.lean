/-
  RANKS: the law against the reference. Conditions: none.
-/
import Derived.Test.YtfefeikkjebfoaaRmG
set_option linter.all false
namespace Go.Proofs.Ytfefeikkjebfoaa
namespace ArA
open Go Go.RowKit AM ArEnv
section
variable {hp nw : List Blk} {L : Nat} {H d : List Nat} {r q r' q' : Nat} {A B : Arn}
theorem rvalid2 (h1 : r ≠ r') (h2 : r ≠ q') (h3 : q ≠ r') (h4 : q ≠ q') (hF : Fit hp.length L H) (k : ArOk hp.length r q H A) (s m t z kk : Int) :
    Lrun env (.func 52) [arP r, .agg #[.int .i64 s, .int .i64 m], .agg #[.int .i64 t, .int .i64 z], .int .i64 kk] ⟨put (put hp r q A) r' q' B, L, H, d⟩ = some (.bool (rValid A s m t z kk), ⟨put (put hp r q A) r' q' B, L, H, d⟩) :=
  tr2 h1 h2 h3 h4 fun hp' hl => rvalid_walk (by rw [hl]; exact hF) (by rw [hl]; exact k) s m t z kk
end
theorem sheqs_ints (f : Nat → Int) : ∀ l : List Nat, sheqs (List.replicate l.length Sh.nu) (l.map fun j => .int .i64 (f j)) (l.map fun j => .int .i64 (f j)) = some true
  | [] => rfl
  | a :: l => by
    simp only [List.length_cons, List.replicate_succ, List.map_cons, sheqs, sheqs_ints f l]
    simp [sheq]
theorem lP_eqs (x : List Nat) : sheqs (List.replicate 256 Sh.nu) (lP x 256) (lP x 256) = some true := by
  have := sheqs_ints (fun j => ((if j < 256 then csm x j else 0 : Nat) : Int)) (List.range 256)
  rw [List.length_range] at this
  exact this
theorem rankm_run {hp : List Blk} {v : Value} {l : List Nat} (hr : Rd ⟨hp, hp.length, [], []⟩ v l) (s m : Int) (hs0 : -9223372036854775808 ≤ s ∧ s ≤ 9223372036854775807 ∧ -9223372036854775808 ≤ m ∧ m ≤ 9223372036854775807) (t z : Int) (ht0 : -9223372036854775808 ≤ t ∧ t ≤ 9223372036854775807 ∧ -9223372036854775808 ≤ z ∧ z ≤ 9223372036854775807) (kk : Int) (hk0 : -9223372036854775808 ≤ kk) (hk1 : kk ≤ 9223372036854775807) (c : Nat) (hc : c < 256) (p : Int) (hp0 : -9223372036854775808 ≤ p) (hp1 : p ≤ 9223372036854775807) (mm : Int) (hmm0 : -9223372036854775808 ≤ mm) (hmm1 : mm ≤ 9223372036854775807) :
    ∃ σ', Lrun env (.func 11) [v, .agg #[.int .i64 s, .int .i64 m], .agg #[.int .i64 t, .int .i64 z], .int .i64 kk, .int .u8 c, .int .i64 p, .int .i64 mm] ⟨hp, hp.length, [], []⟩ = some (.bool true, σ') := by
  have hF : Fit hp.length hp.length [] := ⟨Nat.le_refl _, Low.nil _⟩
  have hlen := hr.lenF
  rw [Lrun_sym 11 _ _ fn11]
  by_cases g0 : l.length = 0
  · have g0' : ((l.length : Int) == 0) = true := by rw [g0]; rfl
    simp (disch := (first | omega | (simp only [lnE] <;> omega) | (refine Fit.mono ‹Fit _ _ _› ?_ <;> (simp only [lnE] <;> omega)) | (refine Fit.draw ‹Fit _ _ _› ?_ ?_ <;> (simp only [lnE] <;> omega)) | (refine Fit.hid1 ‹Fit _ _ _› ?_ ?_ <;> (simp only [lnE] <;> omega)) | (refine Fit.hidc1 ‹Fit _ _ _› ?_ ?_ <;> (simp only [lnE] <;> omega)) | (refine Fit.hidc2 ‹Fit _ _ _› ?_ ?_ ?_ <;> (simp only [lnE] <;> omega)) | (refine Fit.draw1 ‹Fit _ _ _› ?_ ?_ ?_ <;> (simp only [lnE] <;> omega)) | (refine Fit.range0 ?_ ?_ <;> (simp only [lnE] <;> omega)) | fail)) only [syA, syB, argFr, D, E, T, C, undefv, eqF, aeq, sheqs, sheq, rdCells, cellsOf, fill, putAt, if_true, if_false, reduceIte, ↓reduceIte, reduceCtorEq, eq_self, Nat.reduceEqDiff, Nat.reduceAdd, Nat.reduceSub, Nat.reduceMul, Nat.reduceLT, Nat.reduceLeDiff, Nat.reducePow, Nat.reduceDiv, Nat.reduceMod, Int.reduceLT, Int.reduceLE, Int.reduceGT, Int.reduceGE, Int.reduceToNat, Int.reducePow, Int.reduceNeg, Int.reduceBEq, Int.reduceBNe, Int.reduceEq, Int.reduceAdd, Int.reduceSub, Int.reduceMul, cellv, sc, flatv, refs, refsF, refsC, hF.not0, hF.not1, hF.up0, hF.up1, ac11, hlen, g0', wakes20_walk]
    exact ⟨_, rfl⟩
  have g0' : ((l.length : Int) == 0) = false := by rw [beq_eq_false_iff_ne]; omega
  by_cases g1 : (l.length : Int) > 6000
  · simp (disch := (first | omega | (simp only [lnE] <;> omega) | (refine Fit.mono ‹Fit _ _ _› ?_ <;> (simp only [lnE] <;> omega)) | (refine Fit.draw ‹Fit _ _ _› ?_ ?_ <;> (simp only [lnE] <;> omega)) | (refine Fit.hid1 ‹Fit _ _ _› ?_ ?_ <;> (simp only [lnE] <;> omega)) | (refine Fit.hidc1 ‹Fit _ _ _› ?_ ?_ <;> (simp only [lnE] <;> omega)) | (refine Fit.hidc2 ‹Fit _ _ _› ?_ ?_ ?_ <;> (simp only [lnE] <;> omega)) | (refine Fit.draw1 ‹Fit _ _ _› ?_ ?_ ?_ <;> (simp only [lnE] <;> omega)) | (refine Fit.range0 ?_ ?_ <;> (simp only [lnE] <;> omega)) | fail)) only [syA, syB, argFr, D, E, T, C, undefv, eqF, aeq, sheqs, sheq, rdCells, cellsOf, fill, putAt, if_true, if_false, reduceIte, ↓reduceIte, reduceCtorEq, eq_self, Nat.reduceEqDiff, Nat.reduceAdd, Nat.reduceSub, Nat.reduceMul, Nat.reduceLT, Nat.reduceLeDiff, Nat.reducePow, Nat.reduceDiv, Nat.reduceMod, Int.reduceLT, Int.reduceLE, Int.reduceGT, Int.reduceGE, Int.reduceToNat, Int.reducePow, Int.reduceNeg, Int.reduceBEq, Int.reduceBNe, Int.reduceEq, Int.reduceAdd, Int.reduceSub, Int.reduceMul, cellv, sc, flatv, refs, refsF, refsC, hF.not0, hF.not1, hF.up0, hF.up1, ac11, hlen, g0', g1, wakes20_walk]
    exact ⟨_, rfl⟩
  have hby := hr.by_
  have kA : ArOk (hp.length + 6) (hp.length + 2) (hp.length + 3) [] (Arn.laid l.length l) := ArOk.laid (by omega) (by omega) (by omega) hby (Nat.le_refl _) (by omega) rfl rfl
  have kB : ArOk (hp.length + 6) (hp.length + 4) (hp.length + 5) [] (Arn.all l) := ⟨by omega, by omega, by omega, hby, by simp [Arn.all], by simp [Arn.all], by simp [Arn.all], by simp [Arn.all], by simp [Arn.all]; omega, rfl, rfl⟩
  have hbs : (Arn.all l).bs = (Arn.laid l.length l).bs := by simp [Arn.all, Arn.laid]
  have hlv : (Arn.all l).live = (Arn.laid l.length l).live := by simp [Arn.all, Arn.laid]
  have hbl : (Arn.laid l.length l).bs.length = l.length := laid_len (Nat.le_refl _)
  have hal : (Arn.laid l.length l).live = l.length := rfl
  have hl1 := kA.live1
  obtain ⟨n1, sc1, ok1, ra1, rb1⟩ := rank_both hbs hlv hl1 (by omega) s m t z kk p hc
  obtain ⟨x, la, lb⟩ := less_both hbs hlv hl1 (by omega) kA.by_ s m
  have hl2 : (hp ++ [Blk.cells 0 true [.int .i64 s, .int .i64 m], Blk.cells 0 true [.int .i64 t, .int .i64 z]]).length = hp.length + 2 := by simp
  have bw := both_walk (d := []) (hp := hp ++ [.cells 0 true [.int .i64 s, .int .i64 m], .cells 0 true [.int .i64 t, .int .i64 z]]) (L := hp.length) (H := []) (hF.mono (by simp)) hr.app (by omega) (by omega)
  rw [hl2, List.append_assoc] at bw
  have bw' : Lrun env (.func 47) [v] ⟨hp ++ [.cells 0 true [.int .i64 s, .int .i64 m], .cells 0 true [.int .i64 t, .int .i64 z]], hp.length, [], []⟩ =
      some (.tuple #[arP (hp.length + 2), arP (hp.length + 4)], ⟨put (put (hp ++ [.cells 0 true [.int .i64 s, .int .i64 m], .cells 0 true [.int .i64 t, .int .i64 z], default, default, default, default]) (hp.length + 2) (hp.length + 3) (Arn.laid l.length l)) (hp.length + 4) (hp.length + 5) (Arn.all l), hp.length, [], []⟩) := bw
  clear bw
  obtain ⟨e, A2, B2, mk1, mk2, b2bs, a2lv, b2lv, a2len, a2by, a2ok, b2ok⟩ := make_both (hp := hp ++ [.cells 0 true [.int .i64 s, .int .i64 m], .cells 0 true [.int .i64 t, .int .i64 z], default, default, default, default, .cells 0 true [.int .i64 0, .int .i64 l.length]]) (L := hp.length) (H := [hp.length + 1, hp.length]) (r := hp.length + 2) (q := hp.length + 3) (r' := hp.length + 4) (q' := hp.length + 5) (Fit.hidc2 hF (by simp) (by simp) (by simp)) (ArA.ArOk.re kA (by simp) (by simp) (by simp)) (ArA.ArOk.re kB (by simp) (by simp) (by simp)) (by omega) (by omega) (by omega) (by omega) (by omega) (by omega) hbs hlv s m t z kk
  have kA2 := a2ok _ _ kA
  have kB2 := b2ok _ _ kB
  obtain ⟨n2, sc2, ok2, ra2, rb2⟩ := rank_both (A := A2) (B := B2) b2bs (by rw [a2lv, b2lv, hlv]) (by rw [a2lv, a2len]; exact hl1) (by omega) s m t z kk p hc
  have hlo : A2.loadO 0 l.length = some A2.bs := by
    unfold Arn.loadO
    rw [if_pos (by rw [Arn.has_iff, a2lv, hal]; omega)]
    congr 1
    rw [Int.toNat_zero, List.drop_zero, Int.toNat_natCast, List.take_of_length_le (by omega)]
  have ra1' : ∀ (nw : List Blk) (L : Nat) (H d : List Nat), Fit (hp ++ nw).length L H → ArOk (hp ++ nw).length (hp.length + 2) (hp.length + 3) H (Arn.laid l.length l) →
    Lrun env (.func 48) [arP (hp.length + 2), .agg #[.int .i64 s, .int .i64 m], .agg #[.int .i64 t, .int .i64 z], .int .i64 kk, .int .u8 c, .int .i64 p] ⟨put (put (hp ++ nw) (hp.length + 2) (hp.length + 3) (Arn.laid l.length l)) (hp.length + 4) (hp.length + 5) (Arn.all l), L, H, d⟩ = some (.tuple #[.int .i64 n1, .int .i64 sc1, .bool ok1], ⟨put (put (hp ++ nw) (hp.length + 2) (hp.length + 3) (Arn.laid l.length l)) (hp.length + 4) (hp.length + 5) (Arn.all l), L, H, d⟩) :=
    fun nw L H d hF k => tr2 (by omega) (by omega) (by omega) (by omega) fun hp' hl => ra1 (by rw [hl]; exact hF) (by rw [hl]; exact k)
  have ra2' : ∀ (nw : List Blk) (L : Nat) (H d : List Nat), Fit (hp ++ nw).length L H → ArOk (hp ++ nw).length (hp.length + 2) (hp.length + 3) H A2 →
    Lrun env (.func 48) [arP (hp.length + 2), .agg #[.int .i64 s, .int .i64 m], .agg #[.int .i64 t, .int .i64 z], .int .i64 kk, .int .u8 c, .int .i64 p] ⟨put (put (hp ++ nw) (hp.length + 2) (hp.length + 3) A2) (hp.length + 4) (hp.length + 5) B2, L, H, d⟩ = some (.tuple #[.int .i64 n2, .int .i64 sc2, .bool ok2], ⟨put (put (hp ++ nw) (hp.length + 2) (hp.length + 3) A2) (hp.length + 4) (hp.length + 5) B2, L, H, d⟩) :=
    fun nw L H d hF k => tr2 (by omega) (by omega) (by omega) (by omega) fun hp' hl => ra2 (by rw [hl]; exact hF) (by rw [hl]; exact k)
  have la' : ∀ (nw : List Blk) (L : Nat) (H d : List Nat), Fit (hp ++ nw).length L H → ArOk (hp ++ nw).length (hp.length + 2) (hp.length + 3) H (Arn.laid l.length l) →
    Lrun env (.func 54) [arP (hp.length + 2), .agg #[.int .i64 s, .int .i64 m]] ⟨put (put (hp ++ nw) (hp.length + 2) (hp.length + 3) (Arn.laid l.length l)) (hp.length + 4) (hp.length + 5) (Arn.all l), L, H, d⟩ = some (.agg (lP x 256).toArray, ⟨put (put (hp ++ nw) (hp.length + 2) (hp.length + 3) (Arn.laid l.length l)) (hp.length + 4) (hp.length + 5) (Arn.all l), L, H, d⟩) :=
    fun nw L H d hF k => tr2 (by omega) (by omega) (by omega) (by omega) fun hp' hl => la (by rw [hl]; exact hF) (by rw [hl]; exact k)
  have hvB : ∀ s m t z kk, rValid (Arn.all l) s m t z kk = rValid (Arn.laid l.length l) s m t z kk := fun s m t z kk => rValid_live hlv s m t z kk
  have a2l : A2.bs.length = l.length := by omega
  have b2l : B2.bs.length = l.length := by rw [b2bs]; omega
  have htk2 : (u8s A2.bs).take l.length = u8s A2.bs := by rw [← a2l, take_u8s]
  have hum : (u8s A2.bs).length = l.length := by rw [u8s_length, a2l]
  simp (disch := (first | omega | (simp only [lnE, put_length] <;> omega) | (refine Fit.mono ‹Fit _ _ _› ?_ <;> (simp only [lnE, put_length] <;> omega)) | (refine Fit.draw ‹Fit _ _ _› ?_ ?_ <;> (simp only [lnE, put_length] <;> omega)) | (refine Fit.hid1 ‹Fit _ _ _› ?_ ?_ <;> (simp only [lnE, put_length] <;> omega)) | (refine Fit.hidc1 ‹Fit _ _ _› ?_ ?_ <;> (simp only [lnE, put_length] <;> omega)) | (refine Fit.hidc2 ‹Fit _ _ _› ?_ ?_ ?_ <;> (simp only [lnE, put_length] <;> omega)) | (refine Fit.draw1 ‹Fit _ _ _› ?_ ?_ ?_ <;> (simp only [lnE, put_length] <;> omega)) | (refine Fit.range0 ?_ ?_ <;> (simp only [lnE, put_length] <;> omega)) | (refine ArOk.mono ‹ArOk _ _ _ _ _› ?_ <;> (simp only [lnE, put_length] <;> omega)) | (refine ArOk.hid ‹ArOk _ _ _ _ _› ?_ ?_ <;> (simp only [lnE, put_length] <;> omega)) | (refine ArOk.hid0 ‹ArOk _ _ _ _ _› ?_ ?_ <;> (simp only [lnE, put_length] <;> omega)) | ((intro xr hxr; simp [AM.refs, refsF, refsC] at hxr) <;> (simp only [lnE, put_length] <;> omega)) | fail)) only [syA, syB, argFr, D, E, T, C, undefv, eqF, aeq, sheqs, sheq, rdCells, cellsOf, fill, putAt, if_true, if_false, reduceIte, ↓reduceIte, reduceCtorEq, eq_self, Nat.reduceEqDiff, Nat.reduceAdd, Nat.reduceSub, Nat.reduceMul, Nat.reduceLT, Nat.reduceLeDiff, Nat.reducePow, Nat.reduceDiv, Nat.reduceMod, Int.reduceLT, Int.reduceLE, Int.reduceGT, Int.reduceGE, Int.reduceToNat, Int.reducePow, Int.reduceNeg, Int.reduceBEq, Int.reduceBNe, Int.reduceEq, Int.reduceAdd, Int.reduceSub, Int.reduceMul, cellv, sc, flatv, refs, refsF, refsC, syR, Int.le_refl, hF.not0, hF.not1, hF.up0, hF.up1, ac11, hlen, g0', g1, bw', ra1', rb1, size_walk, rsize_walk, rvalid2, rfvalid_walk, hvB, la', lb, mk1, mk2, ra2', rb2, wakes20_walk, lP_eqs, load2, hlo, Option.getD_some, a2l, b2l, b2bs, htk2, hum, sl_some, slB_some]
  exact gc_bool _ _ _ _ _ _
end ArA
end Go.Proofs.Ytfefeikkjebfoaa
