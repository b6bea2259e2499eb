/-
  BwtBucketPlaced: the loop that takes the spans, on the abstract machine. Conditions: none.
-/
import Derived.Test.YtlphmnhkkhcjfaaHbR
set_option linter.all false
namespace Go.Proofs.Ytlphmnhkkhcjfaa
namespace ArA
open Go Go.RowKit AM ArEnv
theorem gcFr_cut19 {hp nw : List Blk} {fr : Fr} {L r q : Nat} {H : List Nat} {A : Arn} (hr : r < hp.length) (hq : q < hp.length) (k : Nat) (hk : k ≤ nw.length) (hv : ∀ p ∈ fr, ∀ x ∈ refs p.2, x < hp.length + k) :
    gcFr (hp.length + k) fr ⟨put (hp ++ nw) r q A, L, H, []⟩ = some (fr, ⟨put (hp ++ nw.take k) r q A, L, H, []⟩) := by
  rw [← put_app hr hq, ← put_app hr hq]
  have := gcFr_cut (hp := put hp r q A) (nw := nw) (fr := fr) (L := L) (H := H) k hk (by rw [put_length]; exact hv)
  rwa [put_length] at this
theorem tmod_three (a : Int) : ∃ fm : Int, Int.tmod a 3 = fm ∧ -2 ≤ fm ∧ fm ≤ 2 := by
  refine ⟨_, rfl, ?_, ?_⟩
  · rcases Int.le_total 0 a with h | h
    · have := Int.tmod_nonneg 3 h; omega
    · have h1 := Int.tmod_nonneg 3 (a := -a) (by omega)
      have h2 := Int.tmod_lt_of_pos (-a) (b := 3) (by omega)
      rw [Int.neg_tmod] at h2
      omega
  · have := Int.tmod_lt_of_pos a (b := 3) (by omega); omega
def zs6 (T : Nat) : Arn := Arn.laid 600 (List.replicate T 0)
theorem zs6_ok {T n r q : Nat} (h : T ≤ 600) (hr : r < n) (hq : q < n) (hne : r ≠ q) : ArOk n r q [] (zs6 T) :=
  ArOk.laid hr hq hne (fun x hx => by rw [List.mem_replicate] at hx; omega) (by simp; exact h) (by omega) rfl rfl
theorem zs6_taken {T n : Nat} (h : T + n ≤ 600) : (zs6 T).taken n = (zs6 (T + n), (T : Int), (n : Int), 0) := by
  have := laid_taken (N := 600) (l := List.replicate T 0) (m := n) (by simp; exact h)
  rw [List.replicate_append_replicate, List.length_replicate] at this
  exact this
set_option maxRecDepth 40000 in
theorem placed_step {hp : List Blk} {v : Value} {a0 a1 a2 a3 a4 a5 : Int} {m z btw tt i k sz : Nat} {first room fm k0 : Int} (hT : tt + sz + btw ≤ 600) (hi : i < 3) (hk : k < 3) (h1 : Int.tmod first 3 = fm) (h2 : -2 ≤ fm ∧ fm ≤ 2) (h3 : Int.tmod (fm + 3) 3 = k0) (h4 : 0 ≤ k0 ∧ k0 ≤ 2) (h5 : Int.tmod (k0 + i) 3 = k)
    (hsz : [m, m, z][k]? = some sz) (hb : btw ≤ 20) (hs : sz ≤ 400) (hv : ∀ x ∈ refs v, x < hp.length) :
    Liter env lb8_0 [12, 3, 10, 9, 2, 1, 0, 13] (hp.length + 4) [(12, .pointer (some ⟨hp.length + 3, 0, some 0⟩)), (3, .int .i64 btw), (10, arP (hp.length + 1)), (9, .pointer (some ⟨hp.length, 0, some 0⟩)), (2, .int .i64 first), (1, .int .i64 room), (0, v), (13, .int .i64 i)]
      ⟨put (hp ++ [.cells 0 true [.int .i64 m, .int .i64 m, .int .i64 z], default, default, .cells 0 true [.int .i64 a0, .int .i64 a1, .int .i64 a2, .int .i64 a3, .int .i64 a4, .int .i64 a5]]) (hp.length + 1) (hp.length + 1 + 1) (zs6 tt), hp.length, [], []⟩ =
    Liter env lb8_0 [12, 3, 10, 9, 2, 1, 0, 13] (hp.length + 4) [(12, .pointer (some ⟨hp.length + 3, 0, some 0⟩)), (3, .int .i64 btw), (10, arP (hp.length + 1)), (9, .pointer (some ⟨hp.length, 0, some 0⟩)), (2, .int .i64 first), (1, .int .i64 room), (0, v), (13, .int .i64 (i + 1 : Nat))]
      ⟨put (hp ++ [.cells 0 true [.int .i64 m, .int .i64 m, .int .i64 z], default, default, .cells 0 true (putAt [.int .i64 a0, .int .i64 a1, .int .i64 a2, .int .i64 a3, .int .i64 a4, .int .i64 a5] (k * 2) [.int .i64 tt, .int .i64 sz])]) (hp.length + 1) (hp.length + 1 + 1) (zs6 (tt + sz + btw)), hp.length, [], []⟩ := by
  have hF : Fit hp.length hp.length [] := ⟨Nat.le_refl _, Low.nil _⟩
  have hw : hp.length ≤ hp.length + 1 ∧ hp.length ≤ hp.length + 1 + 1 := by omega
  have tk1 := fun (B0 B1 : Blk) nw => take_walk (d := []) (L := hp.length) (H := []) (hp := hp ++ (B0 :: default :: default :: B1 :: nw)) (r := hp.length + 1) (q := hp.length + 1 + 1) (hF.mono (by simp)) (zs6_ok (T := tt) (by omega) (by simp) (by simp; omega) (by omega)) hw sz
  have tk2 := fun (B0 B1 : Blk) nw => take_walk (d := []) (L := hp.length) (H := []) (hp := hp ++ (B0 :: default :: default :: B1 :: nw)) (r := hp.length + 1) (q := hp.length + 1 + 1) (hF.mono (by simp)) (zs6_ok (T := tt + sz) (by omega) (by simp) (by simp; omega) (by omega)) hw btw
  simp only [zs6_taken (show tt + sz ≤ 600 by omega)] at tk1
  simp only [zs6_taken (show tt + sz + btw ≤ 600 by omega)] at tk2
  have c1 : (i : Int) < 3 := by omega
  have c2 : ((i : Nat) : Int) + 1 = ((i + 1 : Nat) : Int) := by omega
  have hg := gcFr_cut19 (hp := hp ++ [.cells 0 true [.int .i64 m, .int .i64 m, .int .i64 z], default, default, .cells 0 true (putAt [.int .i64 a0, .int .i64 a1, .int .i64 a2, .int .i64 a3, .int .i64 a4, .int .i64 a5] (k * 2) [.int .i64 tt, .int .i64 sz])]) (L := hp.length) (H := []) (A := zs6 (tt + sz + btw)) (r := hp.length + 1) (q := hp.length + 1 + 1)
    (nw := [.cells 0 true [.int .i64 tt, .int .i64 sz], .cells 0 true [.int .i64 (tt + sz : Nat), .int .i64 btw]])
    (fr := [(12, .pointer (some ⟨hp.length + 3, 0, some 0⟩)), (3, .int .i64 btw), (10, arP (hp.length + 1)), (9, .pointer (some ⟨hp.length, 0, some 0⟩)), (2, .int .i64 first), (1, .int .i64 room), (0, v), (13, .int .i64 (i + 1 : Nat))]) (by simp) (by simp) 0 (by simp) (by
      simp [refs, refsF, refsC, arP]
      intro x hx
      have := hv x hx
      omega)
  simp only [List.length_append, List.length_cons, List.length_nil, Nat.reduceAdd, Nat.zero_add, Nat.add_zero, List.append_assoc, List.cons_append, List.nil_append, List.take_zero] at hg
  rw [iter_by lb8_0.eq_1]
  rcases (by omega : k = 0 ∨ k = 1 ∨ k = 2) with rfl | rfl | rfl
  · simp only [List.getElem?_cons_zero, List.getElem?_cons_succ, Option.some.injEq] at hsz
    subst hsz
    simp only [putAt, Nat.zero_mul, Nat.one_mul, Nat.reduceMul, Nat.reduceAdd, Nat.zero_add, List.set_cons_zero, List.set_cons_succ] at hg
    simp (disch := (first | omega | (simp only [lnE, put_length] <;> omega) | (refine Fit.mono ‹Fit _ _ _› ?_ <;> (simp only [lnE, put_length] <;> omega)) | (refine Fit.draw ‹Fit _ _ _› ?_ ?_ <;> (simp only [lnE, put_length] <;> omega)) | (refine Fit.hid1 ‹Fit _ _ _› ?_ ?_ <;> (simp only [lnE, put_length] <;> omega)) | (refine Fit.draw1 ‹Fit _ _ _› ?_ ?_ ?_ <;> (simp only [lnE, put_length] <;> omega)) | (refine Fit.range0 ?_ ?_ <;> (simp only [lnE, put_length] <;> omega)) | (refine ArOk.mono ‹ArOk _ _ _ _ _› ?_ <;> (simp only [lnE, put_length] <;> omega)) | (refine ArOk.hid ‹ArOk _ _ _ _ _› ?_ ?_ <;> (simp only [lnE, put_length] <;> omega)) | (refine ArOk.hid0 ‹ArOk _ _ _ _ _› ?_ ?_ <;> (simp only [lnE, put_length] <;> omega)) | ((intro xr hxr; simp [AM.refs, refsF, refsC] at hxr) <;> (simp only [lnE, put_length] <;> omega)) | fail)) only [syA, syB, argFr, D, E, T, C, undefv, eqF, aeq, sheqs, sheq, rdCells, cellsOf, fill, putAt, if_true, if_false, reduceIte, ↓reduceIte, reduceCtorEq, eq_self, Nat.reduceEqDiff, Nat.reduceAdd, Nat.reduceSub, Nat.reduceMul, Nat.reduceLT, Nat.reduceLeDiff, Nat.reducePow, Nat.reduceDiv, Nat.reduceMod, Int.reduceLT, Int.reduceLE, Int.reduceGT, Int.reduceGE, Int.reduceToNat, Int.reducePow, Int.reduceNeg, Int.reduceBEq, Int.reduceBNe, Int.reduceEq, Int.reduceAdd, Int.reduceSub, Int.reduceMul, cellv, sc, flatv, refs, refsF, refsC, syR, Int.le_refl, hF.not0, hF.not1, hF.up0, hF.up1, c1, c2, h1, h3, h5, tk1, tk2, hg]
  · simp only [List.getElem?_cons_zero, List.getElem?_cons_succ, Option.some.injEq] at hsz
    subst hsz
    simp only [putAt, Nat.zero_mul, Nat.one_mul, Nat.reduceMul, Nat.reduceAdd, Nat.zero_add, List.set_cons_zero, List.set_cons_succ] at hg
    simp (disch := (first | omega | (simp only [lnE, put_length] <;> omega) | (refine Fit.mono ‹Fit _ _ _› ?_ <;> (simp only [lnE, put_length] <;> omega)) | (refine Fit.draw ‹Fit _ _ _› ?_ ?_ <;> (simp only [lnE, put_length] <;> omega)) | (refine Fit.hid1 ‹Fit _ _ _› ?_ ?_ <;> (simp only [lnE, put_length] <;> omega)) | (refine Fit.draw1 ‹Fit _ _ _› ?_ ?_ ?_ <;> (simp only [lnE, put_length] <;> omega)) | (refine Fit.range0 ?_ ?_ <;> (simp only [lnE, put_length] <;> omega)) | (refine ArOk.mono ‹ArOk _ _ _ _ _› ?_ <;> (simp only [lnE, put_length] <;> omega)) | (refine ArOk.hid ‹ArOk _ _ _ _ _› ?_ ?_ <;> (simp only [lnE, put_length] <;> omega)) | (refine ArOk.hid0 ‹ArOk _ _ _ _ _› ?_ ?_ <;> (simp only [lnE, put_length] <;> omega)) | ((intro xr hxr; simp [AM.refs, refsF, refsC] at hxr) <;> (simp only [lnE, put_length] <;> omega)) | fail)) only [syA, syB, argFr, D, E, T, C, undefv, eqF, aeq, sheqs, sheq, rdCells, cellsOf, fill, putAt, if_true, if_false, reduceIte, ↓reduceIte, reduceCtorEq, eq_self, Nat.reduceEqDiff, Nat.reduceAdd, Nat.reduceSub, Nat.reduceMul, Nat.reduceLT, Nat.reduceLeDiff, Nat.reducePow, Nat.reduceDiv, Nat.reduceMod, Int.reduceLT, Int.reduceLE, Int.reduceGT, Int.reduceGE, Int.reduceToNat, Int.reducePow, Int.reduceNeg, Int.reduceBEq, Int.reduceBNe, Int.reduceEq, Int.reduceAdd, Int.reduceSub, Int.reduceMul, cellv, sc, flatv, refs, refsF, refsC, syR, Int.le_refl, hF.not0, hF.not1, hF.up0, hF.up1, c1, c2, h1, h3, h5, tk1, tk2, hg]
  · simp only [List.getElem?_cons_zero, List.getElem?_cons_succ, Option.some.injEq] at hsz
    subst hsz
    simp only [putAt, Nat.zero_mul, Nat.one_mul, Nat.reduceMul, Nat.reduceAdd, Nat.zero_add, List.set_cons_zero, List.set_cons_succ] at hg
    simp (disch := (first | omega | (simp only [lnE, put_length] <;> omega) | (refine Fit.mono ‹Fit _ _ _› ?_ <;> (simp only [lnE, put_length] <;> omega)) | (refine Fit.draw ‹Fit _ _ _› ?_ ?_ <;> (simp only [lnE, put_length] <;> omega)) | (refine Fit.hid1 ‹Fit _ _ _› ?_ ?_ <;> (simp only [lnE, put_length] <;> omega)) | (refine Fit.draw1 ‹Fit _ _ _› ?_ ?_ ?_ <;> (simp only [lnE, put_length] <;> omega)) | (refine Fit.range0 ?_ ?_ <;> (simp only [lnE, put_length] <;> omega)) | (refine ArOk.mono ‹ArOk _ _ _ _ _› ?_ <;> (simp only [lnE, put_length] <;> omega)) | (refine ArOk.hid ‹ArOk _ _ _ _ _› ?_ ?_ <;> (simp only [lnE, put_length] <;> omega)) | (refine ArOk.hid0 ‹ArOk _ _ _ _ _› ?_ ?_ <;> (simp only [lnE, put_length] <;> omega)) | ((intro xr hxr; simp [AM.refs, refsF, refsC] at hxr) <;> (simp only [lnE, put_length] <;> omega)) | fail)) only [syA, syB, argFr, D, E, T, C, undefv, eqF, aeq, sheqs, sheq, rdCells, cellsOf, fill, putAt, if_true, if_false, reduceIte, ↓reduceIte, reduceCtorEq, eq_self, Nat.reduceEqDiff, Nat.reduceAdd, Nat.reduceSub, Nat.reduceMul, Nat.reduceLT, Nat.reduceLeDiff, Nat.reducePow, Nat.reduceDiv, Nat.reduceMod, Int.reduceLT, Int.reduceLE, Int.reduceGT, Int.reduceGE, Int.reduceToNat, Int.reducePow, Int.reduceNeg, Int.reduceBEq, Int.reduceBNe, Int.reduceEq, Int.reduceAdd, Int.reduceSub, Int.reduceMul, cellv, sc, flatv, refs, refsF, refsC, syR, Int.le_refl, hF.not0, hF.not1, hF.up0, hF.up1, c1, c2, h1, h3, h5, tk1, tk2, hg]
theorem placed_end {hp : List Blk} {v : Value} {btw : Nat} {first room : Int} {h : List Blk} :
    Liter env lb8_0 [12, 3, 10, 9, 2, 1, 0, 13] (hp.length + 4) [(12, .pointer (some ⟨hp.length + 3, 0, some 0⟩)), (3, .int .i64 btw), (10, arP (hp.length + 1)), (9, .pointer (some ⟨hp.length, 0, some 0⟩)), (2, .int .i64 first), (1, .int .i64 room), (0, v), (13, .int .i64 3)] ⟨h, hp.length, [], []⟩ =
      some (.exit 0, [(68, .bool false), (67, .int .i64 3), (12, .pointer (some ⟨hp.length + 3, 0, some 0⟩)), (3, .int .i64 btw), (10, arP (hp.length + 1)), (9, .pointer (some ⟨hp.length, 0, some 0⟩)), (2, .int .i64 first), (1, .int .i64 room), (0, v), (13, .int .i64 3)], ⟨h, hp.length, [], []⟩) := by
  rw [iter_by lb8_0.eq_1]
  simp (disch := (first | omega | (simp only [lnE, put_length] <;> omega) | (refine Fit.mono ‹Fit _ _ _› ?_ <;> (simp only [lnE, put_length] <;> omega)) | (refine Fit.draw ‹Fit _ _ _› ?_ ?_ <;> (simp only [lnE, put_length] <;> omega)) | (refine Fit.hid1 ‹Fit _ _ _› ?_ ?_ <;> (simp only [lnE, put_length] <;> omega)) | (refine Fit.draw1 ‹Fit _ _ _› ?_ ?_ ?_ <;> (simp only [lnE, put_length] <;> omega)) | (refine Fit.range0 ?_ ?_ <;> (simp only [lnE, put_length] <;> omega)) | (refine ArOk.mono ‹ArOk _ _ _ _ _› ?_ <;> (simp only [lnE, put_length] <;> omega)) | (refine ArOk.hid ‹ArOk _ _ _ _ _› ?_ ?_ <;> (simp only [lnE, put_length] <;> omega)) | (refine ArOk.hid0 ‹ArOk _ _ _ _ _› ?_ ?_ <;> (simp only [lnE, put_length] <;> omega)) | ((intro xr hxr; simp [AM.refs, refsF, refsC] at hxr) <;> (simp only [lnE, put_length] <;> omega)) | fail)) only [syA, syB, argFr, D, E, T, C, undefv, eqF, aeq, sheqs, sheq, rdCells, cellsOf, fill, putAt, if_true, if_false, reduceIte, ↓reduceIte, reduceCtorEq, eq_self, Nat.reduceEqDiff, Nat.reduceAdd, Nat.reduceSub, Nat.reduceMul, Nat.reduceLT, Nat.reduceLeDiff, Nat.reducePow, Nat.reduceDiv, Nat.reduceMod, Int.reduceLT, Int.reduceLE, Int.reduceGT, Int.reduceGE, Int.reduceToNat, Int.reducePow, Int.reduceNeg, Int.reduceBEq, Int.reduceBNe, Int.reduceEq, Int.reduceAdd, Int.reduceSub, Int.reduceMul, cellv, sc, flatv, refs, refsF, refsC, syR, Int.le_refl]
/-- The spans that the loop takes, whatever the order. -/
theorem placed_loop {hp : List Blk} {v : Value} {m z btw : Nat} (first room : Int) (hm : m ≤ 60) (hz : z ≤ 280) (hb : btw ≤ 20) (hv : ∀ x ∈ refs v, x < hp.length) : ∃ s c t T : Nat,
    Liter env lb8_0 [12, 3, 10, 9, 2, 1, 0, 13] (hp.length + 4) [(12, .pointer (some ⟨hp.length + 3, 0, some 0⟩)), (3, .int .i64 btw), (10, arP (hp.length + 1)), (9, .pointer (some ⟨hp.length, 0, some 0⟩)), (2, .int .i64 first), (1, .int .i64 room), (0, v), (13, .int .i64 0)]
      ⟨put (hp ++ [.cells 0 true [.int .i64 m, .int .i64 m, .int .i64 z], default, default, .cells 0 true [.int .i64 0, .int .i64 0, .int .i64 0, .int .i64 0, .int .i64 0, .int .i64 0]]) (hp.length + 1) (hp.length + 1 + 1) (zs6 0), hp.length, [], []⟩ =
      some (.exit 0, [(68, .bool false), (67, .int .i64 3), (12, .pointer (some ⟨hp.length + 3, 0, some 0⟩)), (3, .int .i64 btw), (10, arP (hp.length + 1)), (9, .pointer (some ⟨hp.length, 0, some 0⟩)), (2, .int .i64 first), (1, .int .i64 room), (0, v), (13, .int .i64 3)],
        ⟨put (hp ++ [.cells 0 true [.int .i64 m, .int .i64 m, .int .i64 z], default, default, .cells 0 true [.int .i64 s, .int .i64 m, .int .i64 c, .int .i64 m, .int .i64 t, .int .i64 z]]) (hp.length + 1) (hp.length + 1 + 1) (zs6 T), hp.length, [], []⟩) ∧
      T ≤ 600 ∧ s + m ≤ T ∧ c + m ≤ T ∧ t + z ≤ T ∧ (s + m ≤ c ∨ c + m ≤ s) ∧ (s + m ≤ t ∨ t + z ≤ s) ∧ (c + m ≤ t ∨ t + z ≤ c) := by
  obtain ⟨fm, h1, h2, h2'⟩ := tmod_three first
  have h3 : Int.tmod (fm + 3) 3 = 0 ∨ Int.tmod (fm + 3) 3 = 1 ∨ Int.tmod (fm + 3) 3 = 2 := by
    obtain rfl | rfl | rfl | rfl | rfl : fm = -2 ∨ fm = -1 ∨ fm = 0 ∨ fm = 1 ∨ fm = 2 := by omega
    all_goals decide
  rcases h3 with h3 | h3 | h3
  · refine ⟨0, m + btw, m + btw + m + btw, m + btw + m + btw + z + btw, ?_, by omega, by omega, by omega, by omega, by omega, by omega, by omega⟩
    have e1 := placed_step (hp := hp) (v := v) (a0 := 0) (a1 := 0) (a2 := 0) (a3 := 0) (a4 := 0) (a5 := 0) (m := m) (z := z) (btw := btw) (tt := 0) (i := 0) (k := 0) (sz := m) (first := first) (room := room) (by omega) (by omega) (by omega) h1 ⟨h2, h2'⟩ h3 (by omega) (by decide) rfl hb (by omega) hv
    have e2 := placed_step (hp := hp) (v := v) (a0 := 0) (a1 := m) (a2 := 0) (a3 := 0) (a4 := 0) (a5 := 0) (m := m) (z := z) (btw := btw) (tt := m + btw) (i := 1) (k := 1) (sz := m) (first := first) (room := room) (by omega) (by omega) (by omega) h1 ⟨h2, h2'⟩ h3 (by omega) (by decide) rfl hb (by omega) hv
    have e3 := placed_step (hp := hp) (v := v) (a0 := 0) (a1 := m) (a2 := (m + btw : Nat)) (a3 := m) (a4 := 0) (a5 := 0) (m := m) (z := z) (btw := btw) (tt := m + btw + m + btw) (i := 2) (k := 2) (sz := z) (first := first) (room := room) (by omega) (by omega) (by omega) h1 ⟨h2, h2'⟩ h3 (by omega) (by decide) rfl hb (by omega) hv
    simp only [putAt, Nat.zero_mul, Nat.one_mul, Nat.reduceMul, Nat.reduceAdd, Nat.zero_add, List.set_cons_zero, List.set_cons_succ, Int.natCast_zero] at e1 e2 e3
    exact (e1.trans (e2.trans e3)).trans placed_end
  · refine ⟨m + btw + z + btw, 0, m + btw, m + btw + z + btw + m + btw, ?_, by omega, by omega, by omega, by omega, by omega, by omega, by omega⟩
    have e1 := placed_step (hp := hp) (v := v) (a0 := 0) (a1 := 0) (a2 := 0) (a3 := 0) (a4 := 0) (a5 := 0) (m := m) (z := z) (btw := btw) (tt := 0) (i := 0) (k := 1) (sz := m) (first := first) (room := room) (by omega) (by omega) (by omega) h1 ⟨h2, h2'⟩ h3 (by omega) (by decide) rfl hb (by omega) hv
    have e2 := placed_step (hp := hp) (v := v) (a0 := 0) (a1 := 0) (a2 := 0) (a3 := m) (a4 := 0) (a5 := 0) (m := m) (z := z) (btw := btw) (tt := m + btw) (i := 1) (k := 2) (sz := z) (first := first) (room := room) (by omega) (by omega) (by omega) h1 ⟨h2, h2'⟩ h3 (by omega) (by decide) rfl hb (by omega) hv
    have e3 := placed_step (hp := hp) (v := v) (a0 := 0) (a1 := 0) (a2 := 0) (a3 := m) (a4 := (m + btw : Nat)) (a5 := z) (m := m) (z := z) (btw := btw) (tt := m + btw + z + btw) (i := 2) (k := 0) (sz := m) (first := first) (room := room) (by omega) (by omega) (by omega) h1 ⟨h2, h2'⟩ h3 (by omega) (by decide) rfl hb (by omega) hv
    simp only [putAt, Nat.zero_mul, Nat.one_mul, Nat.reduceMul, Nat.reduceAdd, Nat.zero_add, List.set_cons_zero, List.set_cons_succ, Int.natCast_zero] at e1 e2 e3
    exact (e1.trans (e2.trans e3)).trans placed_end
  · refine ⟨z + btw, z + btw + m + btw, 0, z + btw + m + btw + m + btw, ?_, by omega, by omega, by omega, by omega, by omega, by omega, by omega⟩
    have e1 := placed_step (hp := hp) (v := v) (a0 := 0) (a1 := 0) (a2 := 0) (a3 := 0) (a4 := 0) (a5 := 0) (m := m) (z := z) (btw := btw) (tt := 0) (i := 0) (k := 2) (sz := z) (first := first) (room := room) (by omega) (by omega) (by omega) h1 ⟨h2, h2'⟩ h3 (by omega) (by decide) rfl hb (by omega) hv
    have e2 := placed_step (hp := hp) (v := v) (a0 := 0) (a1 := 0) (a2 := 0) (a3 := 0) (a4 := 0) (a5 := z) (m := m) (z := z) (btw := btw) (tt := z + btw) (i := 1) (k := 0) (sz := m) (first := first) (room := room) (by omega) (by omega) (by omega) h1 ⟨h2, h2'⟩ h3 (by omega) (by decide) rfl hb (by omega) hv
    have e3 := placed_step (hp := hp) (v := v) (a0 := (z + btw : Nat)) (a1 := m) (a2 := 0) (a3 := 0) (a4 := 0) (a5 := z) (m := m) (z := z) (btw := btw) (tt := z + btw + m + btw) (i := 2) (k := 1) (sz := m) (first := first) (room := room) (by omega) (by omega) (by omega) h1 ⟨h2, h2'⟩ h3 (by omega) (by decide) rfl hb (by omega) hv
    simp only [putAt, Nat.zero_mul, Nat.one_mul, Nat.reduceMul, Nat.reduceAdd, Nat.zero_add, List.set_cons_zero, List.set_cons_succ, Int.natCast_zero] at e1 e2 e3
    exact (e1.trans (e2.trans e3)).trans placed_end
end ArA
end Go.Proofs.Ytlphmnhkkhcjfaa
