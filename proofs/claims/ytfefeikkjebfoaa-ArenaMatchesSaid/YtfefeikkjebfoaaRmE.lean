/-
  RANKS: the reference's Make on the abstract machine. Conditions: none.
-/
import Derived.Test.YtfefeikkjebfoaaRmD
set_option linter.all false
namespace Go.Proofs.Ytfefeikkjebfoaa
namespace ArA
open Go Go.RowKit AM ArEnv
section
variable {hp : List Blk} {L : Nat} {H d : List Nat} {r q : Nat} {A : Arn}
theorem rfm_rows (hF : Fit hp.length L H) (k : ArOk hp.length r q H A) (hw : L ≤ r ∧ L ≤ q) {b5 s t z kk : Nat} {x : List Nat} {v : Value} (hR : ∀ B, Rd ⟨put hp r q B, L, H, []⟩ v x) (hb5 : hp[b5]? = some (.cells 0 true [.int .i64 s, .int .i64 x.length])) (hrb : r ≠ b5) (hqb : q ≠ b5) (hid : H.contains b5 = false) (hz : (t : Int) + z ≤ A.live) (hk : 1 ≤ kk ∧ kk ≤ 65536) (hfit : 4 * (256 * (x.length / kk)) ≤ z) (hx : x.length ≤ 65536) :
    ∀ (n g : Nat), g + n = x.length / kk → ∀ B, Marked A B t x kk (256 * g) → ∃ fr B',
    Liter env lb57_2 [10, 11, 9, 5, 3, 0] hp.length [(10, .int .i64 (t + 4 * (256 * g) : Nat)), (11, .int .i64 ((g + 1) * kk : Nat)), (9, v), (5, .pointer (some ⟨b5, 0, some 0⟩)), (3, .int .i64 kk), (0, arP r)] ⟨put hp r q B, L, H, []⟩ =
      some (.exit 0, fr, ⟨put hp r q B', L, H, []⟩) ∧ Marked A B' t x kk (256 * (x.length / kk))
  | 0, g, e, B, hM => by
    obtain rfl : g = x.length / kk := by omega
    have hlt : x.length < (x.length / kk + 1) * kk := by rw [Nat.mul_comm]; exact Nat.lt_mul_div_succ _ (by omega)
    have hle : (x.length / kk + 1) * kk ≤ 131072 := by rw [Nat.succ_mul]; have := Nat.div_mul_le_self x.length kk; omega
    have hrl := k.r_lt
    have hql := k.q_lt
    have hM' := hM
    generalize (x.length / kk + 1) * kk = jj at *
    have c1 : ¬ (jj : Int) ≤ x.length := by omega
    generalize x.length / kk = dd at *
    rw [iter_by lb57_2.eq_1]
    simp (disch := (first | omega | (simp only [lnE, put_length] <;> omega) | (refine Fit.mono ‹Fit _ _ _› ?_ <;> (simp only [lnE, put_length] <;> omega)) | (refine Fit.draw ‹Fit _ _ _› ?_ ?_ <;> (simp only [lnE, put_length] <;> omega)) | (refine Fit.hid1 ‹Fit _ _ _› ?_ ?_ <;> (simp only [lnE, put_length] <;> omega)) | (refine Fit.hidc1 ‹Fit _ _ _› ?_ ?_ <;> (simp only [lnE, put_length] <;> omega)) | (refine Fit.hidc2 ‹Fit _ _ _› ?_ ?_ ?_ <;> (simp only [lnE, put_length] <;> omega)) | (refine Fit.draw1 ‹Fit _ _ _› ?_ ?_ ?_ <;> (simp only [lnE, put_length] <;> omega)) | (refine Fit.range0 ?_ ?_ <;> (simp only [lnE, put_length] <;> omega)) | (refine ArOk.mono ‹ArOk _ _ _ _ _› ?_ <;> (simp only [lnE, put_length] <;> omega)) | (refine ArOk.hid ‹ArOk _ _ _ _ _› ?_ ?_ <;> (simp only [lnE, put_length] <;> omega)) | (refine ArOk.hid0 ‹ArOk _ _ _ _ _› ?_ ?_ <;> (simp only [lnE, put_length] <;> omega)) | ((intro xr hxr; simp [AM.refs, refsF, refsC] at hxr) <;> (simp only [lnE, put_length] <;> omega)) | fail)) only [syA, syB, argFr, D, E, T, C, undefv, eqF, aeq, sheqs, sheq, rdCells, cellsOf, fill, putAt, if_true, if_false, reduceIte, ↓reduceIte, reduceCtorEq, eq_self, Nat.reduceEqDiff, Nat.reduceAdd, Nat.reduceSub, Nat.reduceMul, Nat.reduceLT, Nat.reduceLeDiff, Nat.reducePow, Nat.reduceDiv, Nat.reduceMod, Int.reduceLT, Int.reduceLE, Int.reduceGT, Int.reduceGE, Int.reduceToNat, Int.reducePow, Int.reduceNeg, Int.reduceBEq, Int.reduceBNe, Int.reduceEq, Int.reduceAdd, Int.reduceSub, Int.reduceMul, cellv, sc, flatv, refs, refsF, refsC, syR, Int.le_refl, hF.not0, hF.not1, hF.up0, hF.up1, k.hr, k.hq, hb5, hid, c1]
    exact ⟨_, B, rfl, hM'⟩
  | n + 1, g, e, B, hM => by
    have hrl := k.r_lt
    have hql := k.q_lt
    have hsz := k.size
    have hlv := k.live1
    have hg1 : g + 1 ≤ x.length / kk := by omega
    have hjj : (g + 1) * kk ≤ x.length := Nat.le_trans (Nat.mul_le_mul_right kk hg1) (Nat.div_mul_le_self _ _)
    obtain ⟨fr2, B2, f1, hM2, f2, f3, f4, f5, f6, f7⟩ := rfm_row hF k hw hR hz (g := g) (kk := kk) (jj := (g + 1) * kk) (by omega) hx rfl hjj (.pointer (some ⟨b5, 0, some 0⟩)) (.int .i64 kk) 256 0 rfl B hM
    obtain ⟨fr, B', e1, e2⟩ := rfm_rows hF k hw hR hb5 hrb hqb hid hz hk hfit hx n (g + 1) (by omega) B2 hM2
    have hnx : (((g + 1) * kk : Nat) : Int) + (kk : Int) = (((g + 1 + 1) * kk : Nat) : Int) := by rw [Nat.succ_mul (g + 1)]; omega
    have hle : (g + 1 + 1) * kk ≤ 131072 := by rw [Nat.succ_mul (g + 1)]; omega
    have c1 : (((g + 1) * kk : Nat) : Int) ≤ x.length := by omega
    simp only [Int.natCast_zero, Nat.add_zero] at f1
    clear hM hM2 hg1
    generalize (g + 1 + 1) * kk = j2 at *
    generalize (g + 1) * kk = j1 at *
    generalize t + 4 * (256 * (g + 1)) = a2 at *
    generalize t + 4 * (256 * g) = a1 at *
    rw [iter_by lb57_2.eq_1]
    simp (disch := (first | omega | (simp only [lnE, put_length] <;> omega) | (refine Fit.mono ‹Fit _ _ _› ?_ <;> (simp only [lnE, put_length] <;> omega)) | (refine Fit.draw ‹Fit _ _ _› ?_ ?_ <;> (simp only [lnE, put_length] <;> omega)) | (refine Fit.hid1 ‹Fit _ _ _› ?_ ?_ <;> (simp only [lnE, put_length] <;> omega)) | (refine Fit.hidc1 ‹Fit _ _ _› ?_ ?_ <;> (simp only [lnE, put_length] <;> omega)) | (refine Fit.hidc2 ‹Fit _ _ _› ?_ ?_ ?_ <;> (simp only [lnE, put_length] <;> omega)) | (refine Fit.draw1 ‹Fit _ _ _› ?_ ?_ ?_ <;> (simp only [lnE, put_length] <;> omega)) | (refine Fit.range0 ?_ ?_ <;> (simp only [lnE, put_length] <;> omega)) | (refine ArOk.mono ‹ArOk _ _ _ _ _› ?_ <;> (simp only [lnE, put_length] <;> omega)) | (refine ArOk.hid ‹ArOk _ _ _ _ _› ?_ ?_ <;> (simp only [lnE, put_length] <;> omega)) | (refine ArOk.hid0 ‹ArOk _ _ _ _ _› ?_ ?_ <;> (simp only [lnE, put_length] <;> omega)) | ((intro xr hxr; simp [AM.refs, refsF, refsC] at hxr) <;> (simp only [lnE, put_length] <;> omega)) | fail)) only [syA, syB, argFr, D, E, T, C, undefv, eqF, aeq, sheqs, sheq, rdCells, cellsOf, fill, putAt, if_true, if_false, reduceIte, ↓reduceIte, reduceCtorEq, eq_self, Nat.reduceEqDiff, Nat.reduceAdd, Nat.reduceSub, Nat.reduceMul, Nat.reduceLT, Nat.reduceLeDiff, Nat.reducePow, Nat.reduceDiv, Nat.reduceMod, Int.reduceLT, Int.reduceLE, Int.reduceGT, Int.reduceGE, Int.reduceToNat, Int.reducePow, Int.reduceNeg, Int.reduceBEq, Int.reduceBNe, Int.reduceEq, Int.reduceAdd, Int.reduceSub, Int.reduceMul, cellv, sc, flatv, refs, refsF, refsC, syR, Int.le_refl, hF.not0, hF.not1, hF.up0, hF.up1, k.hr, k.hq, hb5, hid, c1, f1, f2, f3, f4, f5, f6, f7, hnx, e1]
    exact ⟨fr, B', by first | exact e1 | rfl, e2⟩
theorem rfmake_bad (hF : Fit hp.length L H) (k : ArOk hp.length r q H A) {s m t z kk : Int} (hv : rValid A s m t z kk = false) :
    Lrun env (.func 57) [arP r, .agg #[.int .i64 s, .int .i64 m], .agg #[.int .i64 t, .int .i64 z], .int .i64 kk] ⟨put hp r q A, L, H, d⟩ = some (.int .i64 2, ⟨put hp r q A, L, H, d⟩) := by
  have h1 := k.r_lt
  have h2 := k.q_lt
  rw [Lrun_sym 57 _ _ fn57]
  simp (disch := (first | omega | (simp only [lnE, put_length] <;> omega) | (refine Fit.mono ‹Fit _ _ _› ?_ <;> (simp only [lnE, put_length] <;> omega)) | (refine Fit.draw ‹Fit _ _ _› ?_ ?_ <;> (simp only [lnE, put_length] <;> omega)) | (refine Fit.hid1 ‹Fit _ _ _› ?_ ?_ <;> (simp only [lnE, put_length] <;> omega)) | (refine Fit.hidc1 ‹Fit _ _ _› ?_ ?_ <;> (simp only [lnE, put_length] <;> omega)) | (refine Fit.hidc2 ‹Fit _ _ _› ?_ ?_ ?_ <;> (simp only [lnE, put_length] <;> omega)) | (refine Fit.draw1 ‹Fit _ _ _› ?_ ?_ ?_ <;> (simp only [lnE, put_length] <;> omega)) | (refine Fit.range0 ?_ ?_ <;> (simp only [lnE, put_length] <;> omega)) | (refine ArOk.mono ‹ArOk _ _ _ _ _› ?_ <;> (simp only [lnE, put_length] <;> omega)) | (refine ArOk.hid ‹ArOk _ _ _ _ _› ?_ ?_ <;> (simp only [lnE, put_length] <;> omega)) | (refine ArOk.hid0 ‹ArOk _ _ _ _ _› ?_ ?_ <;> (simp only [lnE, put_length] <;> omega)) | ((intro xr hxr; simp [AM.refs, refsF, refsC] at hxr) <;> (simp only [lnE, put_length] <;> omega)) | fail)) only [syA, syB, argFr, D, E, T, C, undefv, eqF, aeq, sheqs, sheq, rdCells, cellsOf, fill, putAt, if_true, if_false, reduceIte, ↓reduceIte, reduceCtorEq, eq_self, Nat.reduceEqDiff, Nat.reduceAdd, Nat.reduceSub, Nat.reduceMul, Nat.reduceLT, Nat.reduceLeDiff, Nat.reducePow, Nat.reduceDiv, Nat.reduceMod, Int.reduceLT, Int.reduceLE, Int.reduceGT, Int.reduceGE, Int.reduceToNat, Int.reducePow, Int.reduceNeg, Int.reduceBEq, Int.reduceBNe, Int.reduceEq, Int.reduceAdd, Int.reduceSub, Int.reduceMul, cellv, sc, flatv, refs, refsF, refsC, syR, Int.le_refl, hF.not0, hF.not1, hF.up0, hF.up1, k.hr, k.hq, ac57, rfvalid_walk, hv]
theorem rfmake_walk (hF : Fit hp.length L H) (k : ArOk hp.length r q H A) (hw : L ≤ r ∧ L ≤ q) {s t z kk : Nat} {x : List Nat} (hx : Holds A s x) (hv : rValid A s x.length t z kk = true) : ∃ B,
    (∀ d, Lrun env (.func 57) [arP r, .agg #[.int .i64 s, .int .i64 x.length], .agg #[.int .i64 t, .int .i64 z], .int .i64 kk] ⟨put hp r q A, L, H, d⟩ = some (.int .i64 0, ⟨put hp r q B, L, H, d⟩)) ∧ Marked A B t x kk (256 * (x.length / kk)) := by
  obtain ⟨v1, v2, v3, v4, v5, v6⟩ := rValid_parts hv
  have hrl := k.r_lt
  have hql := k.q_lt
  have hne := k.ne
  have hsz := k.size
  have hl1 := k.live1
  have hlv := hx.live
  have b2 := Arn.has_iff.1 v2
  rw [rSize_nat (by omega) (by omega)] at v6
  have v7 : 4 * (256 * (x.length / kk)) ≤ z := Int.ofNat_le.1 v6
  have hbx : By x := fun y hy => by
    obtain ⟨i, hi, rfl⟩ := List.mem_iff_getElem.1 hy
    exact k.by_ _ (List.mem_of_getElem? (hx.get i hi))
  have hld := hx.load
  unfold Arn.loadO at hld
  rw [if_pos hx.has] at hld
  simp only [Option.some.injEq, Int.toNat_natCast] at hld
  have hcs : ((u8s A.bs).drop s).take x.length = u8s x := by rw [← u8s_drop, ← u8s_take, hld]
  have kx := fun nw => (k.mono (m := (hp ++ nw).length) (by simp) : ArOk (hp ++ nw).length r q H A)
  obtain ⟨fr, B, e1, hM⟩ := rfm_rows (hp := hp ++ [.cells 0 true [.int .i64 s, .int .i64 x.length], .cells 0 true [.int .i64 t, .int .i64 z], .cells x.length true (u8s x)]) (b5 := hp.length) (v := .slice (some ⟨hp.length + 2, 0, some x.length⟩) x.length 1) (hF.mono (by simp)) (kx _) hw
    (fun B => Rd.whole (by rw [put_o (by omega) (by omega), get_new]; rfl) (hF.not1 2) hbx (.inr rfl)) (by rw [get_new0]) (by omega) (by omega) hF.not0 (z := z) (t := t) (s := s) (by clear v6 v7; omega) (kk := kk) (by clear v6 v7; omega) v7 (by clear v6 v7; omega) (x.length / kk) 0 (by omega) A (by rw [Nat.mul_zero]; exact Marked.zero k.by_ _ _ _)
  refine ⟨B, fun d => ?_, hM⟩
  simp only [Nat.mul_zero, Nat.add_zero, Nat.zero_add, Nat.one_mul, List.length_append, List.length_cons, List.length_nil, Nat.reduceAdd] at e1
  have vw := fun nw => rfvalid_walk (d := []) (L := L) (H := H) (hp := hp ++ nw) (r := r) (q := q) (hF.mono (by simp)) (k.mono (by simp)) s x.length t z kk
  simp only [hv] at vw
  have c3 : 0 ≤ (s : Int) ∧ (s : Int) ≤ (s : Int) + x.length ∧ (s : Int) + x.length ≤ (A.bs.length : Int) := by clear v6 v7; omega
  have c4 : ((s : Int) + (x.length : Int)).toNat - s = x.length := by omega
  have c5 : ¬ x.length = 0 := by clear v6 v7; omega
  have sm : AM.small 0 = true := rfl
  have c6 : s + x.length ≤ A.bs.length := by clear v6 v7; omega
  have a1 := append_lit0 (hp := put (hp ++ [.cells 0 true [.int .i64 s, .int .i64 x.length], .cells 0 true [.int .i64 t, .int .i64 z]]) r q A) (L := L) (H := H) (d := []) (l := x) (by rw [put_length]; exact hF.mono (by simp)) (by clear v6 v7; omega)
  rw [put_app (by simp; omega) (by simp; omega), put_app (by simp; omega) (by simp; omega)] at a1
  simp only [put_length, List.append_assoc, List.cons_append, List.nil_append, List.length_append, List.length_cons, List.length_nil, Nat.zero_add, Nat.reduceAdd] at a1
  clear hM v6 v7
  rw [Lrun_sym 57 _ _ fn57]
  simp (disch := (first | omega | (simp only [lnE, put_length] <;> omega) | (refine Fit.mono ‹Fit _ _ _› ?_ <;> (simp only [lnE, put_length] <;> omega)) | (refine Fit.draw ‹Fit _ _ _› ?_ ?_ <;> (simp only [lnE, put_length] <;> omega)) | (refine Fit.hid1 ‹Fit _ _ _› ?_ ?_ <;> (simp only [lnE, put_length] <;> omega)) | (refine Fit.hidc1 ‹Fit _ _ _› ?_ ?_ <;> (simp only [lnE, put_length] <;> omega)) | (refine Fit.hidc2 ‹Fit _ _ _› ?_ ?_ ?_ <;> (simp only [lnE, put_length] <;> omega)) | (refine Fit.draw1 ‹Fit _ _ _› ?_ ?_ ?_ <;> (simp only [lnE, put_length] <;> omega)) | (refine Fit.range0 ?_ ?_ <;> (simp only [lnE, put_length] <;> omega)) | (refine ArOk.mono ‹ArOk _ _ _ _ _› ?_ <;> (simp only [lnE, put_length] <;> omega)) | (refine ArOk.hid ‹ArOk _ _ _ _ _› ?_ ?_ <;> (simp only [lnE, put_length] <;> omega)) | (refine ArOk.hid0 ‹ArOk _ _ _ _ _› ?_ ?_ <;> (simp only [lnE, put_length] <;> omega)) | ((intro xr hxr; simp [AM.refs, refsF, refsC] at hxr) <;> (simp only [lnE, put_length] <;> omega)) | fail)) only [syA, syB, argFr, D, E, T, C, undefv, eqF, aeq, sheqs, sheq, rdCells, cellsOf, fill, putAt, if_true, if_false, reduceIte, ↓reduceIte, reduceCtorEq, eq_self, Nat.reduceEqDiff, Nat.reduceAdd, Nat.reduceSub, Nat.reduceMul, Nat.reduceLT, Nat.reduceLeDiff, Nat.reducePow, Nat.reduceDiv, Nat.reduceMod, Int.reduceLT, Int.reduceLE, Int.reduceGT, Int.reduceGE, Int.reduceToNat, Int.reducePow, Int.reduceNeg, Int.reduceBEq, Int.reduceBNe, Int.reduceEq, Int.reduceAdd, Int.reduceSub, Int.reduceMul, cellv, sc, flatv, refs, refsF, refsC, syR, Int.le_refl, hF.not0, hF.not1, hF.up0, hF.up1, k.hr, k.hq, ac57, vw, sm, c3, c4, c5, c6, a1, hcs, e1]
end
end ArA
end Go.Proofs.Ytfefeikkjebfoaa
