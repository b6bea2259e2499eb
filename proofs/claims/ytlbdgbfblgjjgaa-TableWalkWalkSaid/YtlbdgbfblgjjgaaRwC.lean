/-
  WALKS WITH RANKS: New, Next, Valid, Reset, Steps, Told on the abstract machine, second part. Conditions: none.
-/
import Derived.Test.YtlbdgbfblgjjgaaRwB
set_option linter.all false
namespace Go.Proofs.Ytlbdgbfblgjjgaa
namespace ArA
open Go Go.RowKit AM ArEnv
set_option maxRecDepth 20000 in
theorem wk_zero {r s m t z ix kk : Nat} {x : List Nat} : wkC r s m t z ix kk x 0 0 0 0 = [arP r, .int .i64 s, .int .i64 m, .int .i64 t, .int .i64 z, .int .i64 ix, .int .i64 kk, .int .i64 0, .int .i64 0, .int .i64 0, .int .i64 0, .int .i64 0, .int .i64 0, .int .i64 0, .int .i64 0, .int .i64 0, .int .i64 0, .int .i64 0, .int .i64 0, .int .i64 0, .int .i64 0, .int .i64 0, .int .i64 0, .int .i64 0, .int .i64 0, .int .i64 0, .int .i64 0, .int .i64 0, .int .i64 0, .int .i64 0, .int .i64 0, .int .i64 0, .int .i64 0, .int .i64 0, .int .i64 0, .int .i64 0, .int .i64 0, .int .i64 0, .int .i64 0, .int .i64 0, .int .i64 0, .int .i64 0, .int .i64 0, .int .i64 0, .int .i64 0, .int .i64 0, .int .i64 0, .int .i64 0, .int .i64 0, .int .i64 0, .int .i64 0, .int .i64 0, .int .i64 0, .int .i64 0, .int .i64 0, .int .i64 0, .int .i64 0, .int .i64 0, .int .i64 0, .int .i64 0, .int .i64 0, .int .i64 0, .int .i64 0, .int .i64 0, .int .i64 0, .int .i64 0, .int .i64 0, .int .i64 0, .int .i64 0, .int .i64 0, .int .i64 0, .int .i64 0, .int .i64 0, .int .i64 0, .int .i64 0, .int .i64 0, .int .i64 0, .int .i64 0, .int .i64 0, .int .i64 0, .int .i64 0, .int .i64 0, .int .i64 0, .int .i64 0, .int .i64 0, .int .i64 0, .int .i64 0, .int .i64 0, .int .i64 0, .int .i64 0, .int .i64 0, .int .i64 0, .int .i64 0, .int .i64 0, .int .i64 0, .int .i64 0, .int .i64 0, .int .i64 0, .int .i64 0, .int .i64 0, .int .i64 0, .int .i64 0, .int .i64 0, .int .i64 0, .int .i64 0, .int .i64 0, .int .i64 0, .int .i64 0, .int .i64 0, .int .i64 0, .int .i64 0, .int .i64 0, .int .i64 0, .int .i64 0, .int .i64 0, .int .i64 0, .int .i64 0, .int .i64 0, .int .i64 0, .int .i64 0, .int .i64 0, .int .i64 0, .int .i64 0, .int .i64 0, .int .i64 0, .int .i64 0, .int .i64 0, .int .i64 0, .int .i64 0, .int .i64 0, .int .i64 0, .int .i64 0, .int .i64 0, .int .i64 0, .int .i64 0, .int .i64 0, .int .i64 0, .int .i64 0, .int .i64 0, .int .i64 0, .int .i64 0, .int .i64 0, .int .i64 0, .int .i64 0, .int .i64 0, .int .i64 0, .int .i64 0, .int .i64 0, .int .i64 0, .int .i64 0, .int .i64 0, .int .i64 0, .int .i64 0, .int .i64 0, .int .i64 0, .int .i64 0, .int .i64 0, .int .i64 0, .int .i64 0, .int .i64 0, .int .i64 0, .int .i64 0, .int .i64 0, .int .i64 0, .int .i64 0, .int .i64 0, .int .i64 0, .int .i64 0, .int .i64 0, .int .i64 0, .int .i64 0, .int .i64 0, .int .i64 0, .int .i64 0, .int .i64 0, .int .i64 0, .int .i64 0, .int .i64 0, .int .i64 0, .int .i64 0, .int .i64 0, .int .i64 0, .int .i64 0, .int .i64 0, .int .i64 0, .int .i64 0, .int .i64 0, .int .i64 0, .int .i64 0, .int .i64 0, .int .i64 0, .int .i64 0, .int .i64 0, .int .i64 0, .int .i64 0, .int .i64 0, .int .i64 0, .int .i64 0, .int .i64 0, .int .i64 0, .int .i64 0, .int .i64 0, .int .i64 0, .int .i64 0, .int .i64 0, .int .i64 0, .int .i64 0, .int .i64 0, .int .i64 0, .int .i64 0, .int .i64 0, .int .i64 0, .int .i64 0, .int .i64 0, .int .i64 0, .int .i64 0, .int .i64 0, .int .i64 0, .int .i64 0, .int .i64 0, .int .i64 0, .int .i64 0, .int .i64 0, .int .i64 0, .int .i64 0, .int .i64 0, .int .i64 0, .int .i64 0, .int .i64 0, .int .i64 0, .int .i64 0, .int .i64 0, .int .i64 0, .int .i64 0, .int .i64 0, .int .i64 0, .int .i64 0, .int .i64 0, .int .i64 0, .int .i64 0, .int .i64 0, .int .i64 0, .int .i64 0, .int .i64 0, .int .i64 0, .int .i64 0, .int .i64 0, .int .i64 0, .int .i64 0, .int .i64 0, .int .i64 0, .int .i64 0, .int .i64 0, .int .i64 0, .int .i64 0, .int .i64 0, .int .i64 0, .int .i64 0, .int .i64 0, .int .i64 0, .int .i64 0, .int .i64 0, .int .i64 0, .int .i64 0, .int .i64 0, .int .i64 0] := rfl
theorem rank_is {A B : Arn} {t z : Nat} {x : List Nat} {kk c p : Nat} (hM : Marked A B t x kk (256 * (x.length / kk))) (hz : (t : Int) + z ≤ A.live) (hfit : 4 * (256 * (x.length / kk)) ≤ z) (hs : z ≤ 1048576) (hk : 1 ≤ kk) (hx : x.length ≤ 65536) (hc : c < 256) (hp : p ≤ x.length) :
    base B t z kk c p + tail x kk c p = (x.take p).count c := by
  have hdl : p / kk * kk ≤ p := Nat.div_mul_le_self p kk
  have hsp : x.take p = x.take (p / kk * kk) ++ (x.drop (p / kk * kk)).take (p - p / kk * kk) := by
    have := List.take_append_drop (p / kk * kk) (x.take p)
    rw [List.take_take, Nat.min_eq_left hdl, List.drop_take] at this
    exact this.symm
  rw [hsp, List.count_append]
  unfold tail
  congr 1
  unfold base
  have hle : p / kk ≤ x.length / kk := Nat.div_le_div_right hp
  clear hsp hdl
  generalize p / kk = y at *
  by_cases h0 : 0 < y
  · rw [if_pos h0]
    have hwl : (y - 1) * 256 + c < 256 * (x.length / kk) := by
      clear hfit hM
      generalize x.length / kk = X at *
      omega
    have hw := hM.wordV (w := (y - 1) * 256 + c) hz hfit hs hwl hx
    rw [show ((y : Int) * 256 - 256 + (c : Int)) = (((y - 1) * 256 + c : Nat) : Int) by omega, hw]
    unfold wval
    rw [show ((y - 1) * 256 + c) / 256 = y - 1 by omega, show ((y - 1) * 256 + c) % 256 = c by omega, show y - 1 + 1 = y by omega]
  · rw [if_neg h0, show y = 0 by omega, Nat.zero_mul, List.take_zero]
    rfl
section
variable {hp : List Blk} {L : Nat} {H d : List Nat} {r q w : Nat} {A : Arn} {s t z kk ix : Nat} {x : List Nat} {row told steps : Nat}
set_option maxRecDepth 40000 in
/-- A walk is made. -/
theorem rnew_walk (hF : Fit hp.length L H) (k : ArOk hp.length r q H A) (hw : L ≤ r ∧ L ≤ q) (hx : Holds A s x) (hv : rValid A s x.length t z kk = true) (hix : 1 ≤ ix ∧ ix ≤ x.length) : ∃ B,
    (∀ d, Lrun env (.func 34) [arP r, .agg #[.int .i64 s, .int .i64 x.length], .int .i64 ix, .agg #[.int .i64 t, .int .i64 z], .int .i64 kk] ⟨put hp r q A, L, H, d⟩ =
      some (.tuple #[.pointer (some ⟨hp.length, 0, some 0⟩), .int .i64 0], ⟨put (hp ++ [.cells 0 false (wkC r s x.length t z ix kk x 256 0 0 0)]) r q B, L, H, d⟩)) ∧
    Marked A B t x kk (256 * (x.length / kk)) ∧ (∀ c, c < 256 → ∀ p, p ≤ x.length → base B t z kk c p + tail x kk c p = (x.take p).count c) ∧ Holds B s x ∧ ArOk hp.length r q H B := by
  obtain ⟨v1, v2, v3, v4, v5, v6⟩ := rValid_parts hv
  have b2 := Arn.has_iff.1 v2
  have hrl := k.r_lt
  have hql := k.q_lt
  obtain ⟨B, e1, hM⟩ := make_walk (hp := hp ++ [.cells 0 true [.int .i64 s, .int .i64 x.length], .cells 0 true [.int .i64 t, .int .i64 z]]) (L := L) (H := H) (r := r) (q := q) (hF.mono (by simp)) (k.mono (by simp)) hw hx hv
  rw [rSize_nat (by omega) (by omega)] at v6
  have v7 : 4 * (256 * (x.length / kk)) ≤ z := Int.ofNat_le.1 v6
  have hsz := k.size
  have hl1 := k.live1
  have hrk : ∀ c, c < 256 → ∀ p, p ≤ x.length → base B t z kk c p + tail x kk c p = (x.take p).count c := fun c hc p hp =>
    rank_is hM (by clear v6 v7; omega) v7 (by clear v6 v7; omega) (by omega) (by omega) hc hp
  have hB : Holds B s x := hM.holds hx fun i hi => by clear hM; omega
  have kB := hM.ok k
  have hvB : rValid B s x.length t z kk = true := by rw [rValid_live hM.live]; exact hv
  refine ⟨B, fun d => ?_, hM, hrk, hB, kB⟩
  obtain ⟨fr, f1, f2⟩ := rnew_loop (ix := ix) (L := L) (H := H) hF kB hB hvB (by omega) (by omega) hrk 256 0 (by omega)
  rw [wk_zero] at f1
  have hz : csm x 0 = 0 := rfl
  rw [hz] at f1
  simp only [Int.natCast_zero] at f1
  have c1 : ¬ (ix : Int) < 1 := by omega
  have c2 : ¬ (ix : Int) > x.length := by omega
  rw [Lrun_sym 34 _ _ fn34]
  simp (disch := (first | omega | (simp only [lnE, put_length] <;> omega) | (refine Fit.mono ‹Fit _ _ _› ?_ <;> (simp only [lnE, put_length] <;> omega)) | (refine Fit.draw ‹Fit _ _ _› ?_ ?_ <;> (simp only [lnE, put_length] <;> omega)) | (refine Fit.hid1 ‹Fit _ _ _› ?_ ?_ <;> (simp only [lnE, put_length] <;> omega)) | (refine Fit.draw1 ‹Fit _ _ _› ?_ ?_ ?_ <;> (simp only [lnE, put_length] <;> omega)) | (refine Fit.range0 ?_ ?_ <;> (simp only [lnE, put_length] <;> omega)) | (refine ArOk.mono ‹ArOk _ _ _ _ _› ?_ <;> (simp only [lnE, put_length] <;> omega)) | (refine ArOk.hid ‹ArOk _ _ _ _ _› ?_ ?_ <;> (simp only [lnE, put_length] <;> omega)) | (refine ArOk.hid0 ‹ArOk _ _ _ _ _› ?_ ?_ <;> (simp only [lnE, put_length] <;> omega)) | ((intro xr hxr; simp [AM.refs, refsF, refsC] at hxr) <;> (simp only [lnE, put_length] <;> omega)) | fail)) only [syA, syB, argFr, D, E, T, C, undefv, eqF, aeq, sheqs, sheq, rdCells, cellsOf, fill, putAt, if_true, if_false, reduceIte, ↓reduceIte, reduceCtorEq, eq_self, Nat.reduceEqDiff, Nat.reduceAdd, Nat.reduceSub, Nat.reduceMul, Nat.reduceLT, Nat.reduceLeDiff, Nat.reducePow, Nat.reduceDiv, Nat.reduceMod, Int.reduceLT, Int.reduceLE, Int.reduceGT, Int.reduceGE, Int.reduceToNat, Int.reducePow, Int.reduceNeg, Int.reduceBEq, Int.reduceBNe, Int.reduceEq, Int.reduceAdd, Int.reduceSub, Int.reduceMul, cellv, sc, flatv, refs, refsF, refsC, syR, Int.le_refl, hF.not0, hF.not1, hF.up0, hF.up1, k.hr, k.hq, kB.hr, kB.hq, ac34, e1, c1, c2, f1, f2]
  have hpl : (put hp r q B).length = hp.length := put_length
  have hg := gc_oneW (h := put hp r q B) (nw := [.cells 0 true [.int .i64 s, .int .i64 x.length], .cells 0 true [.int .i64 t, .int .i64 z], .cells 0 false (wkC r s x.length t z ix kk x 256 0 0 0)]) (L := L) (H := H) (d := [])
    (vs := [.tuple #[.pointer (some ⟨hp.length + 2, 0, some 0⟩), .int .i64 0]]) (k := 2) rfl (by rw [wk_refs, hpl]; simpa using hrl) (by simp [refs, refsF, refsC, hpl]) (by simp [refs, refsF, refsC, hpl]) rfl
  rw [hpl] at hg
  simp only [List.map_cons, List.map_nil, ren, renF, renC, one_new] at hg
  unfold gcY
  rw [hpl, hg, ← put_app hrl hql]
  simp [gcX, joinDirty, ren, renF, renC, one_new]
end
end ArA
end Go.Proofs.Ytlbdgbfblgjjgaa
