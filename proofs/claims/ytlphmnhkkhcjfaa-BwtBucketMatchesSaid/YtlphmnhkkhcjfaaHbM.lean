/-
  THE TRANSFORM BY BUCKETS: Turn on valid spans, on the abstract machine. Conditions: none.
-/
import Derived.Test.YtlphmnhkkhcjfaaHbL
set_option linter.all false
namespace Go.Proofs.Ytlphmnhkkhcjfaa
namespace ArA
open Go Go.RowKit AM ArEnv
section
variable {hp : List Blk} {L : Nat} {H d : List Nat} {r q : Nat} {A : Arn}
theorem gc_all {h nw : List Blk} {L : Nat} {H : List Nat} {d : List Nat} {v : Value} (hn : nw ≠ []) (hv : refs v = []) (hd : d.filter (fun t => decide (t < h.length)) = []) : gc h.length [v] ⟨h ++ nw, L, H, d⟩ = some ([v], ⟨h, L, H, []⟩) := by
  have hpos : 0 < nw.length := List.length_pos_iff.2 hn
  have hl : ¬ (h ++ nw).length ≤ h.length := by simp; omega
  unfold gc
  rw [if_neg hl]
  simp [hv, hd]
theorem bturn_walk (hF : Fit hp.length L H) (k : ArOk hp.length r q H A) (hw : L ≤ r ∧ L ≤ q) {s c t z : Nat} {x : List Nat} (hx : Holds A s x) (hb : By x) (hv : bValid A s x.length c x.length t z = true) : ∃ A2 B V,
    (∀ d, Lrun env (.func 28) [arP r, .agg #[.int .i64 s, .int .i64 x.length], .agg #[.int .i64 c, .int .i64 x.length], .agg #[.int .i64 t, .int .i64 z]] ⟨put hp r q A, L, H, d⟩ =
      some (.tuple #[.int .i64 (turnR x).2.1, .int .i64 ((x.length + 1 + bRoom x z - 1) / bRoom x z : Nat), .int .i64 0], ⟨put hp r q B, L, H, d⟩)) ∧ Words A2 B t (z / 4) V ∧ Cols A A2 c (turnR x).1 := by
  obtain ⟨fr, A2, B2, V, bf, bl, i1, i2, i3, i4, i5⟩ := bturn_loop hF k hw hx hb hv
  refine ⟨A2, B2, V, fun d => ?_, i4, i5⟩
  obtain ⟨v1, v2, v3, v4, v5, v6, v7⟩ := bValid_parts hv
  have b1 := Arn.has_iff.1 v1
  have b2 := Arn.has_iff.1 v2
  have b3 := Arn.has_iff.1 v3
  have hl1 := k.live1
  have hsz := k.size
  have hrl := k.r_lt
  have hql := k.q_lt
  have hne := k.ne
  have va := fun d nw => bvalid_walk (d := d) (hp := hp ++ nw) (L := L) (H := H) (r := r) (q := q) (A := A) (hF.mono (by simp)) (k.mono (by simp)) s x.length c x.length t z
  simp only [hv] at va
  have e1 : Int.tdiv (z : Int) 4 = ((z / 4 : Nat) : Int) := rfl
  have e2 : min (((z / 4 : Nat) : Int)) ((x.length : Int) + 1) = (bRoom x z : Int) := by unfold bRoom; omega
  unfold outSt tNew hB at i1
  simp only [Int.natCast_zero] at i1
  rw [Lrun_sym 28 _ _ fn28]
  simp (disch := (first | omega | (simp only [lnE, put_length] <;> omega) | (refine Fit.mono ‹Fit _ _ _› ?_ <;> (simp only [lnE, put_length] <;> omega)) | (refine Fit.draw ‹Fit _ _ _› ?_ ?_ <;> (simp only [lnE, put_length] <;> omega)) | (refine Fit.hid1 ‹Fit _ _ _› ?_ ?_ <;> (simp only [lnE, put_length] <;> omega)) | (refine Fit.draw1 ‹Fit _ _ _› ?_ ?_ ?_ <;> (simp only [lnE, put_length] <;> omega)) | (refine Fit.range0 ?_ ?_ <;> (simp only [lnE, put_length] <;> omega)) | (refine ArOk.mono ‹ArOk _ _ _ _ _› ?_ <;> (simp only [lnE, put_length] <;> omega)) | (refine ArOk.hid ‹ArOk _ _ _ _ _› ?_ ?_ <;> (simp only [lnE, put_length] <;> omega)) | (refine ArOk.hid0 ‹ArOk _ _ _ _ _› ?_ ?_ <;> (simp only [lnE, put_length] <;> omega)) | ((intro xr hxr; simp [AM.refs, refsF, refsC] at hxr) <;> (simp only [lnE, put_length] <;> omega)) | fail)) only [syA, syB, argFr, D, E, T, C, undefv, eqF, aeq, sheqs, sheq, rdCells, cellsOf, fill, putAt, if_true, if_false, reduceIte, ↓reduceIte, reduceCtorEq, eq_self, Nat.reduceEqDiff, Nat.reduceAdd, Nat.reduceSub, Nat.reduceMul, Nat.reduceLT, Nat.reduceLeDiff, Nat.reducePow, Nat.reduceDiv, Nat.reduceMod, Int.reduceLT, Int.reduceLE, Int.reduceGT, Int.reduceGE, Int.reduceToNat, Int.reducePow, Int.reduceNeg, Int.reduceBEq, Int.reduceBNe, Int.reduceEq, Int.reduceAdd, Int.reduceSub, Int.reduceMul, cellv, sc, flatv, refs, refsF, refsC, syR, Int.le_refl, hF.not0, hF.not1, hF.up0, hF.up1, k.hr, k.hq, ac28, va, e1, e2, i1, i2, i3]
  have hpl : (put hp r q B2).length = hp.length := put_length
  rw [← put_app hrl hql]
  have hg := gc_all (h := put hp r q B2) (nw := [.cells 0 true [.int .i64 s, .int .i64 x.length], .cells 0 true [.int .i64 c, .int .i64 x.length], .cells 0 true [.int .i64 t, .int .i64 z], bf, .cells 0 false [.pointer (some ⟨hp.length + 3, 0, some 0⟩)], bl]) (L := L) (H := H) (d := [hp.length + 4])
    (v := .tuple #[.int .i64 (turnR x).2.1, .int .i64 ((x.length + 1 + bRoom x z - 1) / bRoom x z : Nat), .int .i64 0]) (by simp) rfl (by rw [hpl]; simp)
  rw [hpl] at hg
  rw [hg]
  simp [gcX, joinDirty]
end
end ArA
end Go.Proofs.Ytlphmnhkkhcjfaa
