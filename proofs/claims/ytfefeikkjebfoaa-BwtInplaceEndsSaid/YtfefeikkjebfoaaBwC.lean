/-
  THE TRANSFORM IN PLACE: walks of the law's helpers on the abstract machine. Conditions: none.
-/
import Derived.Test.YtfefeikkjebfoaaBwB
import Derived.Test.YtfefeikkjebfoaaArGc
set_option linter.all false
namespace Go.Proofs.Ytfefeikkjebfoaa
namespace ArA
open Go Go.RowKit AM ArEnv
theorem rep6 : List.replicate 6 (Value.int .i64 0) = [.int .i64 0, .int .i64 0, .int .i64 0, .int .i64 0, .int .i64 0, .int .i64 0] := rfl
theorem stands_walk {hp : List Blk} {L : Nat} {H d : List Nat} {v : Value} {l : List Nat} (hF : Fit hp.length L H) (hr : Rd ⟨hp, L, H, []⟩ v l) (hl : l.length ≤ 1000) :
    Lrun env (.func 42) [.int .i64 0, v, .int .i64 0] ⟨hp, L, H, d⟩ =
      some (.tuple #[arP hp.length, .agg #[.int .i64 0, .int .i64 0, .int .i64 0, .int .i64 l.length, .int .i64 l.length, .int .i64 0]], ⟨put (hp ++ [default, default]) hp.length (hp.length + 1) (Arn.laid (l.length + 1) l), L, H, d⟩) := by
  have hlen := hr.lenF
  have t0 := laid_taken (N := l.length + 1) (l := []) (m := 0) (by simp)
  have t1 := laid_taken (N := l.length + 1) (l := []) (m := l.length) (by simp)
  have t2 := laid_taken (N := l.length + 1) (l := List.replicate l.length 0) (m := 0) (by simp)
  simp only [List.replicate_zero, List.append_nil, List.nil_append, List.length_nil, List.length_replicate, Int.natCast_zero] at t0 t1 t2
  rw [← new_laid] at t0 t1
  have c1 : (l.length : Int) + 1 ≤ 1048576 := by omega
  have c2 : ((l.length : Int) + 1).toNat = l.length + 1 := by omega
  have c3 : (1 : Int) ≤ (l.length : Int) + 1 := by omega
  have hpart := laid_part (N := l.length + 1) (l := List.replicate l.length 0) (n := l.length) (by simp)
  have hst := laid_store (N := l.length + 1) (l := List.replicate l.length 0) (m := l) (by simp) (by simp)
  have hz : By (List.replicate l.length 0) := fun x hx => by rw [List.mem_replicate] at hx; omega
  have hw : L ≤ hp.length + 1 ∧ L ≤ hp.length + 1 + 1 := by have := hF.1; omega
  have hh1 := hF.not1 1
  have hh2 : H.contains (hp.length + 1 + 1) = false := hF.not1 2
  have k0 : ArOk (hp.length + 4) (hp.length + 1) (hp.length + 1 + 1) H (Arn.new (l.length + 1)) := ArOk.new (by omega) (by omega) (by omega) (by omega) hh1 hh2
  have k1 : ArOk (hp.length + 4) (hp.length + 1) (hp.length + 1 + 1) H (Arn.laid (l.length + 1) (List.replicate l.length 0)) := ArOk.laid (by omega) (by omega) (by omega) hz (by simp) (by omega) hh1 hh2
  have e4 : ∀ B0 B1 : Blk, hp.length + 4 ≤ (hp ++ [B0, default, default, B1]).length := fun _ _ => by simp
  have tk0 := fun B0 B1 => take_walk (d := []) (hp := hp ++ [B0, default, default, B1]) (r := hp.length + 1) (q := hp.length + 1 + 1) (L := L) (H := H) (hF.mono (by simp)) (k0.mono (e4 B0 B1)) hw 0
  have tk1 := fun B0 B1 => take_walk (d := []) (hp := hp ++ [B0, default, default, B1]) (r := hp.length + 1) (q := hp.length + 1 + 1) (L := L) (H := H) (hF.mono (by simp)) (k0.mono (e4 B0 B1)) hw l.length
  have tk2 := fun B0 B1 => take_walk (d := []) (hp := hp ++ [B0, default, default, B1]) (r := hp.length + 1) (q := hp.length + 1 + 1) (L := L) (H := H) (hF.mono (by simp)) (k1.mono (e4 B0 B1)) hw 0
  have st := fun B0 B1 => store_walk (d := []) (hp := hp ++ [B0, default, default, B1]) (r := hp.length + 1) (q := hp.length + 1 + 1) (L := L) (H := H) (by omega : l.length ≤ 1048576) (hF.mono (by simp)) (k1.mono (e4 B0 B1)) hw 0 l.length 0 (fun nw => by rw [List.append_assoc]; exact hr.put (by omega) (by omega))
  simp only [t0] at tk0
  simp only [t1] at tk1
  simp only [t2] at tk2
  simp only [hpart, hst] at st
  rw [Lrun_sym 42 _ _ fn42]
  simp (disch := (first | omega | (simp only [lnE, put_length] <;> omega) | (refine Fit.mono ‹Fit _ _ _› ?_ <;> (simp only [lnE, put_length] <;> omega)) | (refine Fit.draw ‹Fit _ _ _› ?_ ?_ <;> (simp only [lnE, put_length] <;> omega)) | (refine Fit.hid1 ‹Fit _ _ _› ?_ ?_ <;> (simp only [lnE, put_length] <;> omega)) | (refine Fit.draw1 ‹Fit _ _ _› ?_ ?_ ?_ <;> (simp only [lnE, put_length] <;> omega)) | (refine Fit.range0 ?_ ?_ <;> (simp only [lnE, put_length] <;> omega)) | (refine ArOk.mono ‹ArOk _ _ _ _ _› ?_ <;> (simp only [lnE, put_length] <;> omega)) | (refine ArOk.hid ‹ArOk _ _ _ _ _› ?_ ?_ <;> (simp only [lnE, put_length] <;> omega)) | (refine ArOk.hid0 ‹ArOk _ _ _ _ _› ?_ ?_ <;> (simp only [lnE, put_length] <;> omega)) | ((intro xr hxr; simp [AM.refs, refsF, refsC] at hxr) <;> (simp only [lnE, put_length] <;> omega)) | fail)) only [syA, syB, argFr, D, E, T, C, undefv, eqF, aeq, sheqs, sheq, rdCells, cellsOf, fill, putAt, if_true, if_false, reduceIte, ↓reduceIte, reduceCtorEq, eq_self, Nat.reduceEqDiff, Nat.reduceAdd, Nat.reduceSub, Nat.reduceMul, Nat.reduceLT, Nat.reduceLeDiff, Nat.reducePow, Nat.reduceDiv, Nat.reduceMod, Int.reduceLT, Int.reduceLE, Int.reduceGT, Int.reduceGE, Int.reduceToNat, Int.reducePow, Int.reduceNeg, Int.reduceBEq, Int.reduceBNe, Int.reduceEq, Int.reduceAdd, Int.reduceSub, Int.reduceMul, cellv, sc, flatv, refs, refsF, refsC, syR, Int.le_refl, hF.not0, hF.not1, hF.up0, hF.up1, ac42, hlen, new_walk, c1, c2, c3, tk0, tk1, tk2, st, rep6]
  rw [iter_by lb42_1.eq_1]
  simp (disch := (first | omega | (simp only [lnE, put_length] <;> omega) | (refine Fit.mono ‹Fit _ _ _› ?_ <;> (simp only [lnE, put_length] <;> omega)) | (refine Fit.draw ‹Fit _ _ _› ?_ ?_ <;> (simp only [lnE, put_length] <;> omega)) | (refine Fit.hid1 ‹Fit _ _ _› ?_ ?_ <;> (simp only [lnE, put_length] <;> omega)) | (refine Fit.draw1 ‹Fit _ _ _› ?_ ?_ ?_ <;> (simp only [lnE, put_length] <;> omega)) | (refine Fit.range0 ?_ ?_ <;> (simp only [lnE, put_length] <;> omega)) | (refine ArOk.mono ‹ArOk _ _ _ _ _› ?_ <;> (simp only [lnE, put_length] <;> omega)) | (refine ArOk.hid ‹ArOk _ _ _ _ _› ?_ ?_ <;> (simp only [lnE, put_length] <;> omega)) | (refine ArOk.hid0 ‹ArOk _ _ _ _ _› ?_ ?_ <;> (simp only [lnE, put_length] <;> omega)) | ((intro xr hxr; simp [AM.refs, refsF, refsC] at hxr) <;> (simp only [lnE, put_length] <;> omega)) | fail)) only [syA, syB, argFr, D, E, T, C, undefv, eqF, aeq, sheqs, sheq, rdCells, cellsOf, fill, putAt, if_true, if_false, reduceIte, ↓reduceIte, reduceCtorEq, eq_self, Nat.reduceEqDiff, Nat.reduceAdd, Nat.reduceSub, Nat.reduceMul, Nat.reduceLT, Nat.reduceLeDiff, Nat.reducePow, Nat.reduceDiv, Nat.reduceMod, Int.reduceLT, Int.reduceLE, Int.reduceGT, Int.reduceGE, Int.reduceToNat, Int.reducePow, Int.reduceNeg, Int.reduceBEq, Int.reduceBNe, Int.reduceEq, Int.reduceAdd, Int.reduceSub, Int.reduceMul, cellv, sc, flatv, refs, refsF, refsC, syR, Int.le_refl, hF.not0, hF.not1, hF.up0, hF.up1]
  rw [iter_by lb42_0.eq_1]
  simp (disch := (first | omega | (simp only [lnE, put_length] <;> omega) | (refine Fit.mono ‹Fit _ _ _› ?_ <;> (simp only [lnE, put_length] <;> omega)) | (refine Fit.draw ‹Fit _ _ _› ?_ ?_ <;> (simp only [lnE, put_length] <;> omega)) | (refine Fit.hid1 ‹Fit _ _ _› ?_ ?_ <;> (simp only [lnE, put_length] <;> omega)) | (refine Fit.draw1 ‹Fit _ _ _› ?_ ?_ ?_ <;> (simp only [lnE, put_length] <;> omega)) | (refine Fit.range0 ?_ ?_ <;> (simp only [lnE, put_length] <;> omega)) | (refine ArOk.mono ‹ArOk _ _ _ _ _› ?_ <;> (simp only [lnE, put_length] <;> omega)) | (refine ArOk.hid ‹ArOk _ _ _ _ _› ?_ ?_ <;> (simp only [lnE, put_length] <;> omega)) | (refine ArOk.hid0 ‹ArOk _ _ _ _ _› ?_ ?_ <;> (simp only [lnE, put_length] <;> omega)) | ((intro xr hxr; simp [AM.refs, refsF, refsC] at hxr) <;> (simp only [lnE, put_length] <;> omega)) | fail)) only [syA, syB, argFr, D, E, T, C, undefv, eqF, aeq, sheqs, sheq, rdCells, cellsOf, fill, putAt, if_true, if_false, reduceIte, ↓reduceIte, reduceCtorEq, eq_self, Nat.reduceEqDiff, Nat.reduceAdd, Nat.reduceSub, Nat.reduceMul, Nat.reduceLT, Nat.reduceLeDiff, Nat.reducePow, Nat.reduceDiv, Nat.reduceMod, Int.reduceLT, Int.reduceLE, Int.reduceGT, Int.reduceGE, Int.reduceToNat, Int.reducePow, Int.reduceNeg, Int.reduceBEq, Int.reduceBNe, Int.reduceEq, Int.reduceAdd, Int.reduceSub, Int.reduceMul, cellv, sc, flatv, refs, refsF, refsC, syR, Int.le_refl, hF.not0, hF.not1, hF.up0, hF.up1, st]
  rw [gc_put_new (by omega) (by simp) (by omega) (by simp) (by omega) (by simp [refs, refsF, refsC])]
  simp [gcX, ren, renF, renC, joinDirty, List.idxOf, List.findIdx_cons]
theorem laid_one (l : List Nat) : Arn.laid (l.length + 1) l = ⟨[] ++ (l ++ [0]), l.length, l.length⟩ := by
  simp [Arn.laid]
theorem laid_one' {l m : List Nat} (h : m.length = l.length) : Arn.laid (l.length + 1) m = ⟨[] ++ (m ++ [0]), l.length, l.length⟩ := by
  simp [Arn.laid, h]
theorem laid_turn {hp : List Blk} {L r q : Nat} {H d : List Nat} {l : List Nat} (hF : Fit hp.length L H) (hw : L ≤ r ∧ L ≤ q) (h0 : 0 < l.length) (hl : l.length ≤ 1000) (k : ArOk hp.length r q H (Arn.laid (l.length + 1) l)) :
    Lrun env (.func 44) [arP r, .agg #[.int .i64 0, .int .i64 l.length]] ⟨put hp r q (Arn.laid (l.length + 1) l), L, H, d⟩ = some (.tuple #[.int .i64 (turnR l).2.1, .int .i64 (turnR l).2.2, .int .i64 0], ⟨put hp r q (Arn.laid (l.length + 1) (turnR l).1), L, H, d⟩) := by
  have hlen := (turnR_len l).1
  rw [show Arn.laid (l.length + 1) (turnR l).1 = ⟨[] ++ ((turnR l).1 ++ [0]), l.length, l.length⟩ by rw [← laid_one' hlen]]
  rw [laid_one] at k ⊢
  exact (turn_walk hF hw (by omega) (by simp) (by simp) (by omega) (by omega) (by omega) k).2
theorem put_flat (hp nw : List Blk) (A : Arn) : put (hp ++ (default :: default :: nw)) hp.length (hp.length + 1) A = hp ++ (arB (hp.length + 1) A :: byB A :: nw) := by
  have := put_app (hp := hp ++ [default, default]) (nw := nw) (r := hp.length) (q := hp.length + 1) (A := A) (by simp) (by simp)
  rw [← put_new] at this
  simpa using this.symm
theorem turned_walk {hp : List Blk} {L : Nat} {H d : List Nat} {v : Value} {l : List Nat} (hF : Fit hp.length L H) (hr : Rd ⟨hp, L, H, []⟩ v l) (h0 : 0 < l.length) (hl : l.length ≤ 1000) :
    Lrun env (.func 38) [v] ⟨hp, L, H, d⟩ =
      some (.tuple #[sl hp.length l.length (some (turnR l).1), .int .i64 (turnR l).2.1, .int .i64 (turnR l).2.2, .bool true], ⟨hp ++ slB l.length (some (turnR l).1), L, H, d⟩) := by
  have hlen := (turnR_len l).1
  have hw : L ≤ hp.length ∧ L ≤ hp.length + 1 := by have := hF.1; omega
  have hh1 := hF.not0
  have hh2 := hF.not1 1
  have k1 : ArOk (hp.length + 2) hp.length (hp.length + 1) H (Arn.laid (l.length + 1) l) := ArOk.laid (by omega) (by omega) (by omega) hr.by_ (by omega) (by omega) hh1 hh2
  have k2 : ArOk (hp.length + 2) hp.length (hp.length + 1) H (Arn.laid (l.length + 1) (turnR l).1) := ArOk.laid (by omega) (by omega) (by omega) (turnR_by l hr.by_) (by omega) (by omega) hh1 hh2
  have sw := stands_walk (d := []) hF hr hl
  have e3 : ∀ B : Blk, hp.length + 2 ≤ (hp ++ [default, default, B]).length := fun _ => by simp
  have tw := fun B => laid_turn (d := []) (hp := hp ++ [default, default, B]) (r := hp.length) (q := hp.length + 1) (hF.mono (by simp)) hw h0 hl (k1.mono (e3 B))
  have lw := fun B => load_walk (d := []) (hp := hp ++ [default, default, B]) (r := hp.length) (q := hp.length + 1) (L := L) (H := H) (hF.mono (by simp)) (k2.mono (e3 B)) 0 l.length
  have hload := laid_load (N := l.length + 1) (l := (turnR l).1)
  rw [hlen] at hload
  simp only [hload] at lw
  rw [Lrun_sym 38 _ _ fn38]
  simp (disch := (first | omega | (simp only [lnE, put_length] <;> omega) | (refine Fit.mono ‹Fit _ _ _› ?_ <;> (simp only [lnE, put_length] <;> omega)) | (refine Fit.draw ‹Fit _ _ _› ?_ ?_ <;> (simp only [lnE, put_length] <;> omega)) | (refine Fit.hid1 ‹Fit _ _ _› ?_ ?_ <;> (simp only [lnE, put_length] <;> omega)) | (refine Fit.draw1 ‹Fit _ _ _› ?_ ?_ ?_ <;> (simp only [lnE, put_length] <;> omega)) | (refine Fit.range0 ?_ ?_ <;> (simp only [lnE, put_length] <;> omega)) | (refine ArOk.mono ‹ArOk _ _ _ _ _› ?_ <;> (simp only [lnE, put_length] <;> omega)) | (refine ArOk.hid ‹ArOk _ _ _ _ _› ?_ ?_ <;> (simp only [lnE, put_length] <;> omega)) | (refine ArOk.hid0 ‹ArOk _ _ _ _ _› ?_ ?_ <;> (simp only [lnE, put_length] <;> omega)) | ((intro xr hxr; simp [AM.refs, refsF, refsC] at hxr) <;> (simp only [lnE, put_length] <;> omega)) | fail)) only [syA, syB, argFr, D, E, T, C, undefv, eqF, aeq, sheqs, sheq, rdCells, cellsOf, fill, putAt, if_true, if_false, reduceIte, ↓reduceIte, reduceCtorEq, eq_self, Nat.reduceEqDiff, Nat.reduceAdd, Nat.reduceSub, Nat.reduceMul, Nat.reduceLT, Nat.reduceLeDiff, Nat.reducePow, Nat.reduceDiv, Nat.reduceMod, Int.reduceLT, Int.reduceLE, Int.reduceGT, Int.reduceGE, Int.reduceToNat, Int.reducePow, Int.reduceNeg, Int.reduceBEq, Int.reduceBNe, Int.reduceEq, Int.reduceAdd, Int.reduceSub, Int.reduceMul, cellv, sc, flatv, refs, refsF, refsC, syR, Int.le_refl, hF.not0, hF.not1, hF.up0, hF.up1, ac38, sw, tw, lw, rep6, hlen, sl_some, slB_some]
  rw [put_flat, gc_new]
  have he : (refs (.tuple #[.slice (some ⟨hp.length + 3, 0, some l.length⟩) l.length 1, .int .i64 (turnR l).2.1, .int .i64 (turnR l).2.2, .bool true])).isEmpty = false := by simp [refs, refsF, refsC]
  rw [he, gc_keep 3 rfl (by simp [refs, refsF, refsC]) (by simp [refs, refsF, refsC])]
  simp (disch := (first | omega | (simp only [lnE] <;> omega) | (refine Fit.mono ‹Fit _ _ _› ?_ <;> (simp only [lnE] <;> omega)) | (refine Fit.draw ‹Fit _ _ _› ?_ ?_ <;> (simp only [lnE] <;> omega)) | (refine Fit.hid1 ‹Fit _ _ _› ?_ ?_ <;> (simp only [lnE] <;> omega)) | (refine Fit.draw1 ‹Fit _ _ _› ?_ ?_ ?_ <;> (simp only [lnE] <;> omega)) | (refine Fit.range0 ?_ ?_ <;> (simp only [lnE] <;> omega)) | fail)) only [syA, syB, argFr, D, E, T, C, undefv, eqF, aeq, sheqs, sheq, rdCells, cellsOf, fill, putAt, if_true, if_false, reduceIte, ↓reduceIte, reduceCtorEq, eq_self, Nat.reduceEqDiff, Nat.reduceAdd, Nat.reduceSub, Nat.reduceMul, Nat.reduceLT, Nat.reduceLeDiff, Nat.reducePow, Nat.reduceDiv, Nat.reduceMod, Int.reduceLT, Int.reduceLE, Int.reduceGT, Int.reduceGE, Int.reduceToNat, Int.reducePow, Int.reduceNeg, Int.reduceBEq, Int.reduceBNe, Int.reduceEq, Int.reduceAdd, Int.reduceSub, Int.reduceMul, cellv, sc, flatv, refs, refsF, refsC, hF.not0, hF.not1, hF.up0, hF.up1, ren, renF, renC, one_new, List.map_cons, List.map_nil]
end ArA
end Go.Proofs.Ytfefeikkjebfoaa
