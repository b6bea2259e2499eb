/-
  HEADERS: the law of matching, run on the abstract machine. Conditions: none.
-/
import Derived.Test.YtpjjkmfidghkjaaHrQ
import Derived.Test.YtpjjkmfidghkjaaHdX
set_option linter.all false
namespace Go.Proofs.Ytpjjkmfidghkjaa
namespace VarA
open Go Go.RowKit AM ArEnv

set_option maxHeartbeats 4000000 in
theorem match_tail {N n M P s1 s2 s3 s4 t1 t2 t3 t4 t5 t7 ex ep : Int} {S t6 c gx gp : Nat} {X PX : Option (List Nat)} (hS : S < 4294967296) (h6 : t6 < 4294967296) (hc : c < 256) (hs2 : s2 ≤ 9223372036854775807) (ht2 : t2 ≤ 9223372036854775807) {hp : List Blk} {a : Option Addr} {e : Nat} {l : List Nat} (hr : Rd ⟨hp, hp.length, [], []⟩ (.slice a l.length e) l)
    (hput : ∀ nw, Lrun env (.func 8) [.agg #[.int .i64 N]] ⟨hp ++ nw, hp.length, [], []⟩ = some (.tuple #[sl (hp ++ nw).length gx X, .int .i64 ex], ⟨hp ++ nw ++ slB gx X, hp.length, [], []⟩))
    (hrput : ∀ nw, Lrun env (.func 9) [.agg #[.int .i64 N]] ⟨hp ++ nw, hp.length, [], []⟩ = some (.tuple #[sl (hp ++ nw).length gx X, .int .i64 ex], ⟨hp ++ nw ++ slB gx X, hp.length, [], []⟩))
    (hpb : ∀ nw, Lrun env (.func 10) [.int .i64 n, .agg #[.int .i64 M, .int .i64 P, .int .u32 S]] ⟨hp ++ nw, hp.length, [], []⟩ = some (.tuple #[sl (hp ++ nw).length gp PX, .int .i64 ep], ⟨hp ++ nw ++ slB gp PX, hp.length, [], []⟩))
    (hrpb : ∀ nw, Lrun env (.func 11) [.int .i64 n, .agg #[.int .i64 M, .int .i64 P, .int .u32 S]] ⟨hp ++ nw, hp.length, [], []⟩ = some (.tuple #[sl (hp ++ nw).length gp PX, .int .i64 ep], ⟨hp ++ nw ++ slB gp PX, hp.length, [], []⟩)) :
    ∃ σ', Lrun env (.func 3) [.agg #[.int .i64 N], .int .i64 n, .agg #[.int .i64 M, .int .i64 P, .int .u32 S], .agg #[.int .i64 s1, .int .i64 s2, .int .i64 s3, .int .i64 s4], .agg #[.int .i64 t1, .int .i64 t2, .int .i64 t3, .int .i64 t4, .int .i64 t5, .int .u32 t6, .int .i64 t7], .int .u8 c, .slice a l.length e] ⟨hp, hp.length, [], []⟩ = some (.bool true, σ') := by
  have hF : Fit hp.length hp.length [] := ⟨Nat.le_refl _, Low.nil _⟩
  rw [Lrun_sym 3 _ _ fn3]
  by_cases c1 : (l.length : Int) > 60
  · simp (disch := (first | omega | (simp only [lnE] <;> omega) | (refine Fit.mono ‹Fit _ _ _› ?_ <;> (simp only [lnE] <;> omega)) | (refine Fit.draw ‹Fit _ _ _› ?_ ?_ <;> (simp only [lnE] <;> omega)) | (refine Fit.hid1 ‹Fit _ _ _› ?_ ?_ <;> (simp only [lnE] <;> omega)) | (refine Fit.hidc1 ‹Fit _ _ _› ?_ ?_ <;> (simp only [lnE] <;> omega)) | (refine Fit.hidc2 ‹Fit _ _ _› ?_ ?_ ?_ <;> (simp only [lnE] <;> omega)) | (refine Fit.draw1 ‹Fit _ _ _› ?_ ?_ ?_ <;> (simp only [lnE] <;> omega)) | (refine Fit.range0 ?_ ?_ <;> (simp only [lnE] <;> omega)) | fail)) only [syA, syB, argFr, D, E, T, C, undefv, eqF, aeq, sheqs, sheq, rdCells, cellsOf, fill, putAt, if_true, if_false, reduceIte, ↓reduceIte, reduceCtorEq, eq_self, Nat.reduceEqDiff, Nat.reduceAdd, Nat.reduceSub, Nat.reduceMul, Nat.reduceLT, Nat.reduceLeDiff, Nat.reducePow, Nat.reduceDiv, Nat.reduceMod, Int.reduceLT, Int.reduceLE, Int.reduceGT, Int.reduceGE, Int.reduceToNat, Int.reducePow, Int.reduceNeg, Int.reduceBEq, Int.reduceBNe, Int.reduceEq, Int.reduceAdd, Int.reduceSub, Int.reduceMul, cellv, sc, flatv, refs, refsF, refsC, hF.not0, hF.not1, hF.up0, hF.up1, ac3, c1, wakes_walk24]
    exact ⟨_, rfl⟩
  have hpe := fun nw L' H' (hF : Fit (hp ++ nw).length L' H') => putend_walk S hS (hp := hp ++ nw) (L := L') (H := H') (d := []) hF
  have hrpe := fun nw L' H' (hF : Fit (hp ++ nw).length L' H') => rputend_walk S hS (hp := hp ++ nw) (L := L') (H := H') (d := []) hF
  have hval := fun nw L' H' (hF : Fit (hp ++ nw).length L' H') => hvalid_walk s1 s2 s3 s4 (hp := hp ++ nw) (L := L') (H := H') (d := []) hF
  have hrval := fun nw L' H' (hF : Fit (hp ++ nw).length L' H') => rvalid_walk s1 s2 s3 s4 hs2 (hp := hp ++ nw) (L := L') (H := H') (d := []) hF
  have hmv := fun nw L' H' (hF : Fit (hp ++ nw).length L' H') => mvalid_walk n t2 t3 t4 t5 t7 t6 (hp := hp ++ nw) (L := L') (H := H') (d := []) t1 h6 hF
  have hrmv := fun nw L' H' (hF : Fit (hp ++ nw).length L' H') => rvmv_walk n t1 t2 t3 t4 t5 t7 t6 ht2 h6 (hp := hp ++ nw) (L := L') (H := H') (d := []) hF
  simp only [rvalid_eq] at hrval
  generalize hValid ⟨s1, s2, s3, s4⟩ = b1 at hval hrval
  generalize mValid n ⟨t1, t2, t3, t4, t5, t6, t7⟩ = b2 at hmv hrmv
  have hlE : (endOf S).length = 5 := rfl
  have hbE : bytesv (List.take 5 (u8s (endOf S))) = some (b8 (endOf S)) := by rw [show List.take 5 (u8s (endOf S)) = u8s (endOf S) from rfl, bytesv_u8s]
  simp only [sl_some, slB_some, hlE] at hpe hrpe
  have b1eq : (b1 == b1) = true := by simp
  have b2eq : (b2 == b2) = true := by simp
  have hst := fun nw L' H' (hF : Fit (hp ++ nw).length L' H') => hstep_walk s1 s2 s3 s4 c (by omega) (by omega) (hp := hp ++ nw) (L := L') (H := H') (d := []) hF
  have hrst := fun nw L' H' (hF : Fit (hp ++ nw).length L' H') => rstep_walk s1 s2 s3 s4 c hs2 (by omega) (by omega) (hp := hp ++ nw) (L := L') (H := H') (d := []) hF
  simp only [rstep_eq _ hc] at hrst
  generalize hStep ⟨s1, s2, s3, s4⟩ c = g1 at hst hrst
  obtain ⟨⟨x1, x2, x3, x4⟩, dn, er⟩ := g1
  simp only [hsV] at hst hrst
  have dneq : (dn == dn) = true := by simp
  have hsm := fun nw L' H' (hF : Fit (hp ++ nw).length L' H') => stepmark_walk n t2 t3 t4 t5 t7 t6 c t1 h6 hc (hp := hp ++ nw) (L := L') (H := H') (d := []) hF
  have hrsm := fun nw L' H' (hF : Fit (hp ++ nw).length L' H') => rstepmark_walk n t1 t2 t3 t4 t5 t7 t6 c ht2 h6 hc (hp := hp ++ nw) (L := L') (H := H') (d := []) hF
  generalize mStep n ⟨t1, t2, t3, t4, t5, t6, t7⟩ c = g2 at hsm hrsm
  obtain ⟨⟨y1, y2, y3, y4, y5, y6, y7⟩, dm, em⟩ := g2
  simp only [mV] at hsm hrsm
  have dmeq : (dm == dm) = true := by simp
  have hht := fun nw => htake_walk (d := []) (hp := hp ++ nw) (L := hp.length) (H := []) (hF.mono (by simp)) (hr.app (nw := nw) (L' := hp.length) (d' := [])) (by omega)
  have hrt := fun nw => rtake_walk (d := []) (hp := hp ++ nw) (L := hp.length) (H := []) (hF.mono (by simp)) (hr.app (nw := nw) (L' := hp.length) (d' := [])) (by omega)
  simp only [rtake_eq l ⟨0, 0, 0, 0⟩ hr.by_ rfl (by decide)] at hrt
  generalize hTake ⟨0, 0, 0, 0⟩ l = g3 at hht hrt
  obtain ⟨z, Z, ez⟩ := g3
  have hmt := fun nw => mtake_walk (d := []) (hp := hp ++ nw) (L := hp.length) (H := []) n (hF.mono (by simp)) (hr.app (nw := nw) (L' := hp.length) (d' := [])) (by omega)
  have hrmt := fun nw => rtm_walk (d := []) (hp := hp ++ nw) (L := hp.length) (H := []) n (hF.mono (by simp)) (hr.app (nw := nw) (L' := hp.length) (d' := [])) (by omega)
  generalize mTakeN n l = g4 at hmt hrmt
  obtain ⟨⟨w1, w2, w3, w4, w5, w6, w7⟩, W, ew⟩ := g4
  simp only [htV, mtV] at hht hrt hmt hrmt
  cases X <;> cases PX <;> cases Z <;> cases W
  all_goals
    simp only [sl_none, slB_none, sl_some, slB_some, Option.getD_some, Option.getD_none, List.append_nil, List.length_nil] at hput hrput hpb hrpb hht hrt hmt hrmt
    simp (disch := (first | omega | (simp only [lnE] <;> omega) | (refine Fit.mono ‹Fit _ _ _› ?_ <;> (simp only [lnE] <;> omega)) | (refine Fit.draw ‹Fit _ _ _› ?_ ?_ <;> (simp only [lnE] <;> omega)) | (refine Fit.hid1 ‹Fit _ _ _› ?_ ?_ <;> (simp only [lnE] <;> omega)) | (refine Fit.hidc1 ‹Fit _ _ _› ?_ ?_ <;> (simp only [lnE] <;> omega)) | (refine Fit.hidc2 ‹Fit _ _ _› ?_ ?_ ?_ <;> (simp only [lnE] <;> omega)) | (refine Fit.draw1 ‹Fit _ _ _› ?_ ?_ ?_ <;> (simp only [lnE] <;> omega)) | (refine Fit.range0 ?_ ?_ <;> (simp only [lnE] <;> omega)) | fail)) only [syA, syB, argFr, D, E, T, C, undefv, eqF, aeq, sheqs, sheq, rdCells, cellsOf, fill, putAt, if_true, if_false, reduceIte, ↓reduceIte, reduceCtorEq, eq_self, Nat.reduceEqDiff, Nat.reduceAdd, Nat.reduceSub, Nat.reduceMul, Nat.reduceLT, Nat.reduceLeDiff, Nat.reducePow, Nat.reduceDiv, Nat.reduceMod, Int.reduceLT, Int.reduceLE, Int.reduceGT, Int.reduceGE, Int.reduceToNat, Int.reducePow, Int.reduceNeg, Int.reduceBEq, Int.reduceBNe, Int.reduceEq, Int.reduceAdd, Int.reduceSub, Int.reduceMul, cellv, sc, flatv, refs, refsF, refsC, hF.not0, hF.not1, hF.up0, hF.up1, ac3, c1, hput, hrput, hpb, hrpb, hpe, hrpe, hval, hrval, hmv, hrmv, hlE, hbE, b1eq, b2eq, hst, hrst, hsm, hrsm, dneq, dmeq, hht, hrt, hmt, hrmt, rep5, rep7, wakes_walk24]
    exact ⟨_, rfl⟩
theorem match_run24 (N n M P : Int) (S : Nat) (s1 s2 s3 s4 t1 t2 t3 t4 t5 t7 : Int) (t6 c : Nat) (hS : S < 4294967296) (h6 : t6 < 4294967296) (hc : c < 256) (hs2 : s2 ≤ 9223372036854775807) (ht2 : t2 ≤ 9223372036854775807) {hp : List Blk} {v : Value} {l : List Nat} (hr : Rd ⟨hp, hp.length, [], []⟩ v l) :
    ∃ σ', Lrun env (.func 3) [.agg #[.int .i64 N], .int .i64 n, .agg #[.int .i64 M, .int .i64 P, .int .u32 S], .agg #[.int .i64 s1, .int .i64 s2, .int .i64 s3, .int .i64 s4], .agg #[.int .i64 t1, .int .i64 t2, .int .i64 t3, .int .i64 t4, .int .i64 t5, .int .u32 t6, .int .i64 t7], .int .u8 c, v] ⟨hp, hp.length, [], []⟩ = some (.bool true, σ') := by
  have hF : Fit hp.length hp.length [] := ⟨Nat.le_refl _, Low.nil _⟩
  obtain ⟨a, e, rfl⟩ := hr.len
  have hA : ∃ gx X ex, (∀ nw, Lrun env (.func 8) [.agg #[.int .i64 N]] ⟨hp ++ nw, hp.length, [], []⟩ = some (.tuple #[sl (hp ++ nw).length gx X, .int .i64 ex], ⟨hp ++ nw ++ slB gx X, hp.length, [], []⟩)) ∧ (∀ nw, Lrun env (.func 9) [.agg #[.int .i64 N]] ⟨hp ++ nw, hp.length, [], []⟩ = some (.tuple #[sl (hp ++ nw).length gx X, .int .i64 ex], ⟨hp ++ nw ++ slB gx X, hp.length, [], []⟩)) := by
    by_cases h : N < 1 ∨ 65536 < N
    · refine ⟨0, none, 2, fun nw => ?_, fun nw => ?_⟩
      · rw [sl_none, slB_none, List.append_nil]; exact hput_bad N h (hF.mono (by simp))
      · rw [sl_none, slB_none, List.append_nil]; exact rput_bad N h (hF.mono (by simp))
    · obtain ⟨x, rfl⟩ : ∃ x : Nat, N = x := ⟨N.toNat, by omega⟩
      exact ⟨_, _, _, fun nw => hput_good x (by omega) (by omega) (hF.mono (by simp)), fun nw => rput_good x (by omega) (by omega) (hF.mono (by simp))⟩
  have hB : ∃ gp PX ep, (∀ nw, Lrun env (.func 10) [.int .i64 n, .agg #[.int .i64 M, .int .i64 P, .int .u32 S]] ⟨hp ++ nw, hp.length, [], []⟩ = some (.tuple #[sl (hp ++ nw).length gp PX, .int .i64 ep], ⟨hp ++ nw ++ slB gp PX, hp.length, [], []⟩)) ∧ (∀ nw, Lrun env (.func 11) [.int .i64 n, .agg #[.int .i64 M, .int .i64 P, .int .u32 S]] ⟨hp ++ nw, hp.length, [], []⟩ = some (.tuple #[sl (hp ++ nw).length gp PX, .int .i64 ep], ⟨hp ++ nw ++ slB gp PX, hp.length, [], []⟩)) := by
    by_cases h : (1 ≤ n ∧ n ≤ 65536) ∧ (1 ≤ M ∧ M ≤ n) ∧ (1 ≤ P ∧ P ≤ M)
    · obtain ⟨m, rfl⟩ : ∃ x : Nat, M = x := ⟨M.toNat, by omega⟩
      obtain ⟨p, rfl⟩ : ∃ x : Nat, P = x := ⟨P.toNat, by omega⟩
      exact ⟨_, _, _, fun nw => putblock_good n m p S h.1 (by omega) (by omega) hS (hF.mono (by simp)), fun nw => rputblock_good n m p S h.1 (by omega) (by omega) hS (hF.mono (by simp))⟩
    · refine ⟨0, none, 2, fun nw => ?_, fun nw => ?_⟩
      · rw [sl_none, slB_none, List.append_nil]; exact putblock_bad n M P S h (hF.mono (by simp))
      · rw [sl_none, slB_none, List.append_nil]; exact rputblock_bad n M P S h (hF.mono (by simp))
  obtain ⟨gx, X, ex, a1, a2⟩ := hA
  obtain ⟨gp, PX, ep, b1, b2⟩ := hB
  exact match_tail hS h6 hc hs2 ht2 hr a1 a2 b1 b2
end VarA
end Go.Proofs.Ytpjjkmfidghkjaa
