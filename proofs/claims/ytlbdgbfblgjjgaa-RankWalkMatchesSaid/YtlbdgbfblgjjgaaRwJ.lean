/-
  RankWalkMatches: a walk and the reference return the same results for every call: the run. Conditions: none.
-/
import Derived.Test.YtlbdgbfblgjjgaaRwH
set_option linter.all false
namespace Go.Proofs.Ytlbdgbfblgjjgaa
namespace AM
open Go Go.RowKit
/-- A slice of integers that can be read. -/
structure Ri (hp : List Blk) (v : Value) (zs : List Int) : Prop where
  form : (v = .slice none 0 0 ∧ zs = []) ∨ ∃ b, v = .slice (some ⟨b, 0, some 0⟩) zs.length 0 ∧ hp[b]? = some (.cells 0 true (zs.map (Value.int .i64)))
theorem Ri.lenF {hp : List Blk} {v : Value} {zs : List Int} (h : Ri hp v zs) : lenF v = some (.int .i64 zs.length) := by
  rcases h.form with ⟨rfl, rfl⟩ | ⟨b, rfl, _⟩ <;> rfl
theorem Ri.at_ {hp : List Blk} {v : Value} {zs : List Int} (h : Ri hp v zs) {i : Nat} (hi : i < zs.length) : ∃ b, v = .slice (some ⟨b, 0, some 0⟩) zs.length 0 ∧ b < hp.length ∧ hp[b]? = some (.cells 0 true (zs.map (Value.int .i64))) ∧ (zs.map (Value.int .i64))[i]? = some (.int .i64 zs[i]) := by
  rcases h.form with ⟨rfl, rfl⟩ | ⟨b, rfl, hb⟩
  · simp at hi
  · exact ⟨b, rfl, (List.getElem?_eq_some_iff.1 hb).1, hb, by simp [hi]⟩
end AM
namespace ArA
open Go Go.RowKit AM ArEnv
/-- The cells of the reference's walk. -/
def rB (v : Value) (ix kk row told st : Nat) : Blk := .cells 0 false [v, .int .i64 ix, .int .i64 kk, .int .i64 row, .int .i64 told, .int .i64 st]
abbrev rfP (u : Nat) : Value := .pointer (some ⟨u, 0, some 0⟩)
section
variable {L : Nat} {H d : List Nat} {u ix kk : Nat} {v : Value} {x : List Nat}
structure RfOk (hq : List Blk) (u : Nat) (L : Nat) (H : List Nat) (v : Value) (x : List Nat) (ix kk : Nat) : Prop where
  fit : Fit hq.length L H
  un : u < hq.length
  uL : L ≤ u
  hid : H.contains u = false
  rd : ∀ B, Rd ⟨hq.set u B, L, H, []⟩ v x
  kk1 : 1 ≤ kk
  ixm : ix ≤ x.length
  small : x.length ≤ 65536
theorem fbehind_none {hq : List Blk} (k : RfOk hq u L H v x ix kk) {row told st : Nat} :
    Lrun env (.func 60) [rfP u, .int .i64 ix] ⟨hq.set u (rB v ix kk row told st), L, H, d⟩ = some (.tuple #[.int .i64 0, .int .u8 0, .bool false], ⟨hq.set u (rB v ix kk row told st), L, H, d⟩) := by
  have hF := k.fit
  have hid := k.hid
  have hget : (hq.set u (rB v ix kk row told st))[u]? = some (rB v ix kk row told st) := List.getElem?_set_self k.un
  have hlen : ∀ B, (hq.set u B).length = hq.length := fun B => List.length_set
  have n7 := fun d => nx17_bad (d := d) (L := L) (H := H) (hq := hq.set u (rB v ix kk row told st)) (by rw [hlen]; exact hF) (k.rd _) ix ix (by omega)
  have hun := k.un
  have huL : ¬ u < L := by have := k.uL; omega
  unfold rB at hget n7 ⊢
  rw [Lrun_sym 60 _ _ fn60]
  simp (disch := (first | omega | (simp only [lnE, put_length] <;> omega) | (refine Fit.mono ‹Fit _ _ _› ?_ <;> (simp only [lnE, put_length] <;> omega)) | (refine Fit.draw ‹Fit _ _ _› ?_ ?_ <;> (simp only [lnE, put_length] <;> omega)) | (refine Fit.hid1 ‹Fit _ _ _› ?_ ?_ <;> (simp only [lnE, put_length] <;> omega)) | (refine Fit.draw1 ‹Fit _ _ _› ?_ ?_ ?_ <;> (simp only [lnE, put_length] <;> omega)) | (refine Fit.range0 ?_ ?_ <;> (simp only [lnE, put_length] <;> omega)) | (refine ArOk.mono ‹ArOk _ _ _ _ _› ?_ <;> (simp only [lnE, put_length] <;> omega)) | (refine ArOk.hid ‹ArOk _ _ _ _ _› ?_ ?_ <;> (simp only [lnE, put_length] <;> omega)) | (refine ArOk.hid0 ‹ArOk _ _ _ _ _› ?_ ?_ <;> (simp only [lnE, put_length] <;> omega)) | ((intro xr hxr; simp [AM.refs, refsF, refsC] at hxr) <;> (simp only [lnE, put_length] <;> omega)) | fail)) only [syA, syB, argFr, D, E, T, C, undefv, eqF, aeq, sheqs, sheq, rdCells, cellsOf, fill, putAt, if_true, if_false, reduceIte, ↓reduceIte, reduceCtorEq, eq_self, Nat.reduceEqDiff, Nat.reduceAdd, Nat.reduceSub, Nat.reduceMul, Nat.reduceLT, Nat.reduceLeDiff, Nat.reducePow, Nat.reduceDiv, Nat.reduceMod, Int.reduceLT, Int.reduceLE, Int.reduceGT, Int.reduceGE, Int.reduceToNat, Int.reducePow, Int.reduceNeg, Int.reduceBEq, Int.reduceBNe, Int.reduceEq, Int.reduceAdd, Int.reduceSub, Int.reduceMul, cellv, sc, flatv, refs, refsF, refsC, syR, Int.le_refl, hF.not0, hF.not1, hF.up0, hF.up1, ac60, hget, hid, hlen, n7, huL]
theorem fbehind_walk {hq : List Blk} (k : RfOk hq u L H v x ix kk) {row told st p : Nat} (hs : st ≤ 1099511627776) (hp : p ≤ x.length) (hne : p ≠ ix) (hx : atR ix p < x.length) :
    Lrun env (.func 60) [rfP u, .int .i64 p] ⟨hq.set u (rB v ix kk row told st), L, H, d⟩ = some (.tuple #[.int .i64 (nxR x ix p : Nat), .int .u8 (x[atR ix p] : Nat), .bool true], ⟨hq.set u (rB v ix kk row told (st + 1 + atR ix p % kk)), L, H, d⟩) := by
  have hF := k.fit
  have hid := k.hid
  have hget : (hq.set u (rB v ix kk row told st))[u]? = some (rB v ix kk row told st) := List.getElem?_set_self k.un
  have hlen : ∀ B, (hq.set u B).length = hq.length := fun B => List.length_set
  have n7 := fun d => nx17_walk (d := d) (L := L) (H := H) (hq := hq.set u (rB v ix kk row told st)) (by rw [hlen]; exact hF) (k.rd _) (by have := k.small; omega) k.ixm hp hne hx
  have huL : ¬ u < L := by have := k.uL; omega
  have hkk0 : ¬ (kk : Int) = 0 := by have := k.kk1; omega
  have htm : Int.tmod ((atR ix p : Nat) : Int) (kk : Int) = ((atR ix p % kk : Nat) : Int) := by rw [Int.tmod_eq_emod_of_nonneg (by omega)]; rfl
  have hmod : atR ix p % kk ≤ x.length := Nat.le_trans (Nat.mod_le _ _) (by omega)
  have hsm := k.small
  have hst : (st : Int) + 1 + (atR ix p % kk : Nat) = ((st + 1 + atR ix p % kk : Nat) : Int) := by omega
  unfold rB at hget n7 ⊢
  rw [Lrun_sym 60 _ _ fn60]
  by_cases c5 : p > ix
  · have c6 : (p : Int) > ix := by omega
    have c7 : (p : Int) - 1 = (atR ix p : Nat) := by have : atR ix p = p - 1 := if_neg (by omega)
                                                     omega
    generalize nxR x ix p = nx at *
    generalize atR ix p = a at *
    simp (disch := (first | omega | (simp only [lnE, put_length] <;> omega) | (refine Fit.mono ‹Fit _ _ _› ?_ <;> (simp only [lnE, put_length] <;> omega)) | (refine Fit.draw ‹Fit _ _ _› ?_ ?_ <;> (simp only [lnE, put_length] <;> omega)) | (refine Fit.hid1 ‹Fit _ _ _› ?_ ?_ <;> (simp only [lnE, put_length] <;> omega)) | (refine Fit.draw1 ‹Fit _ _ _› ?_ ?_ ?_ <;> (simp only [lnE, put_length] <;> omega)) | (refine Fit.range0 ?_ ?_ <;> (simp only [lnE, put_length] <;> omega)) | (refine ArOk.mono ‹ArOk _ _ _ _ _› ?_ <;> (simp only [lnE, put_length] <;> omega)) | (refine ArOk.hid ‹ArOk _ _ _ _ _› ?_ ?_ <;> (simp only [lnE, put_length] <;> omega)) | (refine ArOk.hid0 ‹ArOk _ _ _ _ _› ?_ ?_ <;> (simp only [lnE, put_length] <;> omega)) | ((intro xr hxr; simp [AM.refs, refsF, refsC] at hxr) <;> (simp only [lnE, put_length] <;> omega)) | fail)) only [syA, syB, argFr, D, E, T, C, undefv, eqF, aeq, sheqs, sheq, rdCells, cellsOf, fill, putAt, if_true, if_false, reduceIte, ↓reduceIte, reduceCtorEq, eq_self, Nat.reduceEqDiff, Nat.reduceAdd, Nat.reduceSub, Nat.reduceMul, Nat.reduceLT, Nat.reduceLeDiff, Nat.reducePow, Nat.reduceDiv, Nat.reduceMod, Int.reduceLT, Int.reduceLE, Int.reduceGT, Int.reduceGE, Int.reduceToNat, Int.reducePow, Int.reduceNeg, Int.reduceBEq, Int.reduceBNe, Int.reduceEq, Int.reduceAdd, Int.reduceSub, Int.reduceMul, cellv, sc, flatv, refs, refsF, refsC, syR, Int.le_refl, hF.not0, hF.not1, hF.up0, hF.up1, ac60, hget, hid, hlen, n7, huL, c6, c7, hkk0, htm, hst, List.set_set]
  · have c6 : ¬ (p : Int) > ix := by omega
    have c7 : atR ix p = p := if_pos (by omega)
    generalize nxR x ix p = nx at *
    generalize hap : atR ix p = a at *
    subst c7
    simp (disch := (first | omega | (simp only [lnE, put_length] <;> omega) | (refine Fit.mono ‹Fit _ _ _› ?_ <;> (simp only [lnE, put_length] <;> omega)) | (refine Fit.draw ‹Fit _ _ _› ?_ ?_ <;> (simp only [lnE, put_length] <;> omega)) | (refine Fit.hid1 ‹Fit _ _ _› ?_ ?_ <;> (simp only [lnE, put_length] <;> omega)) | (refine Fit.draw1 ‹Fit _ _ _› ?_ ?_ ?_ <;> (simp only [lnE, put_length] <;> omega)) | (refine Fit.range0 ?_ ?_ <;> (simp only [lnE, put_length] <;> omega)) | (refine ArOk.mono ‹ArOk _ _ _ _ _› ?_ <;> (simp only [lnE, put_length] <;> omega)) | (refine ArOk.hid ‹ArOk _ _ _ _ _› ?_ ?_ <;> (simp only [lnE, put_length] <;> omega)) | (refine ArOk.hid0 ‹ArOk _ _ _ _ _› ?_ ?_ <;> (simp only [lnE, put_length] <;> omega)) | ((intro xr hxr; simp [AM.refs, refsF, refsC] at hxr) <;> (simp only [lnE, put_length] <;> omega)) | fail)) only [syA, syB, argFr, D, E, T, C, undefv, eqF, aeq, sheqs, sheq, rdCells, cellsOf, fill, putAt, if_true, if_false, reduceIte, ↓reduceIte, reduceCtorEq, eq_self, Nat.reduceEqDiff, Nat.reduceAdd, Nat.reduceSub, Nat.reduceMul, Nat.reduceLT, Nat.reduceLeDiff, Nat.reducePow, Nat.reduceDiv, Nat.reduceMod, Int.reduceLT, Int.reduceLE, Int.reduceGT, Int.reduceGE, Int.reduceToNat, Int.reducePow, Int.reduceNeg, Int.reduceBEq, Int.reduceBNe, Int.reduceEq, Int.reduceAdd, Int.reduceSub, Int.reduceMul, cellv, sc, flatv, refs, refsF, refsC, syR, Int.le_refl, hF.not0, hF.not1, hF.up0, hF.up1, ac60, hget, hid, hlen, n7, huL, c6, hkk0, htm, hst, List.set_set]
theorem fnext_done {hq : List Blk} (k : RfOk hq u L H v x ix kk) {row told st : Nat} (h : told = x.length ∨ row = ix) :
    Lrun env (.func 39) [rfP u] ⟨hq.set u (rB v ix kk row told st), L, H, d⟩ = some (.tuple #[.int .u8 0, .bool false], ⟨hq.set u (rB v ix kk row told st), L, H, d⟩) := by
  have hF := k.fit
  have hid := k.hid
  have hlv := (k.rd default).lenF
  have hget : (hq.set u (rB v ix kk row told st))[u]? = some (rB v ix kk row told st) := List.getElem?_set_self k.un
  have hlen : ∀ B, (hq.set u B).length = hq.length := fun B => List.length_set
  rw [Lrun_sym 39 _ _ fn39]
  by_cases h1 : told = x.length
  · subst h1
    unfold rB at hget ⊢
    simp (disch := (first | omega | (simp only [lnE, put_length] <;> omega) | (refine Fit.mono ‹Fit _ _ _› ?_ <;> (simp only [lnE, put_length] <;> omega)) | (refine Fit.draw ‹Fit _ _ _› ?_ ?_ <;> (simp only [lnE, put_length] <;> omega)) | (refine Fit.hid1 ‹Fit _ _ _› ?_ ?_ <;> (simp only [lnE, put_length] <;> omega)) | (refine Fit.draw1 ‹Fit _ _ _› ?_ ?_ ?_ <;> (simp only [lnE, put_length] <;> omega)) | (refine Fit.range0 ?_ ?_ <;> (simp only [lnE, put_length] <;> omega)) | (refine ArOk.mono ‹ArOk _ _ _ _ _› ?_ <;> (simp only [lnE, put_length] <;> omega)) | (refine ArOk.hid ‹ArOk _ _ _ _ _› ?_ ?_ <;> (simp only [lnE, put_length] <;> omega)) | (refine ArOk.hid0 ‹ArOk _ _ _ _ _› ?_ ?_ <;> (simp only [lnE, put_length] <;> omega)) | ((intro xr hxr; simp [AM.refs, refsF, refsC] at hxr) <;> (simp only [lnE, put_length] <;> omega)) | fail)) only [syA, syB, argFr, D, E, T, C, undefv, eqF, aeq, sheqs, sheq, rdCells, cellsOf, fill, putAt, if_true, if_false, reduceIte, ↓reduceIte, reduceCtorEq, eq_self, Nat.reduceEqDiff, Nat.reduceAdd, Nat.reduceSub, Nat.reduceMul, Nat.reduceLT, Nat.reduceLeDiff, Nat.reducePow, Nat.reduceDiv, Nat.reduceMod, Int.reduceLT, Int.reduceLE, Int.reduceGT, Int.reduceGE, Int.reduceToNat, Int.reducePow, Int.reduceNeg, Int.reduceBEq, Int.reduceBNe, Int.reduceEq, Int.reduceAdd, Int.reduceSub, Int.reduceMul, cellv, sc, flatv, refs, refsF, refsC, syR, Int.le_refl, hF.not0, hF.not1, hF.up0, hF.up1, ac39, hget, hid, hlen, hlv]
  · obtain rfl : row = ix := by rcases h with h | h; exact absurd h h1; exact h
    have bn := fun d => fbehind_none (d := d) k (row := row) (told := told) (st := st)
    have h2 : ((told : Int) == x.length) = false := by rw [beq_eq_false_iff_ne]; omega
    have h3 : ¬ ((told : Int) = x.length) := by omega
    unfold rB at hget bn
    unfold rB
    simp (disch := (first | omega | (simp only [lnE, put_length] <;> omega) | (refine Fit.mono ‹Fit _ _ _› ?_ <;> (simp only [lnE, put_length] <;> omega)) | (refine Fit.draw ‹Fit _ _ _› ?_ ?_ <;> (simp only [lnE, put_length] <;> omega)) | (refine Fit.hid1 ‹Fit _ _ _› ?_ ?_ <;> (simp only [lnE, put_length] <;> omega)) | (refine Fit.draw1 ‹Fit _ _ _› ?_ ?_ ?_ <;> (simp only [lnE, put_length] <;> omega)) | (refine Fit.range0 ?_ ?_ <;> (simp only [lnE, put_length] <;> omega)) | (refine ArOk.mono ‹ArOk _ _ _ _ _› ?_ <;> (simp only [lnE, put_length] <;> omega)) | (refine ArOk.hid ‹ArOk _ _ _ _ _› ?_ ?_ <;> (simp only [lnE, put_length] <;> omega)) | (refine ArOk.hid0 ‹ArOk _ _ _ _ _› ?_ ?_ <;> (simp only [lnE, put_length] <;> omega)) | ((intro xr hxr; simp [AM.refs, refsF, refsC] at hxr) <;> (simp only [lnE, put_length] <;> omega)) | fail)) only [syA, syB, argFr, D, E, T, C, undefv, eqF, aeq, sheqs, sheq, rdCells, cellsOf, fill, putAt, if_true, if_false, reduceIte, ↓reduceIte, reduceCtorEq, eq_self, Nat.reduceEqDiff, Nat.reduceAdd, Nat.reduceSub, Nat.reduceMul, Nat.reduceLT, Nat.reduceLeDiff, Nat.reducePow, Nat.reduceDiv, Nat.reduceMod, Int.reduceLT, Int.reduceLE, Int.reduceGT, Int.reduceGE, Int.reduceToNat, Int.reducePow, Int.reduceNeg, Int.reduceBEq, Int.reduceBNe, Int.reduceEq, Int.reduceAdd, Int.reduceSub, Int.reduceMul, cellv, sc, flatv, refs, refsF, refsC, syR, Int.le_refl, hF.not0, hF.not1, hF.up0, hF.up1, ac39, hget, hid, hlen, hlv, h2, h3, bn]
theorem fnext_walk {hq : List Blk} (k : RfOk hq u L H v x ix kk) {row told st : Nat} (ht : told < x.length) (hs : st ≤ 1099511627776) (hp : row ≤ x.length) (hne : row ≠ ix) (hx : atR ix row < x.length) :
    Lrun env (.func 39) [rfP u] ⟨hq.set u (rB v ix kk row told st), L, H, d⟩ = some (.tuple #[.int .u8 (x[atR ix row] : Nat), .bool true], ⟨hq.set u (rB v ix kk (nxR x ix row) (told + 1) (st + 1 + atR ix row % kk)), L, H, d⟩) := by
  have hF := k.fit
  have hid := k.hid
  have hlv := (k.rd default).lenF
  have hget : ∀ B, (hq.set u B)[u]? = some B := fun B => List.getElem?_set_self k.un
  have hlen : ∀ B, (hq.set u B).length = hq.length := fun B => List.length_set
  have huL : ¬ u < L := by have := k.uL; omega
  have hsm := k.small
  have bn := fun d => fbehind_walk (d := d) k (row := row) (told := told) (st := st) hs hp hne hx
  have h2 : ((told : Int) == x.length) = false := by rw [beq_eq_false_iff_ne]; omega
  have h3 : ¬ ((told : Int) = x.length) := by omega
  have h4 : (told : Int) + 1 = ((told + 1 : Nat) : Int) := by omega
  unfold rB at bn ⊢
  rw [Lrun_sym 39 _ _ fn39]
  simp (disch := (first | omega | (simp only [lnE, put_length] <;> omega) | (refine Fit.mono ‹Fit _ _ _› ?_ <;> (simp only [lnE, put_length] <;> omega)) | (refine Fit.draw ‹Fit _ _ _› ?_ ?_ <;> (simp only [lnE, put_length] <;> omega)) | (refine Fit.hid1 ‹Fit _ _ _› ?_ ?_ <;> (simp only [lnE, put_length] <;> omega)) | (refine Fit.draw1 ‹Fit _ _ _› ?_ ?_ ?_ <;> (simp only [lnE, put_length] <;> omega)) | (refine Fit.range0 ?_ ?_ <;> (simp only [lnE, put_length] <;> omega)) | (refine ArOk.mono ‹ArOk _ _ _ _ _› ?_ <;> (simp only [lnE, put_length] <;> omega)) | (refine ArOk.hid ‹ArOk _ _ _ _ _› ?_ ?_ <;> (simp only [lnE, put_length] <;> omega)) | (refine ArOk.hid0 ‹ArOk _ _ _ _ _› ?_ ?_ <;> (simp only [lnE, put_length] <;> omega)) | ((intro xr hxr; simp [AM.refs, refsF, refsC] at hxr) <;> (simp only [lnE, put_length] <;> omega)) | fail)) only [syA, syB, argFr, D, E, T, C, undefv, eqF, aeq, sheqs, sheq, rdCells, cellsOf, fill, putAt, if_true, if_false, reduceIte, ↓reduceIte, reduceCtorEq, eq_self, Nat.reduceEqDiff, Nat.reduceAdd, Nat.reduceSub, Nat.reduceMul, Nat.reduceLT, Nat.reduceLeDiff, Nat.reducePow, Nat.reduceDiv, Nat.reduceMod, Int.reduceLT, Int.reduceLE, Int.reduceGT, Int.reduceGE, Int.reduceToNat, Int.reducePow, Int.reduceNeg, Int.reduceBEq, Int.reduceBNe, Int.reduceEq, Int.reduceAdd, Int.reduceSub, Int.reduceMul, cellv, sc, flatv, refs, refsF, refsC, syR, Int.le_refl, hF.not0, hF.not1, hF.up0, hF.up1, ac39, hget, hid, hlen, hlv, h2, h3, h4, bn, huL, List.set_set]
theorem fvalid_loop {hq : List Blk} (k : RfOk hq u L H v x ix kk) {r0 told : Nat} (hkk : kk ≤ 65536) : ∀ (n i : Nat), i + n = x.length → ∀ (row st : Nat), row ≤ x.length → st + n * 65536 ≤ 1099511627776 → ∃ e fr,
    Liter env lb40_0 [3, 0, 4] hq.length [(3, .int .i64 row), (0, rfP u), (4, .int .i64 i)] ⟨hq.set u (rB v ix kk r0 told st), L, H, []⟩ =
      some (e, fr, ⟨hq.set u (rB v ix kk r0 told (vw (fun a => a % kk) x ix n row st).2), L, H, []⟩) ∧
      match (vw (fun a => a % kk) x ix n row st).1 with
      | some r' => e = .exit 0 ∧ fr.get 3 = some (.int .i64 (r' : Nat)) ∧ fr.get 0 = some (rfP u)
      | none => e = .ret ∧ fr.get 2 = some (.bool false)
  | 0, i, hn, row, st, hr, hs => by
    obtain rfl : i = x.length := by omega
    have hF := k.fit
    have hid := k.hid
    have hlv := (k.rd default).lenF
    have hget : ∀ B, (hq.set u B)[u]? = some B := fun B => List.getElem?_set_self k.un
    simp only [vw]
    unfold rB
    rw [iter_by lb40_0.eq_1]
    simp (disch := (first | omega | (simp only [lnE, put_length] <;> omega) | (refine Fit.mono ‹Fit _ _ _› ?_ <;> (simp only [lnE, put_length] <;> omega)) | (refine Fit.draw ‹Fit _ _ _› ?_ ?_ <;> (simp only [lnE, put_length] <;> omega)) | (refine Fit.hid1 ‹Fit _ _ _› ?_ ?_ <;> (simp only [lnE, put_length] <;> omega)) | (refine Fit.draw1 ‹Fit _ _ _› ?_ ?_ ?_ <;> (simp only [lnE, put_length] <;> omega)) | (refine Fit.range0 ?_ ?_ <;> (simp only [lnE, put_length] <;> omega)) | (refine ArOk.mono ‹ArOk _ _ _ _ _› ?_ <;> (simp only [lnE, put_length] <;> omega)) | (refine ArOk.hid ‹ArOk _ _ _ _ _› ?_ ?_ <;> (simp only [lnE, put_length] <;> omega)) | (refine ArOk.hid0 ‹ArOk _ _ _ _ _› ?_ ?_ <;> (simp only [lnE, put_length] <;> omega)) | ((intro xr hxr; simp [AM.refs, refsF, refsC] at hxr) <;> (simp only [lnE, put_length] <;> omega)) | fail)) only [syA, syB, argFr, D, E, T, C, undefv, eqF, aeq, sheqs, sheq, rdCells, cellsOf, fill, putAt, if_true, if_false, reduceIte, ↓reduceIte, reduceCtorEq, eq_self, Nat.reduceEqDiff, Nat.reduceAdd, Nat.reduceSub, Nat.reduceMul, Nat.reduceLT, Nat.reduceLeDiff, Nat.reducePow, Nat.reduceDiv, Nat.reduceMod, Int.reduceLT, Int.reduceLE, Int.reduceGT, Int.reduceGE, Int.reduceToNat, Int.reducePow, Int.reduceNeg, Int.reduceBEq, Int.reduceBNe, Int.reduceEq, Int.reduceAdd, Int.reduceSub, Int.reduceMul, cellv, sc, flatv, refs, refsF, refsC, syR, Int.le_refl, hF.not0, hF.not1, hF.up0, hF.up1, hget, hid, hlv]
    exact ⟨_, _, rfl, rfl, rfl, rfl⟩
  | n + 1, i, hn, row, st, hr, hs => by
    have hF := k.fit
    have hid := k.hid
    have hlv := (k.rd default).lenF
    have hget : ∀ B, (hq.set u B)[u]? = some B := fun B => List.getElem?_set_self k.un
    have hlen : ∀ B, (hq.set u B).length = hq.length := fun B => List.length_set
    have hsm := k.small
    have c1 : (i : Int) < x.length := by omega
    by_cases hri : row = ix
    · subst hri
      have bn := fun d => fbehind_none (d := d) k (row := r0) (told := told) (st := st)
      simp only [vw, if_true]
      unfold rB at bn ⊢
      rw [iter_by lb40_0.eq_1]
      simp (disch := (first | omega | (simp only [lnE, put_length] <;> omega) | (refine Fit.mono ‹Fit _ _ _› ?_ <;> (simp only [lnE, put_length] <;> omega)) | (refine Fit.draw ‹Fit _ _ _› ?_ ?_ <;> (simp only [lnE, put_length] <;> omega)) | (refine Fit.hid1 ‹Fit _ _ _› ?_ ?_ <;> (simp only [lnE, put_length] <;> omega)) | (refine Fit.draw1 ‹Fit _ _ _› ?_ ?_ ?_ <;> (simp only [lnE, put_length] <;> omega)) | (refine Fit.range0 ?_ ?_ <;> (simp only [lnE, put_length] <;> omega)) | (refine ArOk.mono ‹ArOk _ _ _ _ _› ?_ <;> (simp only [lnE, put_length] <;> omega)) | (refine ArOk.hid ‹ArOk _ _ _ _ _› ?_ ?_ <;> (simp only [lnE, put_length] <;> omega)) | (refine ArOk.hid0 ‹ArOk _ _ _ _ _› ?_ ?_ <;> (simp only [lnE, put_length] <;> omega)) | ((intro xr hxr; simp [AM.refs, refsF, refsC] at hxr) <;> (simp only [lnE, put_length] <;> omega)) | fail)) only [syA, syB, argFr, D, E, T, C, undefv, eqF, aeq, sheqs, sheq, rdCells, cellsOf, fill, putAt, if_true, if_false, reduceIte, ↓reduceIte, reduceCtorEq, eq_self, Nat.reduceEqDiff, Nat.reduceAdd, Nat.reduceSub, Nat.reduceMul, Nat.reduceLT, Nat.reduceLeDiff, Nat.reducePow, Nat.reduceDiv, Nat.reduceMod, Int.reduceLT, Int.reduceLE, Int.reduceGT, Int.reduceGE, Int.reduceToNat, Int.reducePow, Int.reduceNeg, Int.reduceBEq, Int.reduceBNe, Int.reduceEq, Int.reduceAdd, Int.reduceSub, Int.reduceMul, cellv, sc, flatv, refs, refsF, refsC, syR, Int.le_refl, hF.not0, hF.not1, hF.up0, hF.up1, hget, hid, hlv, c1, bn]
      exact ⟨_, _, rfl, rfl, rfl⟩
    · have hx := atR_lt' hr k.ixm hri
      have bn := fun d => fbehind_walk (d := d) k (row := r0) (told := told) (st := st) (by omega) hr hri hx
      have hmod : atR ix row % kk < kk := Nat.mod_lt _ (by have := k.kk1; omega)
      have hnx := nxR_le hr k.ixm hri
      obtain ⟨e, fr, f1, f2⟩ := fvalid_loop k (r0 := r0) (told := told) hkk n (i + 1) (by omega) (nxR x ix row) (st + 1 + atR ix row % kk) hnx (by rw [Nat.add_mul] at hs; omega)
      simp only [Int.natCast_add, Int.natCast_one] at f1
      simp only [vw, if_neg hri]
      unfold rB at bn f1 ⊢
      rw [iter_by lb40_0.eq_1]
      simp (disch := (first | omega | (simp only [lnE, put_length] <;> omega) | (refine Fit.mono ‹Fit _ _ _› ?_ <;> (simp only [lnE, put_length] <;> omega)) | (refine Fit.draw ‹Fit _ _ _› ?_ ?_ <;> (simp only [lnE, put_length] <;> omega)) | (refine Fit.hid1 ‹Fit _ _ _› ?_ ?_ <;> (simp only [lnE, put_length] <;> omega)) | (refine Fit.draw1 ‹Fit _ _ _› ?_ ?_ ?_ <;> (simp only [lnE, put_length] <;> omega)) | (refine Fit.range0 ?_ ?_ <;> (simp only [lnE, put_length] <;> omega)) | (refine ArOk.mono ‹ArOk _ _ _ _ _› ?_ <;> (simp only [lnE, put_length] <;> omega)) | (refine ArOk.hid ‹ArOk _ _ _ _ _› ?_ ?_ <;> (simp only [lnE, put_length] <;> omega)) | (refine ArOk.hid0 ‹ArOk _ _ _ _ _› ?_ ?_ <;> (simp only [lnE, put_length] <;> omega)) | ((intro xr hxr; simp [AM.refs, refsF, refsC] at hxr) <;> (simp only [lnE, put_length] <;> omega)) | fail)) only [syA, syB, argFr, D, E, T, C, undefv, eqF, aeq, sheqs, sheq, rdCells, cellsOf, fill, putAt, if_true, if_false, reduceIte, ↓reduceIte, reduceCtorEq, eq_self, Nat.reduceEqDiff, Nat.reduceAdd, Nat.reduceSub, Nat.reduceMul, Nat.reduceLT, Nat.reduceLeDiff, Nat.reducePow, Nat.reduceDiv, Nat.reduceMod, Int.reduceLT, Int.reduceLE, Int.reduceGT, Int.reduceGE, Int.reduceToNat, Int.reducePow, Int.reduceNeg, Int.reduceBEq, Int.reduceBNe, Int.reduceEq, Int.reduceAdd, Int.reduceSub, Int.reduceMul, cellv, sc, flatv, refs, refsF, refsC, syR, Int.le_refl, hF.not0, hF.not1, hF.up0, hF.up1, hget, hid, hlv, hlen, c1, bn, f1]
      exact ⟨e, fr, rfl, f2⟩
theorem fvalid_walk {hq : List Blk} (k : RfOk hq u L H v x ix kk) {row told st : Nat} (hkk : kk ≤ 65536) (hs : st + x.length * 65536 ≤ 1099511627776) :
    Lrun env (.func 40) [rfP u] ⟨hq.set u (rB v ix kk row told st), L, H, d⟩ = some (.bool (decide ((vw (fun _ => 0) x ix x.length 0 0).1 = some ix)), ⟨hq.set u (rB v ix kk row told (vw (fun a => a % kk) x ix x.length 0 st).2), L, H, d⟩) := by
  have hF := k.fit
  have hid := k.hid
  have hlen : ∀ B, (hq.set u B).length = hq.length := fun B => List.length_set
  have hget : ∀ B, (hq.set u B)[u]? = some B := fun B => List.getElem?_set_self k.un
  obtain ⟨e, fr, f1, f2⟩ := fvalid_loop k (r0 := row) (told := told) hkk x.length 0 (by omega) 0 st (Nat.zero_le _) hs
  rw [← vw_fst (f := fun a => a % kk) (st := st)]
  generalize vw (fun a => a % kk) x ix x.length 0 st = V at *
  obtain ⟨V1, V2⟩ := V
  simp only [Int.natCast_zero] at f1
  unfold rB at f1 ⊢
  rw [Lrun_sym 40 _ _ fn40]
  cases V1 with
  | none =>
    obtain ⟨rfl, f2⟩ := f2
    simp (disch := (first | omega | (simp only [lnE, put_length] <;> omega) | (refine Fit.mono ‹Fit _ _ _› ?_ <;> (simp only [lnE, put_length] <;> omega)) | (refine Fit.draw ‹Fit _ _ _› ?_ ?_ <;> (simp only [lnE, put_length] <;> omega)) | (refine Fit.hid1 ‹Fit _ _ _› ?_ ?_ <;> (simp only [lnE, put_length] <;> omega)) | (refine Fit.draw1 ‹Fit _ _ _› ?_ ?_ ?_ <;> (simp only [lnE, put_length] <;> omega)) | (refine Fit.range0 ?_ ?_ <;> (simp only [lnE, put_length] <;> omega)) | (refine ArOk.mono ‹ArOk _ _ _ _ _› ?_ <;> (simp only [lnE, put_length] <;> omega)) | (refine ArOk.hid ‹ArOk _ _ _ _ _› ?_ ?_ <;> (simp only [lnE, put_length] <;> omega)) | (refine ArOk.hid0 ‹ArOk _ _ _ _ _› ?_ ?_ <;> (simp only [lnE, put_length] <;> omega)) | ((intro xr hxr; simp [AM.refs, refsF, refsC] at hxr) <;> (simp only [lnE, put_length] <;> omega)) | fail)) only [syA, syB, argFr, D, E, T, C, undefv, eqF, aeq, sheqs, sheq, rdCells, cellsOf, fill, putAt, if_true, if_false, reduceIte, ↓reduceIte, reduceCtorEq, eq_self, Nat.reduceEqDiff, Nat.reduceAdd, Nat.reduceSub, Nat.reduceMul, Nat.reduceLT, Nat.reduceLeDiff, Nat.reducePow, Nat.reduceDiv, Nat.reduceMod, Int.reduceLT, Int.reduceLE, Int.reduceGT, Int.reduceGE, Int.reduceToNat, Int.reducePow, Int.reduceNeg, Int.reduceBEq, Int.reduceBNe, Int.reduceEq, Int.reduceAdd, Int.reduceSub, Int.reduceMul, cellv, sc, flatv, refs, refsF, refsC, syR, Int.le_refl, hF.not0, hF.not1, hF.up0, hF.up1, ac40, hget, hid, hlen, f1, f2]
  | some r' =>
    obtain ⟨rfl, f2, f3⟩ := f2
    have hbe : (((r' : Nat) : Int) == ((ix : Nat) : Int)) = decide (r' = ix) := by rw [Bool.eq_iff_iff]; simp; omega
    simp (disch := (first | omega | (simp only [lnE, put_length] <;> omega) | (refine Fit.mono ‹Fit _ _ _› ?_ <;> (simp only [lnE, put_length] <;> omega)) | (refine Fit.draw ‹Fit _ _ _› ?_ ?_ <;> (simp only [lnE, put_length] <;> omega)) | (refine Fit.hid1 ‹Fit _ _ _› ?_ ?_ <;> (simp only [lnE, put_length] <;> omega)) | (refine Fit.draw1 ‹Fit _ _ _› ?_ ?_ ?_ <;> (simp only [lnE, put_length] <;> omega)) | (refine Fit.range0 ?_ ?_ <;> (simp only [lnE, put_length] <;> omega)) | (refine ArOk.mono ‹ArOk _ _ _ _ _› ?_ <;> (simp only [lnE, put_length] <;> omega)) | (refine ArOk.hid ‹ArOk _ _ _ _ _› ?_ ?_ <;> (simp only [lnE, put_length] <;> omega)) | (refine ArOk.hid0 ‹ArOk _ _ _ _ _› ?_ ?_ <;> (simp only [lnE, put_length] <;> omega)) | ((intro xr hxr; simp [AM.refs, refsF, refsC] at hxr) <;> (simp only [lnE, put_length] <;> omega)) | fail)) only [syA, syB, argFr, D, E, T, C, undefv, eqF, aeq, sheqs, sheq, rdCells, cellsOf, fill, putAt, if_true, if_false, reduceIte, ↓reduceIte, reduceCtorEq, eq_self, Nat.reduceEqDiff, Nat.reduceAdd, Nat.reduceSub, Nat.reduceMul, Nat.reduceLT, Nat.reduceLeDiff, Nat.reducePow, Nat.reduceDiv, Nat.reduceMod, Int.reduceLT, Int.reduceLE, Int.reduceGT, Int.reduceGE, Int.reduceToNat, Int.reducePow, Int.reduceNeg, Int.reduceBEq, Int.reduceBNe, Int.reduceEq, Int.reduceAdd, Int.reduceSub, Int.reduceMul, cellv, sc, flatv, refs, refsF, refsC, syR, Int.le_refl, hF.not0, hF.not1, hF.up0, hF.up1, ac40, hget, hid, hlen, f1, f2, f3, hbe]
    simp only [Option.some.injEq, hbe]
end
end ArA
end Go.Proofs.Ytlbdgbfblgjjgaa
