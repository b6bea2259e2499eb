/-
  BwtBucketMatches, run on the abstract machine. Conditions: none.
  BwtBucketMatches, run on the abstract machine: the whole. Conditions: none.
-/
import Derived.Test.YtlphmnhkkhcjfaaHbU
set_option linter.all false
section
set_option linter.all false
namespace Go.Proofs.Ytlphmnhkkhcjfaa
namespace ArA
open Go Go.RowKit AM ArEnv
theorem lit_a {hp : List Blk} {B0 B1 B2 D0 D1 : Blk} {nw : List Blk} {A : Arn} : put (hp ++ (B0 :: B1 :: B2 :: D0 :: D1 :: nw)) (hp.length + 3) (hp.length + 3 + 1) A = hp ++ (B0 :: B1 :: B2 :: arB (hp.length + 3 + 1) A :: byB A :: nw) := by
  unfold put
  rw [show hp.length + 3 + 1 = hp.length + 4 by omega, set_new, set_new]
  rfl
theorem lit_o {hp : List Blk} {B0 B1 B2 B3 B4 D0 D1 : Blk} {nw : List Blk} {A : Arn} : put (hp ++ (B0 :: B1 :: B2 :: B3 :: B4 :: D0 :: D1 :: nw)) (hp.length + 5) (hp.length + 5 + 1) A = hp ++ (B0 :: B1 :: B2 :: B3 :: B4 :: arB (hp.length + 5 + 1) A :: byB A :: nw) := by
  unfold put
  rw [show hp.length + 5 + 1 = hp.length + 6 by omega, set_new, set_new]
  rfl
/-- The check of all bytes outside. -/
theorem check19_loop {hq : List Blk} {L : Nat} (hF : Fit hq.length L []) {v u rp : Value} {b W : List Nat} {c m t z lv b9 b10 b11 : Nat} {i p : Int} (hr : Rd ⟨hq, L, [], []⟩ v b) (hu : Rd ⟨hq, L, [], []⟩ u W) (hW : W.length = lv) (hlv : lv ≤ b.length) (hb : b.length ≤ 600) (hc : c ≤ 600 ∧ m ≤ 600 ∧ t ≤ 600 ∧ z ≤ 600)
    (h10 : hq[b10]? = some (.cells 0 true [.int .i64 c, .int .i64 m])) (h11 : hq[b11]? = some (.cells 0 true [.int .i64 t, .int .i64 z]))
    (hsame : ∀ k, k < lv → (k < c ∨ c + m ≤ k) → (k < t ∨ t + z ≤ k) → W[k]? = b[k]?) (hrv : ∀ x ∈ refs v, x < hq.length) (hru : ∀ x ∈ refs u, x < hq.length) (hrp : ∀ x ∈ refs rp, x < hq.length) (h9 : b9 < hq.length) : ∀ n k : Nat, k + n = lv → ∃ fr,
    Liter env lb9_0 [0, 22, 11, 10, 15, 19, 20, 9, 23] hq.length [(0, v), (22, u), (11, .pointer (some ⟨b11, 0, some 0⟩)), (10, .pointer (some ⟨b10, 0, some 0⟩)), (15, rp), (19, .int .i64 i), (20, .int .i64 p), (9, .pointer (some ⟨b9, 0, some 0⟩)), (23, .int .i64 k)] ⟨hq, L, [], []⟩ =
      some (.exit 0, fr, ⟨hq, L, [], []⟩) ∧ fr.get 0 = some v ∧ fr.get 15 = some rp ∧ fr.get 19 = some (.int .i64 i) ∧ fr.get 20 = some (.int .i64 p) ∧ fr.get 9 = some (.pointer (some ⟨b9, 0, some 0⟩)) ∧ fr.get 10 = some (.pointer (some ⟨b10, 0, some 0⟩)) ∧ fr.get 11 = some (.pointer (some ⟨b11, 0, some 0⟩))
  | 0, k, hk => by
    have hlen := hu.lenF
    have c1 : ¬ (k : Int) < W.length := by omega
    rw [iter_by lb9_0.eq_1]
    simp (disch := (first | omega | (simp only [lnE] <;> omega) | (refine Fit.mono ‹Fit _ _ _› ?_ <;> (simp only [lnE] <;> omega)) | (refine Fit.draw ‹Fit _ _ _› ?_ ?_ <;> (simp only [lnE] <;> omega)) | (refine Fit.hid1 ‹Fit _ _ _› ?_ ?_ <;> (simp only [lnE] <;> omega)) | (refine Fit.draw1 ‹Fit _ _ _› ?_ ?_ ?_ <;> (simp only [lnE] <;> omega)) | (refine Fit.range0 ?_ ?_ <;> (simp only [lnE] <;> omega)) | fail)) only [syA, syB, argFr, D, E, T, C, undefv, eqF, aeq, sheqs, sheq, rdCells, cellsOf, fill, putAt, if_true, if_false, reduceIte, ↓reduceIte, reduceCtorEq, eq_self, Nat.reduceEqDiff, Nat.reduceAdd, Nat.reduceSub, Nat.reduceMul, Nat.reduceLT, Nat.reduceLeDiff, Nat.reducePow, Nat.reduceDiv, Nat.reduceMod, Int.reduceLT, Int.reduceLE, Int.reduceGT, Int.reduceGE, Int.reduceToNat, Int.reducePow, Int.reduceNeg, Int.reduceBEq, Int.reduceBNe, Int.reduceEq, Int.reduceAdd, Int.reduceSub, Int.reduceMul, cellv, sc, flatv, refs, refsF, refsC, hF.not0, hF.not1, hF.up0, hF.up1, hlen, c1]
    exact ⟨_, rfl, rfl, rfl, rfl, rfl, rfl, rfl, rfl⟩
  | n + 1, k, hk => by
    obtain ⟨fr, e1, e2⟩ := check19_loop hF hr hu hW hlv hb hc (i := i) (p := p) h10 h11 hsame hrv hru hrp h9 n (k + 1) (by omega)
    have hlen := hu.lenF
    have c1 : (k : Int) < W.length := by omega
    have hkW : k < W.length := by omega
    have hkb : k < b.length := by omega
    have hs := hsame k (by omega)
    rw [List.getElem?_eq_getElem hkW, List.getElem?_eq_getElem hkb] at hs
    have h256 := hu.by_.get hkW
    have h256b := hr.by_.get hkb
    obtain ⟨a1, g1, rfl⟩ := hr.len
    obtain ⟨a2, g2, rfl⟩ := hu.len
    obtain ⟨b1, of1, ge1, pl1, cs1, rfl, _, hh1, hb1, hcell1⟩ := hr.at_ hkb
    obtain ⟨b2, of2, ge2, pl2, cs2, rfl, _, hh2, hb2, hcell2⟩ := hu.at_ hkW
    simp only [] at hb1 hb2 hh1 hh2
    have h10l : b10 < hq.length := (List.getElem?_eq_some_iff.1 h10).1
    have h11l : b11 < hq.length := (List.getElem?_eq_some_iff.1 h11).1
    have c2 : 0 ≤ (k : Int) ∧ (k : Int) < W.length := by omega
    have c3 : 0 ≤ (k : Int) ∧ (k : Int) < b.length := by omega
    have hgc := fun fr => gcFr_same (base := hq.length) fr hq L [] [] (Nat.le_refl _)
    have l0 : ([] : List Nat).contains b1 = false := rfl
    simp only [Int.natCast_add, Int.natCast_one] at e1
    rw [iter_by lb9_0.eq_1]
    generalize W[k] = wk at *
    generalize b[k] = bk at *
    by_cases d1 : (k : Int) ≥ c
    · by_cases d2 : (k : Int) < c + m
      · simp (disch := (first | omega | (simp only [lnE] <;> omega) | (refine Fit.mono ‹Fit _ _ _› ?_ <;> (simp only [lnE] <;> omega)) | (refine Fit.draw ‹Fit _ _ _› ?_ ?_ <;> (simp only [lnE] <;> omega)) | (refine Fit.hid1 ‹Fit _ _ _› ?_ ?_ <;> (simp only [lnE] <;> omega)) | (refine Fit.draw1 ‹Fit _ _ _› ?_ ?_ ?_ <;> (simp only [lnE] <;> omega)) | (refine Fit.range0 ?_ ?_ <;> (simp only [lnE] <;> omega)) | fail)) only [syA, syB, argFr, D, E, T, C, undefv, eqF, aeq, sheqs, sheq, rdCells, cellsOf, fill, putAt, if_true, if_false, reduceIte, ↓reduceIte, reduceCtorEq, eq_self, Nat.reduceEqDiff, Nat.reduceAdd, Nat.reduceSub, Nat.reduceMul, Nat.reduceLT, Nat.reduceLeDiff, Nat.reducePow, Nat.reduceDiv, Nat.reduceMod, Int.reduceLT, Int.reduceLE, Int.reduceGT, Int.reduceGE, Int.reduceToNat, Int.reducePow, Int.reduceNeg, Int.reduceBEq, Int.reduceBNe, Int.reduceEq, Int.reduceAdd, Int.reduceSub, Int.reduceMul, cellv, sc, flatv, refs, refsF, refsC, hF.not0, hF.not1, hF.up0, hF.up1, hlen, c1, h10, d1, d2, hgc, e1]
        exact ⟨fr, rfl, e2⟩
      · by_cases d3 : (k : Int) ≥ t
        · by_cases d4 : (k : Int) < t + z
          · simp (disch := (first | omega | (simp only [lnE] <;> omega) | (refine Fit.mono ‹Fit _ _ _› ?_ <;> (simp only [lnE] <;> omega)) | (refine Fit.draw ‹Fit _ _ _› ?_ ?_ <;> (simp only [lnE] <;> omega)) | (refine Fit.hid1 ‹Fit _ _ _› ?_ ?_ <;> (simp only [lnE] <;> omega)) | (refine Fit.draw1 ‹Fit _ _ _› ?_ ?_ ?_ <;> (simp only [lnE] <;> omega)) | (refine Fit.range0 ?_ ?_ <;> (simp only [lnE] <;> omega)) | fail)) only [syA, syB, argFr, D, E, T, C, undefv, eqF, aeq, sheqs, sheq, rdCells, cellsOf, fill, putAt, if_true, if_false, reduceIte, ↓reduceIte, reduceCtorEq, eq_self, Nat.reduceEqDiff, Nat.reduceAdd, Nat.reduceSub, Nat.reduceMul, Nat.reduceLT, Nat.reduceLeDiff, Nat.reducePow, Nat.reduceDiv, Nat.reduceMod, Int.reduceLT, Int.reduceLE, Int.reduceGT, Int.reduceGE, Int.reduceToNat, Int.reducePow, Int.reduceNeg, Int.reduceBEq, Int.reduceBNe, Int.reduceEq, Int.reduceAdd, Int.reduceSub, Int.reduceMul, cellv, sc, flatv, refs, refsF, refsC, hF.not0, hF.not1, hF.up0, hF.up1, hlen, c1, h10, h11, d1, d2, d3, d4, hgc, e1]
            exact ⟨fr, rfl, e2⟩
          · have he : wk = bk := Option.some.inj (hs (by omega) (by omega))
            subst he
            simp (disch := (first | omega | (simp only [lnE] <;> omega) | (refine Fit.mono ‹Fit _ _ _› ?_ <;> (simp only [lnE] <;> omega)) | (refine Fit.draw ‹Fit _ _ _› ?_ ?_ <;> (simp only [lnE] <;> omega)) | (refine Fit.hid1 ‹Fit _ _ _› ?_ ?_ <;> (simp only [lnE] <;> omega)) | (refine Fit.draw1 ‹Fit _ _ _› ?_ ?_ ?_ <;> (simp only [lnE] <;> omega)) | (refine Fit.range0 ?_ ?_ <;> (simp only [lnE] <;> omega)) | fail)) only [syA, syB, argFr, D, E, T, C, undefv, eqF, aeq, sheqs, sheq, rdCells, cellsOf, fill, putAt, if_true, if_false, reduceIte, ↓reduceIte, reduceCtorEq, eq_self, Nat.reduceEqDiff, Nat.reduceAdd, Nat.reduceSub, Nat.reduceMul, Nat.reduceLT, Nat.reduceLeDiff, Nat.reducePow, Nat.reduceDiv, Nat.reduceMod, Int.reduceLT, Int.reduceLE, Int.reduceGT, Int.reduceGE, Int.reduceToNat, Int.reducePow, Int.reduceNeg, Int.reduceBEq, Int.reduceBNe, Int.reduceEq, Int.reduceAdd, Int.reduceSub, Int.reduceMul, cellv, sc, flatv, refs, refsF, refsC, hF.not0, hF.not1, hF.up0, hF.up1, hlen, c1, c2, c3, h10, h11, d1, d2, d3, d4, hb1, hb2, hh1, hh2, hcell1, hcell2, hgc, e1]
            exact ⟨fr, rfl, e2⟩
        · have he : wk = bk := Option.some.inj (hs (by omega) (by omega))
          subst he
          simp (disch := (first | omega | (simp only [lnE] <;> omega) | (refine Fit.mono ‹Fit _ _ _› ?_ <;> (simp only [lnE] <;> omega)) | (refine Fit.draw ‹Fit _ _ _› ?_ ?_ <;> (simp only [lnE] <;> omega)) | (refine Fit.hid1 ‹Fit _ _ _› ?_ ?_ <;> (simp only [lnE] <;> omega)) | (refine Fit.draw1 ‹Fit _ _ _› ?_ ?_ ?_ <;> (simp only [lnE] <;> omega)) | (refine Fit.range0 ?_ ?_ <;> (simp only [lnE] <;> omega)) | fail)) only [syA, syB, argFr, D, E, T, C, undefv, eqF, aeq, sheqs, sheq, rdCells, cellsOf, fill, putAt, if_true, if_false, reduceIte, ↓reduceIte, reduceCtorEq, eq_self, Nat.reduceEqDiff, Nat.reduceAdd, Nat.reduceSub, Nat.reduceMul, Nat.reduceLT, Nat.reduceLeDiff, Nat.reducePow, Nat.reduceDiv, Nat.reduceMod, Int.reduceLT, Int.reduceLE, Int.reduceGT, Int.reduceGE, Int.reduceToNat, Int.reducePow, Int.reduceNeg, Int.reduceBEq, Int.reduceBNe, Int.reduceEq, Int.reduceAdd, Int.reduceSub, Int.reduceMul, cellv, sc, flatv, refs, refsF, refsC, hF.not0, hF.not1, hF.up0, hF.up1, hlen, c1, c2, c3, h10, h11, d1, d2, d3, hb1, hb2, hh1, hh2, hcell1, hcell2, hgc, e1]
          exact ⟨fr, rfl, e2⟩
    · by_cases d3 : (k : Int) ≥ t
      · by_cases d4 : (k : Int) < t + z
        · simp (disch := (first | omega | (simp only [lnE] <;> omega) | (refine Fit.mono ‹Fit _ _ _› ?_ <;> (simp only [lnE] <;> omega)) | (refine Fit.draw ‹Fit _ _ _› ?_ ?_ <;> (simp only [lnE] <;> omega)) | (refine Fit.hid1 ‹Fit _ _ _› ?_ ?_ <;> (simp only [lnE] <;> omega)) | (refine Fit.draw1 ‹Fit _ _ _› ?_ ?_ ?_ <;> (simp only [lnE] <;> omega)) | (refine Fit.range0 ?_ ?_ <;> (simp only [lnE] <;> omega)) | fail)) only [syA, syB, argFr, D, E, T, C, undefv, eqF, aeq, sheqs, sheq, rdCells, cellsOf, fill, putAt, if_true, if_false, reduceIte, ↓reduceIte, reduceCtorEq, eq_self, Nat.reduceEqDiff, Nat.reduceAdd, Nat.reduceSub, Nat.reduceMul, Nat.reduceLT, Nat.reduceLeDiff, Nat.reducePow, Nat.reduceDiv, Nat.reduceMod, Int.reduceLT, Int.reduceLE, Int.reduceGT, Int.reduceGE, Int.reduceToNat, Int.reducePow, Int.reduceNeg, Int.reduceBEq, Int.reduceBNe, Int.reduceEq, Int.reduceAdd, Int.reduceSub, Int.reduceMul, cellv, sc, flatv, refs, refsF, refsC, hF.not0, hF.not1, hF.up0, hF.up1, hlen, c1, h10, h11, d1, d3, d4, hgc, e1]
          exact ⟨fr, rfl, e2⟩
        · have he : wk = bk := Option.some.inj (hs (by omega) (by omega))
          subst he
          simp (disch := (first | omega | (simp only [lnE] <;> omega) | (refine Fit.mono ‹Fit _ _ _› ?_ <;> (simp only [lnE] <;> omega)) | (refine Fit.draw ‹Fit _ _ _› ?_ ?_ <;> (simp only [lnE] <;> omega)) | (refine Fit.hid1 ‹Fit _ _ _› ?_ ?_ <;> (simp only [lnE] <;> omega)) | (refine Fit.draw1 ‹Fit _ _ _› ?_ ?_ ?_ <;> (simp only [lnE] <;> omega)) | (refine Fit.range0 ?_ ?_ <;> (simp only [lnE] <;> omega)) | fail)) only [syA, syB, argFr, D, E, T, C, undefv, eqF, aeq, sheqs, sheq, rdCells, cellsOf, fill, putAt, if_true, if_false, reduceIte, ↓reduceIte, reduceCtorEq, eq_self, Nat.reduceEqDiff, Nat.reduceAdd, Nat.reduceSub, Nat.reduceMul, Nat.reduceLT, Nat.reduceLeDiff, Nat.reducePow, Nat.reduceDiv, Nat.reduceMod, Int.reduceLT, Int.reduceLE, Int.reduceGT, Int.reduceGE, Int.reduceToNat, Int.reducePow, Int.reduceNeg, Int.reduceBEq, Int.reduceBNe, Int.reduceEq, Int.reduceAdd, Int.reduceSub, Int.reduceMul, cellv, sc, flatv, refs, refsF, refsC, hF.not0, hF.not1, hF.up0, hF.up1, hlen, c1, c2, c3, h10, h11, d1, d3, d4, hb1, hb2, hh1, hh2, hcell1, hcell2, hgc, e1]
          exact ⟨fr, rfl, e2⟩
      · have he : wk = bk := Option.some.inj (hs (by omega) (by omega))
        subst he
        simp (disch := (first | omega | (simp only [lnE] <;> omega) | (refine Fit.mono ‹Fit _ _ _› ?_ <;> (simp only [lnE] <;> omega)) | (refine Fit.draw ‹Fit _ _ _› ?_ ?_ <;> (simp only [lnE] <;> omega)) | (refine Fit.hid1 ‹Fit _ _ _› ?_ ?_ <;> (simp only [lnE] <;> omega)) | (refine Fit.draw1 ‹Fit _ _ _› ?_ ?_ ?_ <;> (simp only [lnE] <;> omega)) | (refine Fit.range0 ?_ ?_ <;> (simp only [lnE] <;> omega)) | fail)) only [syA, syB, argFr, D, E, T, C, undefv, eqF, aeq, sheqs, sheq, rdCells, cellsOf, fill, putAt, if_true, if_false, reduceIte, ↓reduceIte, reduceCtorEq, eq_self, Nat.reduceEqDiff, Nat.reduceAdd, Nat.reduceSub, Nat.reduceMul, Nat.reduceLT, Nat.reduceLeDiff, Nat.reducePow, Nat.reduceDiv, Nat.reduceMod, Int.reduceLT, Int.reduceLE, Int.reduceGT, Int.reduceGE, Int.reduceToNat, Int.reducePow, Int.reduceNeg, Int.reduceBEq, Int.reduceBNe, Int.reduceEq, Int.reduceAdd, Int.reduceSub, Int.reduceMul, cellv, sc, flatv, refs, refsF, refsC, hF.not0, hF.not1, hF.up0, hF.up1, hlen, c1, c2, c3, h10, h11, d1, d3, hb1, hb2, hh1, hh2, hcell1, hcell2, hgc, e1]
        exact ⟨fr, rfl, e2⟩
end ArA
end Go.Proofs.Ytlphmnhkkhcjfaa
end
section
set_option linter.all false
namespace Go.Proofs.Ytlphmnhkkhcjfaa
namespace ArA
open Go Go.RowKit AM ArEnv
def lvA (b : List Nat) (lv : Nat) : Arn := ⟨b, lv, b.length⟩
theorem laid_full (b : List Nat) : Arn.laid b.length b = ⟨b, b.length, b.length⟩ := by simp [Arn.laid]
theorem lvA_ok {n r q : Nat} {b : List Nat} {lv : Nat} (hr : r < n) (hq : q < n) (hne : r ≠ q) (hb : By b) (hl : lv ≤ b.length) (hn : b.length ≤ 1048576) : ArOk n r q [] (lvA b lv) :=
  ⟨hr, hq, hne, hb, by show (0 : Int) ≤ lv; omega, by show (lv : Int) ≤ b.length; omega, by show (0 : Int) ≤ b.length; omega, Int.le_refl _, hn, rfl, rfl⟩
set_option maxRecDepth 100000 in
/-- The law's two arenas are laid; the rest is left to the cases. -/
theorem setup19 {hp : List Blk} {v : Value} {b : List Nat} {TB CB RB : Blk} (hr : Rd ⟨hp, hp.length, [], []⟩ v b) (hb0 : 0 < b.length) (hb : b.length ≤ 600) {lv : Nat} (hlv : lv ≤ b.length) :
    (∀ d, Lrun env (.func 32) [.int .i64 b.length] ⟨hp ++ [TB, CB, RB], hp.length, [], d⟩ = some (.tuple #[arP (hp.length + 3), .int .i64 0], ⟨hp ++ [TB, CB, RB, arB (hp.length + 3 + 1) (Arn.new b.length), byB (Arn.new b.length)], hp.length, [], d⟩)) ∧
    (∀ d, Lrun env (.func 38) [.int .i64 b.length] ⟨hp ++ [TB, CB, RB, arB (hp.length + 3 + 1) (Arn.new b.length), byB (Arn.new b.length)], hp.length, [], d⟩ = some (arP (hp.length + 5), ⟨hp ++ [TB, CB, RB, arB (hp.length + 3 + 1) (Arn.new b.length), byB (Arn.new b.length), arB (hp.length + 5 + 1) (Arn.new b.length), byB (Arn.new b.length)], hp.length, [], d⟩)) ∧
    (∀ d O, Lrun env (.func 33) [arP (hp.length + 3), .int .i64 b.length] ⟨hp ++ [TB, CB, RB, arB (hp.length + 3 + 1) (Arn.new b.length), byB (Arn.new b.length), arB (hp.length + 5 + 1) O, byB O], hp.length, [], d⟩ = some (.tuple #[.agg #[.int .i64 0, .int .i64 b.length], .int .i64 0], ⟨hp ++ [TB, CB, RB, arB (hp.length + 3 + 1) (Arn.laid b.length (List.replicate b.length 0)), byB (Arn.laid b.length (List.replicate b.length 0)), arB (hp.length + 5 + 1) O, byB O], hp.length, [], d⟩)) ∧
    (∀ d A, Lrun env (.func 39) [arP (hp.length + 5), .int .i64 b.length] ⟨hp ++ [TB, CB, RB, arB (hp.length + 3 + 1) A, byB A, arB (hp.length + 5 + 1) (Arn.new b.length), byB (Arn.new b.length)], hp.length, [], d⟩ = some (.tuple #[.agg #[.int .i64 0, .int .i64 b.length], .int .i64 0], ⟨hp ++ [TB, CB, RB, arB (hp.length + 3 + 1) A, byB A, arB (hp.length + 5 + 1) (Arn.laid b.length (List.replicate b.length 0)), byB (Arn.laid b.length (List.replicate b.length 0))], hp.length, [], d⟩)) ∧
    (∀ d O, Lrun env (.func 34) [arP (hp.length + 3), .agg #[.int .i64 0, .int .i64 b.length], .int .i64 0, v] ⟨hp ++ [TB, CB, RB, arB (hp.length + 3 + 1) (Arn.laid b.length (List.replicate b.length 0)), byB (Arn.laid b.length (List.replicate b.length 0)), arB (hp.length + 5 + 1) O, byB O], hp.length, [], d⟩ = some (.bool true, ⟨hp ++ [TB, CB, RB, arB (hp.length + 3 + 1) (lvA b b.length), byB (lvA b b.length), arB (hp.length + 5 + 1) O, byB O], hp.length, [], d⟩)) ∧
    (∀ d A, Lrun env (.func 40) [arP (hp.length + 5), .agg #[.int .i64 0, .int .i64 b.length], .int .i64 0, v] ⟨hp ++ [TB, CB, RB, arB (hp.length + 3 + 1) A, byB A, arB (hp.length + 5 + 1) (Arn.laid b.length (List.replicate b.length 0)), byB (Arn.laid b.length (List.replicate b.length 0))], hp.length, [], d⟩ = some (.bool true, ⟨hp ++ [TB, CB, RB, arB (hp.length + 3 + 1) A, byB A, arB (hp.length + 5 + 1) (lvA b b.length), byB (lvA b b.length)], hp.length, [], d⟩)) ∧
    (∀ d O, Lrun env (.func 41) [arP (hp.length + 3), .int .i64 lv] ⟨hp ++ [TB, CB, RB, arB (hp.length + 3 + 1) (lvA b b.length), byB (lvA b b.length), arB (hp.length + 5 + 1) O, byB O], hp.length, [], d⟩ = some (.bool true, ⟨hp ++ [TB, CB, RB, arB (hp.length + 3 + 1) (lvA b lv), byB (lvA b lv), arB (hp.length + 5 + 1) O, byB O], hp.length, [], d⟩)) ∧
    (∀ d A, Lrun env (.func 42) [arP (hp.length + 5), .int .i64 lv] ⟨hp ++ [TB, CB, RB, arB (hp.length + 3 + 1) A, byB A, arB (hp.length + 5 + 1) (lvA b b.length), byB (lvA b b.length)], hp.length, [], d⟩ = some (.bool true, ⟨hp ++ [TB, CB, RB, arB (hp.length + 3 + 1) A, byB A, arB (hp.length + 5 + 1) (lvA b lv), byB (lvA b lv)], hp.length, [], d⟩)) ∧
    (∀ d A s m c n t z, Lrun env (.func 43) [arP (hp.length + 5), .agg #[.int .i64 s, .int .i64 m], .agg #[.int .i64 c, .int .i64 n], .agg #[.int .i64 t, .int .i64 z]] ⟨hp ++ [TB, CB, RB, arB (hp.length + 3 + 1) A, byB A, arB (hp.length + 5 + 1) (lvA b lv), byB (lvA b lv)], hp.length, [], d⟩ = some (.bool (bValid (lvA b lv) s m c n t z), ⟨hp ++ [TB, CB, RB, arB (hp.length + 3 + 1) A, byB A, arB (hp.length + 5 + 1) (lvA b lv), byB (lvA b lv)], hp.length, [], d⟩)) := by
  have hF : Fit hp.length hp.length [] := ⟨Nat.le_refl _, Low.nil _⟩
  have hby := hr.by_
  have hz : By (List.replicate b.length 0) := fun x hx => by rw [List.mem_replicate] at hx; omega
  have hw3 : hp.length ≤ hp.length + 3 ∧ hp.length ≤ hp.length + 3 + 1 := by omega
  have hw5 : hp.length ≤ hp.length + 5 ∧ hp.length ≤ hp.length + 5 + 1 := by omega
  have t1 := laid_taken (N := b.length) (l := []) (m := b.length) (by simp)
  simp only [List.nil_append, List.length_nil, Int.natCast_zero] at t1
  rw [← new_laid] at t1
  have hpl : (List.replicate b.length 0).length = b.length := by simp
  have hp0 : (Arn.laid b.length (List.replicate b.length 0)).part 0 b.length 0 b.length = true := by
    have := laid_part (N := b.length) (l := List.replicate b.length 0) (n := b.length) (by rw [hpl])
    rw [Arn.part_iff] at this ⊢
    show _ ∧ _
    simp [Arn.laid]
  have hs0 : (Arn.laid b.length (List.replicate b.length 0)).store 0 b.length 0 b = lvA b b.length := by
    rw [laid_store (by simp) (by simp), laid_full]; rfl
  have k0 : ∀ r q n, r < n → q < n → r ≠ q → ArOk n r q [] (Arn.new b.length) := fun r q n h1 h2 h3 => ArOk.new h1 h2 h3 (by omega) rfl rfl
  have k1 : ∀ r q n, r < n → q < n → r ≠ q → ArOk n r q [] (Arn.laid b.length (List.replicate b.length 0)) := fun r q n h1 h2 h3 => ArOk.laid h1 h2 h3 hz (by simp) (by omega) rfl rfl
  have hrel : (lvA b b.length).release lv = lvA b lv := by
    unfold Arn.release
    rw [if_pos (by show (0 : Int) ≤ lv ∧ (lv : Int) ≤ b.length; omega)]; rfl
  have hdec : decide (0 ≤ (lv : Int) ∧ (lv : Int) ≤ (lvA b b.length).live) = true := decide_eq_true (by show (0 : Int) ≤ lv ∧ (lv : Int) ≤ b.length; omega)
  refine ⟨fun d => ?_, fun d => ?_, fun d O => ?_, fun d A => ?_, fun d O => ?_, fun d A => ?_, fun d O => ?_, fun d A => ?_, fun d A s m c n t z => ?_⟩
  · rw [new_walk (hF.mono (by simp)) b.length (by omega) (by omega), ← put_new]
    simp
  · rw [rfnew_walk (hF.mono (by simp)) b.length (by omega) (by omega), ← put_new]
    simp
  · rw [← lit_a (D0 := default) (D1 := default), ← lit_a (D0 := default) (D1 := default), take_walk (hF.mono (by simp)) (k0 _ _ _ (by simp) (by simp) (by omega)) hw3 b.length, t1]
  · rw [← lit_o (D0 := default) (D1 := default), ← lit_o (D0 := default) (D1 := default), rftake_walk (hF.mono (by simp)) (k0 _ _ _ (by simp) (by simp) (by omega)) hw5 b.length, t1]
  · rw [← lit_a (D0 := default) (D1 := default), ← lit_a (D0 := default) (D1 := default)]
    have h := store_walk (d := d) (hp := hp ++ (TB :: CB :: RB :: default :: default :: [arB (hp.length + 5 + 1) O, byB O])) (r := hp.length + 3) (q := hp.length + 3 + 1) (L := hp.length) (H := []) (by omega : b.length ≤ 1048576) (hF.mono (by simp)) (k1 _ _ _ (by simp) (by simp) (by omega)) hw3 0 b.length 0 (fun nw => by rw [List.append_assoc]; exact hr.put (by omega) (by omega))
    rw [hp0, hs0] at h
    exact h
  · rw [← lit_o (D0 := default) (D1 := default), ← lit_o (D0 := default) (D1 := default)]
    have h := rfstore_walk (d := d) (hp := hp ++ (TB :: CB :: RB :: arB (hp.length + 3 + 1) A :: byB A :: [default, default])) (r := hp.length + 5) (q := hp.length + 5 + 1) (L := hp.length) (H := []) (A := Arn.laid b.length (List.replicate b.length 0)) (s := 0) (len := b.length) (a := 0) (hF.mono (by simp)) (k1 _ _ _ (by simp) (by simp) (by omega)) hw5 (by omega : b.length ≤ 1048576) (by omega) hp0 (fun B nw => by rw [List.append_assoc]; exact hr.put (by omega) (by omega))
    simp only [Int.natCast_zero] at h
    rw [hs0] at h
    exact h
  · rw [← lit_a (D0 := default) (D1 := default), ← lit_a (D0 := default) (D1 := default), release_walk (hF.mono (by simp)) (lvA_ok (by simp) (by simp) (by omega) hby (Nat.le_refl _) (by omega)) hw3 lv, hrel, hdec]
  · rw [← lit_o (D0 := default) (D1 := default), ← lit_o (D0 := default) (D1 := default), rfrelease_walk (hF.mono (by simp)) (lvA_ok (by simp) (by simp) (by omega) hby (Nat.le_refl _) (by omega)) hw5 lv, hrel, hdec]
  · rw [← lit_o (D0 := default) (D1 := default), rfvalid_walk (hF.mono (by simp)) (lvA_ok (by simp) (by simp) (by omega) hby hlv (by omega)) s m c n t z]
set_option maxRecDepth 100000 in
theorem matches19_run {hp : List Blk} {v : Value} {b : List Nat} (hr : Rd ⟨hp, hp.length, [], []⟩ v b) (left : Int) (hl0 : -9223372036854775808 ≤ left) (hl1 : left ≤ 9223372036854775807)
    (s n1 : Int) (hs : -9223372036854775808 ≤ s ∧ s ≤ 9223372036854775807 ∧ -9223372036854775808 ≤ n1 ∧ n1 ≤ 9223372036854775807) (c n2 : Int) (hc : -9223372036854775808 ≤ c ∧ c ≤ 9223372036854775807 ∧ -9223372036854775808 ≤ n2 ∧ n2 ≤ 9223372036854775807) (t n3 : Int) (ht : -9223372036854775808 ≤ t ∧ t ≤ 9223372036854775807 ∧ -9223372036854775808 ≤ n3 ∧ n3 ≤ 9223372036854775807)
    (m : Int) (hm0 : -9223372036854775808 ≤ m) (hm1 : m ≤ 9223372036854775807) (k : Int) (hk0 : -9223372036854775808 ≤ k) (hk1 : k ≤ 9223372036854775807) :
    ∃ σ', Lrun env (.func 9) [v, .int .i64 left, .agg #[.int .i64 s, .int .i64 n1], .agg #[.int .i64 c, .int .i64 n2], .agg #[.int .i64 t, .int .i64 n3], .int .i64 m, .int .i64 k] ⟨hp, hp.length, [], []⟩ = some (.bool true, σ') := by
  have hF : Fit hp.length hp.length [] := ⟨Nat.le_refl _, Low.nil _⟩
  have hlen := hr.lenF
  by_cases g : (b.length : Int) > 600 ∨ (b.length : Int) = 0 ∨ left < 0 ∨ left > b.length
  · rw [Lrun_sym 9 _ _ fn9]
    by_cases g1 : (b.length : Int) > 600
    · simp (disch := (first | omega | (simp only [lnE] <;> omega) | (refine Fit.mono ‹Fit _ _ _› ?_ <;> (simp only [lnE] <;> omega)) | (refine Fit.draw ‹Fit _ _ _› ?_ ?_ <;> (simp only [lnE] <;> omega)) | (refine Fit.hid1 ‹Fit _ _ _› ?_ ?_ <;> (simp only [lnE] <;> omega)) | (refine Fit.draw1 ‹Fit _ _ _› ?_ ?_ ?_ <;> (simp only [lnE] <;> omega)) | (refine Fit.range0 ?_ ?_ <;> (simp only [lnE] <;> omega)) | fail)) only [syA, syB, argFr, D, E, T, C, undefv, eqF, aeq, sheqs, sheq, rdCells, cellsOf, fill, putAt, if_true, if_false, reduceIte, ↓reduceIte, reduceCtorEq, eq_self, Nat.reduceEqDiff, Nat.reduceAdd, Nat.reduceSub, Nat.reduceMul, Nat.reduceLT, Nat.reduceLeDiff, Nat.reducePow, Nat.reduceDiv, Nat.reduceMod, Int.reduceLT, Int.reduceLE, Int.reduceGT, Int.reduceGE, Int.reduceToNat, Int.reducePow, Int.reduceNeg, Int.reduceBEq, Int.reduceBNe, Int.reduceEq, Int.reduceAdd, Int.reduceSub, Int.reduceMul, cellv, sc, flatv, refs, refsF, refsC, hF.not0, hF.not1, hF.up0, hF.up1, ac9, hlen, g1, wakes19_walk]
      exact ⟨_, rfl⟩
    by_cases g2 : (b.length : Int) = 0
    · simp (disch := (first | omega | (simp only [lnE] <;> omega) | (refine Fit.mono ‹Fit _ _ _› ?_ <;> (simp only [lnE] <;> omega)) | (refine Fit.draw ‹Fit _ _ _› ?_ ?_ <;> (simp only [lnE] <;> omega)) | (refine Fit.hid1 ‹Fit _ _ _› ?_ ?_ <;> (simp only [lnE] <;> omega)) | (refine Fit.draw1 ‹Fit _ _ _› ?_ ?_ ?_ <;> (simp only [lnE] <;> omega)) | (refine Fit.range0 ?_ ?_ <;> (simp only [lnE] <;> omega)) | fail)) only [syA, syB, argFr, D, E, T, C, undefv, eqF, aeq, sheqs, sheq, rdCells, cellsOf, fill, putAt, if_true, if_false, reduceIte, ↓reduceIte, reduceCtorEq, eq_self, Nat.reduceEqDiff, Nat.reduceAdd, Nat.reduceSub, Nat.reduceMul, Nat.reduceLT, Nat.reduceLeDiff, Nat.reducePow, Nat.reduceDiv, Nat.reduceMod, Int.reduceLT, Int.reduceLE, Int.reduceGT, Int.reduceGE, Int.reduceToNat, Int.reducePow, Int.reduceNeg, Int.reduceBEq, Int.reduceBNe, Int.reduceEq, Int.reduceAdd, Int.reduceSub, Int.reduceMul, cellv, sc, flatv, refs, refsF, refsC, hF.not0, hF.not1, hF.up0, hF.up1, ac9, hlen, g1, g2, wakes19_walk]
      exact ⟨_, rfl⟩
    have g2' : ((b.length : Int) == 0) = false := by rw [beq_eq_false_iff_ne]; exact g2
    by_cases g3 : left < 0
    · simp (disch := (first | omega | (simp only [lnE] <;> omega) | (refine Fit.mono ‹Fit _ _ _› ?_ <;> (simp only [lnE] <;> omega)) | (refine Fit.draw ‹Fit _ _ _› ?_ ?_ <;> (simp only [lnE] <;> omega)) | (refine Fit.hid1 ‹Fit _ _ _› ?_ ?_ <;> (simp only [lnE] <;> omega)) | (refine Fit.draw1 ‹Fit _ _ _› ?_ ?_ ?_ <;> (simp only [lnE] <;> omega)) | (refine Fit.range0 ?_ ?_ <;> (simp only [lnE] <;> omega)) | fail)) only [syA, syB, argFr, D, E, T, C, undefv, eqF, aeq, sheqs, sheq, rdCells, cellsOf, fill, putAt, if_true, if_false, reduceIte, ↓reduceIte, reduceCtorEq, eq_self, Nat.reduceEqDiff, Nat.reduceAdd, Nat.reduceSub, Nat.reduceMul, Nat.reduceLT, Nat.reduceLeDiff, Nat.reducePow, Nat.reduceDiv, Nat.reduceMod, Int.reduceLT, Int.reduceLE, Int.reduceGT, Int.reduceGE, Int.reduceToNat, Int.reducePow, Int.reduceNeg, Int.reduceBEq, Int.reduceBNe, Int.reduceEq, Int.reduceAdd, Int.reduceSub, Int.reduceMul, cellv, sc, flatv, refs, refsF, refsC, hF.not0, hF.not1, hF.up0, hF.up1, ac9, hlen, g1, g2', g3, wakes19_walk]
      exact ⟨_, rfl⟩
    by_cases g4 : left > b.length
    · simp (disch := (first | omega | (simp only [lnE] <;> omega) | (refine Fit.mono ‹Fit _ _ _› ?_ <;> (simp only [lnE] <;> omega)) | (refine Fit.draw ‹Fit _ _ _› ?_ ?_ <;> (simp only [lnE] <;> omega)) | (refine Fit.hid1 ‹Fit _ _ _› ?_ ?_ <;> (simp only [lnE] <;> omega)) | (refine Fit.draw1 ‹Fit _ _ _› ?_ ?_ ?_ <;> (simp only [lnE] <;> omega)) | (refine Fit.range0 ?_ ?_ <;> (simp only [lnE] <;> omega)) | fail)) only [syA, syB, argFr, D, E, T, C, undefv, eqF, aeq, sheqs, sheq, rdCells, cellsOf, fill, putAt, if_true, if_false, reduceIte, ↓reduceIte, reduceCtorEq, eq_self, Nat.reduceEqDiff, Nat.reduceAdd, Nat.reduceSub, Nat.reduceMul, Nat.reduceLT, Nat.reduceLeDiff, Nat.reducePow, Nat.reduceDiv, Nat.reduceMod, Int.reduceLT, Int.reduceLE, Int.reduceGT, Int.reduceGE, Int.reduceToNat, Int.reducePow, Int.reduceNeg, Int.reduceBEq, Int.reduceBNe, Int.reduceEq, Int.reduceAdd, Int.reduceSub, Int.reduceMul, cellv, sc, flatv, refs, refsF, refsC, hF.not0, hF.not1, hF.up0, hF.up1, ac9, hlen, g1, g2', g3, g4, wakes19_walk]
      exact ⟨_, rfl⟩
    omega
  have g1 : ¬ (b.length : Int) > 600 := by omega
  have g2 : ¬ (b.length : Int) = 0 := by omega
  have g2' : ((b.length : Int) == 0) = false := by rw [beq_eq_false_iff_ne]; exact g2
  have g3 : ¬ left < 0 := by omega
  have g4 : ¬ left > b.length := by omega
  obtain ⟨lf, rfl⟩ := Int.eq_ofNat_of_zero_le (by omega : 0 ≤ left)
  obtain ⟨lv, hlv⟩ : ∃ lv, lv = b.length - lf := ⟨_, rfl⟩
  have e1 : (b.length : Int) - lf = (lv : Int) := by omega
  have hby := hr.by_
  obtain ⟨TB, hTB⟩ : ∃ TB : Blk, TB = .cells 0 true [.int .i64 s, .int .i64 n1] := ⟨_, rfl⟩
  obtain ⟨CB, hCB⟩ : ∃ CB : Blk, CB = .cells 0 true [.int .i64 c, .int .i64 n2] := ⟨_, rfl⟩
  obtain ⟨RB, hRB⟩ : ∃ RB : Blk, RB = .cells 0 true [.int .i64 t, .int .i64 n3] := ⟨_, rfl⟩
  obtain ⟨u1, u2, u3, u4, u5, u6, u7, u8, u9⟩ := setup19 (TB := TB) (CB := CB) (RB := RB) hr (by omega) (by omega) (show lv ≤ b.length by omega)
  have kA : ∀ n, hp.length + 5 ≤ n → ArOk n (hp.length + 3) (hp.length + 3 + 1) [] (lvA b lv) := fun n hn => lvA_ok (by omega) (by omega) (by omega) hby (by omega) (by omega)
  obtain ⟨OA, hOA⟩ : ∃ OA, OA = arB (hp.length + 5 + 1) (lvA b lv) := ⟨_, rfl⟩
  obtain ⟨OB, hOB⟩ : ∃ OB, OB = byB (lvA b lv) := ⟨_, rfl⟩
  have va : ∀ d, Lrun env (.func 44) [arP (hp.length + 3), .agg #[.int .i64 s, .int .i64 n1], .agg #[.int .i64 c, .int .i64 n2], .agg #[.int .i64 t, .int .i64 n3]] ⟨hp ++ [TB, CB, RB, arB (hp.length + 3 + 1) (lvA b lv), byB (lvA b lv), OA, OB], hp.length, [], d⟩ = some (.bool (bValid (lvA b lv) s n1 c n2 t n3), ⟨hp ++ [TB, CB, RB, arB (hp.length + 3 + 1) (lvA b lv), byB (lvA b lv), OA, OB], hp.length, [], d⟩) := fun d => by
    rw [← lit_a (D0 := default) (D1 := default), bvalid_walk (hF.mono (by simp)) (kA _ (by simp))]
  have pw := fun (hp : List Blk) (L : Nat) (H d : List Nat) (hF : Fit hp.length L H) => bpasses_walk (d := d) hF m k hm1 hk1
  have pw2 := fun (hp : List Blk) (L : Nat) (H d : List Nat) (hF : Fit hp.length L H) => rfpasses_walk (d := d) hF m k hm1 hk1
  have w9 := fun d A => u9 d A s n1 c n2 t n3
  cases hv : bValid (lvA b lv) s n1 c n2 t n3 with
  | false =>
    have tb : ∀ d, Lrun env (.func 28) [arP (hp.length + 3), .agg #[.int .i64 s, .int .i64 n1], .agg #[.int .i64 c, .int .i64 n2], .agg #[.int .i64 t, .int .i64 n3]] ⟨hp ++ [TB, CB, RB, arB (hp.length + 3 + 1) (lvA b lv), byB (lvA b lv), OA, OB], hp.length, [], d⟩ = some (.tuple #[.int .i64 0, .int .i64 0, .int .i64 2], ⟨hp ++ [TB, CB, RB, arB (hp.length + 3 + 1) (lvA b lv), byB (lvA b lv), OA, OB], hp.length, [], d⟩) := fun d => by
      rw [← lit_a (D0 := default) (D1 := default), bturn_bad (hF.mono (by simp)) (kA _ (by simp)) hv]
    have mk : ∀ d, Lrun env (.func 35) [arP (hp.length + 3)] ⟨hp ++ [TB, CB, RB, arB (hp.length + 3 + 1) (lvA b lv), byB (lvA b lv), OA, OB], hp.length, [], d⟩ = some (.int .i64 lv, ⟨hp ++ [TB, CB, RB, arB (hp.length + 3 + 1) (lvA b lv), byB (lvA b lv), OA, OB], hp.length, [], d⟩) := fun d => by
      rw [← lit_a (D0 := default) (D1 := default), mark_walk (hF.mono (by simp)) (kA _ (by simp))]
      rfl
    have hlo : (lvA b lv).loadO 0 lv = some (b.take lv) := by
      unfold Arn.loadO
      rw [if_pos (by rw [Arn.has_iff]; show _ ∧ _ ∧ (0 : Int) ≤ lv ∧ _; simp [lvA])]
      simp [lvA]
    have htl : (b.take lv).length = lv := by simp; omega
    have ld : ∀ d, Lrun env (.func 29) [arP (hp.length + 3), .agg #[.int .i64 0, .int .i64 lv]] ⟨hp ++ [TB, CB, RB, arB (hp.length + 3 + 1) (lvA b lv), byB (lvA b lv), OA, OB], hp.length, [], d⟩ = some (.slice (some ⟨hp.length + 7, 0, some lv⟩) lv 1, ⟨hp ++ [TB, CB, RB, arB (hp.length + 3 + 1) (lvA b lv), byB (lvA b lv), OA, OB, .cells lv true (u8s (b.take lv))], hp.length, [], d⟩) := fun d => by
      rw [← lit_a (D0 := default) (D1 := default), ← lit_a (D0 := default) (D1 := default), load_walk (hF.mono (by simp)) (kA _ (by simp)) 0 lv, hlo]
      simp [sl_some, slB_some, htl]
    have hra : ∀ (L' : Nat) (H d : List Nat), H.contains (hp.length + 7) = false → Rd ⟨hp ++ [TB, CB, RB, arB (hp.length + 3 + 1) (lvA b lv), byB (lvA b lv), OA, OB, .cells lv true (u8s (b.take lv))], L', H, d⟩ (.slice (some ⟨hp.length + 7, 0, some lv⟩) lv 1) (b.take lv) := fun L' H d hH => by
      have h := Rd.whole (hp := hp ++ [TB, CB, RB, arB (hp.length + 3 + 1) (lvA b lv), byB (lvA b lv), OA, OB, .cells lv true (u8s (b.take lv))]) (b := hp.length + 7) (g := lv) (e := 1) (L := L') (H := H) (d := d) (pl := true) (l := b.take lv) (by rw [get_new]; rfl) hH (hby.take lv) (.inr rfl)
      rw [htl] at h
      exact h
    obtain ⟨w, cw, hrw⟩ := hr.upto (j := lv) (by omega)
    have sa := fun L' d => (hra L' [] d rfl).str
    have sb : ∀ nw L' d, St.str ⟨hp ++ nw, L', [], d⟩ w = some (b8 (b.take lv)) := fun nw L' d => (hrw.app (nw := nw)).str
    subst hTB hCB hRB hOA hOB
    rw [Lrun_sym 9 _ _ fn9]
    by_cases d1 : m ≤ 2000
    · simp (disch := (first | omega | (simp only [lnE] <;> omega) | (refine Fit.mono ‹Fit _ _ _› ?_ <;> (simp only [lnE] <;> omega)) | (refine Fit.draw ‹Fit _ _ _› ?_ ?_ <;> (simp only [lnE] <;> omega)) | (refine Fit.hid1 ‹Fit _ _ _› ?_ ?_ <;> (simp only [lnE] <;> omega)) | (refine Fit.draw1 ‹Fit _ _ _› ?_ ?_ ?_ <;> (simp only [lnE] <;> omega)) | (refine Fit.range0 ?_ ?_ <;> (simp only [lnE] <;> omega)) | fail)) only [syA, syB, argFr, D, E, T, C, undefv, eqF, aeq, sheqs, sheq, rdCells, cellsOf, fill, putAt, if_true, if_false, reduceIte, ↓reduceIte, reduceCtorEq, eq_self, Nat.reduceEqDiff, Nat.reduceAdd, Nat.reduceSub, Nat.reduceMul, Nat.reduceLT, Nat.reduceLeDiff, Nat.reducePow, Nat.reduceDiv, Nat.reduceMod, Int.reduceLT, Int.reduceLE, Int.reduceGT, Int.reduceGE, Int.reduceToNat, Int.reducePow, Int.reduceNeg, Int.reduceBEq, Int.reduceBNe, Int.reduceEq, Int.reduceAdd, Int.reduceSub, Int.reduceMul, cellv, sc, flatv, refs, refsF, refsC, hF.not0, hF.not1, hF.up0, hF.up1, ac9, hlen, g1, g2', g3, g4, e1, u1, u2, u3, u4, u5, u6, u7, u8, w9, hv, va, d1, pw, pw2, tb, mk, ld, cw, sa, sb, wakes19_walk]
      exact ⟨_, rfl⟩
    · simp (disch := (first | omega | (simp only [lnE] <;> omega) | (refine Fit.mono ‹Fit _ _ _› ?_ <;> (simp only [lnE] <;> omega)) | (refine Fit.draw ‹Fit _ _ _› ?_ ?_ <;> (simp only [lnE] <;> omega)) | (refine Fit.hid1 ‹Fit _ _ _› ?_ ?_ <;> (simp only [lnE] <;> omega)) | (refine Fit.draw1 ‹Fit _ _ _› ?_ ?_ ?_ <;> (simp only [lnE] <;> omega)) | (refine Fit.range0 ?_ ?_ <;> (simp only [lnE] <;> omega)) | fail)) only [syA, syB, argFr, D, E, T, C, undefv, eqF, aeq, sheqs, sheq, rdCells, cellsOf, fill, putAt, if_true, if_false, reduceIte, ↓reduceIte, reduceCtorEq, eq_self, Nat.reduceEqDiff, Nat.reduceAdd, Nat.reduceSub, Nat.reduceMul, Nat.reduceLT, Nat.reduceLeDiff, Nat.reducePow, Nat.reduceDiv, Nat.reduceMod, Int.reduceLT, Int.reduceLE, Int.reduceGT, Int.reduceGE, Int.reduceToNat, Int.reducePow, Int.reduceNeg, Int.reduceBEq, Int.reduceBNe, Int.reduceEq, Int.reduceAdd, Int.reduceSub, Int.reduceMul, cellv, sc, flatv, refs, refsF, refsC, hF.not0, hF.not1, hF.up0, hF.up1, ac9, hlen, g1, g2', g3, g4, e1, u1, u2, u3, u4, u5, u6, u7, u8, w9, hv, va, d1, tb, mk, ld, cw, sa, sb, wakes19_walk]
      exact ⟨_, rfl⟩
  | true =>
    obtain ⟨v1, v2, v3, v4, v5, v6, v7⟩ := bValid_parts hv
    have b1 := Arn.has_iff.1 v1
    have b2 := Arn.has_iff.1 v2
    have b3 := Arn.has_iff.1 v3
    have hlA : (lvA b lv).live = lv := rfl
    rw [hlA] at b1 b2 b3
    obtain ⟨s, rfl⟩ := Int.eq_ofNat_of_zero_le (by omega : 0 ≤ s)
    obtain ⟨n1, rfl⟩ := Int.eq_ofNat_of_zero_le (by omega : 0 ≤ n1)
    obtain ⟨c, rfl⟩ := Int.eq_ofNat_of_zero_le (by omega : 0 ≤ c)
    obtain ⟨n2, rfl⟩ := Int.eq_ofNat_of_zero_le (by omega : 0 ≤ n2)
    obtain ⟨t, rfl⟩ := Int.eq_ofNat_of_zero_le (by omega : 0 ≤ t)
    obtain ⟨n3, rfl⟩ := Int.eq_ofNat_of_zero_le (by omega : 0 ≤ n3)
    have hn2 : n2 = n1 := by omega
    subst hn2
    obtain ⟨x, hx⟩ : ∃ x, x = (b.drop s).take n2 := ⟨_, rfl⟩
    have hxl : x.length = n2 := by rw [hx]; simp; omega
    have hxb : By x := by rw [hx]; exact (hby.drop s).take n2
    have hxh : Holds (lvA b lv) s x := ⟨by rw [hlA, hxl]; omega, fun i hi => by
      rw [hxl] at hi
      show b[s + i]? = _
      have hsi : s + i < b.length := by omega
      rw [List.getElem?_eq_getElem hsi]
      simp [hx]⟩
    have hw3 : hp.length ≤ hp.length + 3 ∧ hp.length ≤ hp.length + 3 + 1 := by omega
    obtain ⟨B, tb0, bt⟩ := bturn_ok (hp := hp ++ [TB, CB, RB, default, default, OA, OB]) (L := hp.length) (H := []) (r := hp.length + 3) (q := hp.length + 3 + 1) (hF.mono (by simp)) (kA _ (by simp)) hw3 hxh hxb (by rw [hxl]; exact hv)
    have kB : ∀ n, hp.length + 5 ≤ n → ArOk n (hp.length + 3) (hp.length + 3 + 1) [] B := fun n hn => bt.ok (kA n hn)
    have lvB : B.live = lv := bt.live
    have lenB : B.bs.length = b.length := bt.len
    have tb : ∀ d, Lrun env (.func 28) [arP (hp.length + 3), .agg #[.int .i64 s, .int .i64 n2], .agg #[.int .i64 c, .int .i64 n2], .agg #[.int .i64 t, .int .i64 n3]] ⟨hp ++ [TB, CB, RB, arB (hp.length + 3 + 1) (lvA b lv), byB (lvA b lv), OA, OB], hp.length, [], d⟩ = some (.tuple #[.int .i64 (turnR x).2.1, .int .i64 (n2 / (n3 / 4) + 1 : Nat), .int .i64 0], ⟨hp ++ [TB, CB, RB, arB (hp.length + 3 + 1) B, byB B, OA, OB], hp.length, [], d⟩) := fun d => by
      rw [← lit_a (D0 := default) (D1 := default), ← lit_a (D0 := default) (D1 := default)]
      have := tb0 d
      rw [hxl] at this
      exact this
    have mk : ∀ d, Lrun env (.func 35) [arP (hp.length + 3)] ⟨hp ++ [TB, CB, RB, arB (hp.length + 3 + 1) B, byB B, OA, OB], hp.length, [], d⟩ = some (.int .i64 lv, ⟨hp ++ [TB, CB, RB, arB (hp.length + 3 + 1) B, byB B, OA, OB], hp.length, [], d⟩) := fun d => by
      rw [← lit_a (D0 := default) (D1 := default), mark_walk (hF.mono (by simp)) (kB _ (by simp)), lvB]
    obtain ⟨W, hW⟩ : ∃ W, W = B.bs.take lv := ⟨_, rfl⟩
    have htl : W.length = lv := by rw [hW]; simp; omega
    have hWb : By W := by rw [hW]; exact bt.by_.take lv
    have hlo : B.loadO 0 lv = some W := by
      unfold Arn.loadO
      rw [if_pos (by rw [Arn.has_iff, lvB]; omega), hW]
      simp
    have ld : ∀ d, Lrun env (.func 29) [arP (hp.length + 3), .agg #[.int .i64 0, .int .i64 lv]] ⟨hp ++ [TB, CB, RB, arB (hp.length + 3 + 1) B, byB B, OA, OB], hp.length, [], d⟩ = some (.slice (some ⟨hp.length + 7, 0, some lv⟩) lv 1, ⟨hp ++ [TB, CB, RB, arB (hp.length + 3 + 1) B, byB B, OA, OB, .cells lv true (u8s W)], hp.length, [], d⟩) := fun d => by
      rw [← lit_a (D0 := default) (D1 := default), ← lit_a (D0 := default) (D1 := default), load_walk (hF.mono (by simp)) (kB _ (by simp)) 0 lv, hlo]
      simp [sl_some, slB_some, htl]
    obtain ⟨hq, hhq⟩ : ∃ hq, hq = hp ++ [TB, CB, RB, arB (hp.length + 3 + 1) B, byB B, OA, OB, .cells lv true (u8s W)] := ⟨_, rfl⟩
    have hql : hq.length = hp.length + 8 := by rw [hhq]; simp
    have hFq : Fit hq.length hp.length [] := hF.mono (by omega)
    have hrq : Rd ⟨hq, hp.length, [], []⟩ v b := by rw [hhq]; exact hr.app
    have hua : Rd ⟨hq, hp.length, [], []⟩ (.slice (some ⟨hp.length + 7, 0, some lv⟩) lv 1) W := by
      have h := Rd.whole (hp := hq) (b := hp.length + 7) (g := lv) (e := 1) (L := hp.length) (H := []) (d := []) (pl := true) (l := W) (by rw [hhq, get_new]; rfl) rfl hWb (.inr rfl)
      rw [htl] at h
      exact h
    have hsame : ∀ j, j < lv → (j < c ∨ c + n2 ≤ j) → (j < t ∨ t + n3 ≤ j) → W[j]? = b[j]? := fun j hj h1 h2 => by
      rw [hW, List.getElem?_take_of_lt hj, bt.out j (by rw [hxl]; exact h1) h2]; rfl
    obtain ⟨fr, f0, f1, f2, f3, f4, f5, f6, f7⟩ := check19_loop (rp := arP (hp.length + 3)) (b9 := hp.length) (b10 := hp.length + 1) (b11 := hp.length + 2) (i := (turnR x).2.1) (p := (n2 / (n3 / 4) + 1 : Nat)) hFq hrq hua htl (by omega) (by omega) (c := c) (m := n2) (t := t) (z := n3) (by omega) (by rw [hhq, get_new, ← hCB]; rfl) (by rw [hhq, get_new, ← hRB]; rfl) hsame (fun y hy => by have := hr.refs y hy; simp at this; omega) (by simp [refs, refsF, refsC]; omega) (by simp [arP, refs, refsF, refsC]; omega) (by omega) lv 0 (by omega)
    obtain ⟨w, cw, hrw⟩ := hrq.cut (i := s) (j := s + n2) (by omega) (by omega)
    rw [Nat.add_sub_cancel_left, ← hx] at hrw
    have hx0 : x ≠ [] := by intro h; rw [h] at hxl; simp at hxl; omega
    have hcl : (turnR x).1.length = n2 := by rw [(turnR_len x).1, hxl]
    have hcb : By (turnR x).1 := turnR_by x hxb
    have hcn : (turnR x).1 ≠ [] := by intro h; rw [h] at hcl; simp at hcl; omega
    have tw := turn17_walk (d := []) (hq := hq) (L := hp.length) (H := []) hFq hrw (by omega)
    rw [bv_ne hcn, bb_ne hcn, hcl, hql] at tw
    obtain ⟨N1, hN1⟩ : ∃ N1 : Blk, N1 = .cells n2 true (u8s (turnR x).1) := ⟨_, rfl⟩
    have l2 := bt.col.load
    rw [hcl] at l2
    have lw2 : ∀ L' H d, Fit (hp.length + 9) L' H → ArOk (hp.length + 5) (hp.length + 3) (hp.length + 3 + 1) H B → Lrun env (.func 29) [arP (hp.length + 3), .agg #[.int .i64 c, .int .i64 n2]] ⟨hp ++ [TB, CB, RB, arB (hp.length + 3 + 1) B, byB B, OA, OB, .cells lv true (u8s W), N1], L', H, d⟩ = some (.slice (some ⟨hp.length + 9, 0, some n2⟩) n2 1, ⟨hp ++ [TB, CB, RB, arB (hp.length + 3 + 1) B, byB B, OA, OB, .cells lv true (u8s W), N1, N1], L', H, d⟩) := fun L' H d hF' k' => by
      rw [← lit_a (D0 := default) (D1 := default), ← lit_a (D0 := default) (D1 := default), load_walk (by simpa using hF') (k'.mono (by simp)) c n2, l2]
      simp [sl_some, slB_some, hcl, hN1]
    have hrd1 : ∀ (nw : List Blk) (L' : Nat) (H d : List Nat), H.contains (hp.length + 8) = false → Rd ⟨hp ++ (TB :: CB :: RB :: arB (hp.length + 3 + 1) B :: byB B :: OA :: OB :: .cells lv true (u8s W) :: N1 :: nw), L', H, d⟩ (.slice (some ⟨hp.length + 8, 0, some n2⟩) n2 1) (turnR x).1 := fun nw L' H d hH => by
      have h := Rd.whole (hp := hp ++ (TB :: CB :: RB :: arB (hp.length + 3 + 1) B :: byB B :: OA :: OB :: .cells lv true (u8s W) :: N1 :: nw)) (b := hp.length + 8) (g := n2) (e := 1) (L := L') (H := H) (d := d) (pl := true) (l := (turnR x).1) (by rw [get_new]; exact congrArg some hN1) hH hcb (.inr rfl)
      rw [hcl] at h
      exact h
    have hrd2 : ∀ (nw : List Blk) (L' : Nat) (H d : List Nat), H.contains (hp.length + 9) = false → Rd ⟨hp ++ (TB :: CB :: RB :: arB (hp.length + 3 + 1) B :: byB B :: OA :: OB :: .cells lv true (u8s W) :: N1 :: N1 :: nw), L', H, d⟩ (.slice (some ⟨hp.length + 9, 0, some n2⟩) n2 1) (turnR x).1 := fun nw L' H d hH => by
      have h := Rd.whole (hp := hp ++ (TB :: CB :: RB :: arB (hp.length + 3 + 1) B :: byB B :: OA :: OB :: .cells lv true (u8s W) :: N1 :: N1 :: nw)) (b := hp.length + 9) (g := n2) (e := 1) (L := L') (H := H) (d := d) (pl := true) (l := (turnR x).1) (by rw [get_new]; exact congrArg some hN1) hH hcb (.inr rfl)
      rw [hcl] at h
      exact h
    have hcon : ∀ b lo n, b < lo → (List.range' lo n).contains b = false := fun b lo n h => by simp [List.contains_eq_mem, List.mem_range']; omega
    have s1 := fun nw L' d => (hrd1 nw L' [] d rfl).str
    have s2 := fun nw L' d => (hrd2 nw L' [] d rfl).str
    have s1h := fun nw L' lo n d (hlo : hp.length + 8 < lo) => (hrd1 nw L' (List.range' lo n) d (hcon _ _ _ hlo)).str
    have s2h := fun nw L' lo n d (hlo : hp.length + 9 < lo) => (hrd2 nw L' (List.range' lo n) d (hcon _ _ _ hlo)).str
    have z4 : Int.tdiv (n3 : Int) 4 = ((n3 / 4 : Nat) : Int) := rfl
    have hP1 : n2 / (n3 / 4) + 1 ≤ 601 := by have := Nat.div_le_self n2 (n3 / 4); omega
    have pq := fun (hp : List Blk) (L : Nat) (H d : List Nat) (hF : Fit hp.length L H) => rfpasses_walk (d := d) hF n2 (n3 / 4 : Nat) (by omega) (by omega)
    have p1 : bPasses n2 (n3 / 4 : Nat) = ((n2 / (n3 / 4) + 1 : Nat) : Int) := (if_neg (by omega)).trans rfl
    simp only [p1] at pq
    have esn : (s : Int) + n2 = ((s + n2 : Nat) : Int) := by omega
    rw [hql, hhq] at f0
    rw [hhq] at tw
    simp only [← hN1, List.append_assoc, List.cons_append, List.nil_append, Int.natCast_zero] at tw f0
    generalize n2 / (n3 / 4) + 1 = P1 at *
    have lw3 := fun d => lw2 (hp.length + 9) [] d ⟨Nat.le_refl _, Low.nil _⟩ (kB _ (Nat.le_refl _))
    clear hFq hrq hua hrw
    subst hTB hCB hRB hOA hOB
    rw [Lrun_sym 9 _ _ fn9]
    by_cases d1 : m ≤ 2000
    · simp (disch := (first | omega | (simp only [lnE, put_length] <;> omega) | (refine Fit.mono ‹Fit _ _ _› ?_ <;> (simp only [lnE, put_length] <;> omega)) | (refine Fit.draw ‹Fit _ _ _› ?_ ?_ <;> (simp only [lnE, put_length] <;> omega)) | (refine Fit.hid1 ‹Fit _ _ _› ?_ ?_ <;> (simp only [lnE, put_length] <;> omega)) | (refine Fit.draw1 ‹Fit _ _ _› ?_ ?_ ?_ <;> (simp only [lnE, put_length] <;> omega)) | (refine Fit.range0 ?_ ?_ <;> (simp only [lnE, put_length] <;> omega)) | (refine ArOk.mono ‹ArOk _ _ _ _ _› ?_ <;> (simp only [lnE, put_length] <;> omega)) | (refine ArOk.hid ‹ArOk _ _ _ _ _› ?_ ?_ <;> (simp only [lnE, put_length] <;> omega)) | (refine ArOk.hid0 ‹ArOk _ _ _ _ _› ?_ ?_ <;> (simp only [lnE, put_length] <;> omega)) | ((intro xr hxr; simp [AM.refs, refsF, refsC] at hxr) <;> (simp only [lnE, put_length] <;> omega)) | fail)) only [syA, syB, argFr, D, E, T, C, undefv, eqF, aeq, sheqs, sheq, rdCells, cellsOf, fill, putAt, if_true, if_false, reduceIte, ↓reduceIte, reduceCtorEq, eq_self, Nat.reduceEqDiff, Nat.reduceAdd, Nat.reduceSub, Nat.reduceMul, Nat.reduceLT, Nat.reduceLeDiff, Nat.reducePow, Nat.reduceDiv, Nat.reduceMod, Int.reduceLT, Int.reduceLE, Int.reduceGT, Int.reduceGE, Int.reduceToNat, Int.reducePow, Int.reduceNeg, Int.reduceBEq, Int.reduceBNe, Int.reduceEq, Int.reduceAdd, Int.reduceSub, Int.reduceMul, cellv, sc, flatv, refs, refsF, refsC, syR, Int.le_refl, hF.not0, hF.not1, hF.up0, hF.up1, ac9, hlen, g1, g2', g3, g4, e1, u1, u2, u3, u4, u5, u6, u7, u8, w9, hv, va, d1, pw, pw2, tb, mk, ld, f0, f1, f2, f3, f4, f5, f6, f7, esn, cw, tw, z4, pq, lw3, s1, s2, s1h, s2h, wakes19_walk]
      exact ⟨_, rfl⟩
    · simp (disch := (first | omega | (simp only [lnE, put_length] <;> omega) | (refine Fit.mono ‹Fit _ _ _› ?_ <;> (simp only [lnE, put_length] <;> omega)) | (refine Fit.draw ‹Fit _ _ _› ?_ ?_ <;> (simp only [lnE, put_length] <;> omega)) | (refine Fit.hid1 ‹Fit _ _ _› ?_ ?_ <;> (simp only [lnE, put_length] <;> omega)) | (refine Fit.draw1 ‹Fit _ _ _› ?_ ?_ ?_ <;> (simp only [lnE, put_length] <;> omega)) | (refine Fit.range0 ?_ ?_ <;> (simp only [lnE, put_length] <;> omega)) | (refine ArOk.mono ‹ArOk _ _ _ _ _› ?_ <;> (simp only [lnE, put_length] <;> omega)) | (refine ArOk.hid ‹ArOk _ _ _ _ _› ?_ ?_ <;> (simp only [lnE, put_length] <;> omega)) | (refine ArOk.hid0 ‹ArOk _ _ _ _ _› ?_ ?_ <;> (simp only [lnE, put_length] <;> omega)) | ((intro xr hxr; simp [AM.refs, refsF, refsC] at hxr) <;> (simp only [lnE, put_length] <;> omega)) | fail)) only [syA, syB, argFr, D, E, T, C, undefv, eqF, aeq, sheqs, sheq, rdCells, cellsOf, fill, putAt, if_true, if_false, reduceIte, ↓reduceIte, reduceCtorEq, eq_self, Nat.reduceEqDiff, Nat.reduceAdd, Nat.reduceSub, Nat.reduceMul, Nat.reduceLT, Nat.reduceLeDiff, Nat.reducePow, Nat.reduceDiv, Nat.reduceMod, Int.reduceLT, Int.reduceLE, Int.reduceGT, Int.reduceGE, Int.reduceToNat, Int.reducePow, Int.reduceNeg, Int.reduceBEq, Int.reduceBNe, Int.reduceEq, Int.reduceAdd, Int.reduceSub, Int.reduceMul, cellv, sc, flatv, refs, refsF, refsC, syR, Int.le_refl, hF.not0, hF.not1, hF.up0, hF.up1, ac9, hlen, g1, g2', g3, g4, e1, u1, u2, u3, u4, u5, u6, u7, u8, w9, hv, va, d1, tb, mk, ld, f0, f1, f2, f3, f4, f5, f6, f7, esn, cw, tw, z4, pq, lw3, s1, s2, s1h, s2h, wakes19_walk]
      exact ⟨_, rfl⟩
end ArA
end Go.Proofs.Ytlphmnhkkhcjfaa
end
