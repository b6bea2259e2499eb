/-
  HEADERS: walk of the reference's ValidMark, for each part. Conditions: none.
-/
import Derived.Test.YtpjjkmfidghkjaaHrE
set_option linter.all false
namespace Go.Proofs.Ytpjjkmfidghkjaa
namespace VarA
open Go Go.RowKit AM ArEnv

theorem u8_take (l : List Nat) : (u8s l).take l.length = u8s l := List.take_of_length_le (by simp [u8s])
theorem gl_len {s Y : Nat} (hY : Y ≤ 4) : ((be s).drop (4 - Y)).length = Y := by rw [List.length_drop, be_length]; omega
section
variable (n k : Int) (x M P Y s : Nat) {hp : List Blk} {L : Nat} {H d : List Nat}
theorem rvm_0 (hn : 1 ≤ n ∧ n ≤ 65536) (hM : (M : Int) ≤ n) (hP : (P : Int) ≤ n) (hY : Y ≤ 4) (hs : s < 4294967296) (hx : x ≤ 9223372036854775807) (hF : Fit hp.length L H) : Lrun env (.func 17) [.int .i64 n, .agg #[.int .i64 0, .int .i64 x, .int .i64 k, .int .i64 M, .int .i64 P, .int .u32 s, .int .i64 Y]] ⟨hp, L, H, d⟩ =
    some (.bool (mSame ⟨0, x, k, M, P, s, Y⟩ (mFold n mNone (mBytes ⟨0, x, k, M, P, s, Y⟩))), ⟨hp, L, H, d⟩) := by
  rw [Lrun_sym 17 _ _ fn17]
  have hi : inR n 1 65536 = true := inR_true.2 hn
  have c1 : ¬ n < 1 := by omega
  have c2 : ¬ n > 65536 := by omega
  have c3 : ¬ (Y : Int) < 0 := by omega
  have c4 : ¬ (Y : Int) > 4 := by omega
  have c5 : ¬ (M : Int) < 0 := by omega
  have c6 : ¬ (M : Int) > n := by omega
  have c7 : ¬ (P : Int) < 0 := by omega
  have c8 : ¬ (P : Int) > n := by omega
  have c9 : ¬ (x : Int) < 0 := by omega
  rw [show mBytes ⟨0, x, k, M, P, s, Y⟩ = [] from by simp [mBytes]]
  have hlp := rvm_loop (hq := hp ++ [.cells 0 true [.int .i64 0, .int .i64 x, .int .i64 k, .int .i64 M, .int .i64 P, .int .u32 s, .int .i64 Y]]) (L := L) (H := H) (v := .slice none 0 0) (q := hp.length) (l := []) (n := n) (hF.mono (by simp)) ⟨By.nil, .inl ⟨rfl, rfl⟩⟩ (by simp) (by simp) [] 0 rfl (by omega) 0 0 0 0 0 0 0 (mvalid_n0 hi)
  obtain ⟨ex, fr, z1, z2, z3, z4, z5, z6, z7, nx, g1, g2⟩ := hlp
  simp only [Int.natCast_zero, List.length_append, List.length_cons, List.length_nil, Nat.zero_add, Nat.reduceAdd, List.append_assoc, List.cons_append, List.nil_append, u8s_cons, u8s_nil, Int.cast_ofNat_Int, Int.natCast_one, set_new, List.set_cons_succ, List.set_cons_zero] at g1 g2
  rcases g2 with ⟨rfl, g2, g3, g4⟩ | ⟨rfl, g2, g3⟩
  · rw [show mFold n mNone [] = some ⟨z1, z2, z3, z4, z5, z6, z7⟩ from g2]
    simp (disch := (first | omega | (simp only [lnE] <;> omega) | (refine Fit.mono ‹Fit _ _ _› ?_ <;> (simp only [lnE] <;> omega)) | (refine Fit.draw ‹Fit _ _ _› ?_ ?_ <;> (simp only [lnE] <;> omega)) | (refine Fit.hid1 ‹Fit _ _ _› ?_ ?_ <;> (simp only [lnE] <;> omega)) | (refine Fit.hidc1 ‹Fit _ _ _› ?_ ?_ <;> (simp only [lnE] <;> omega)) | (refine Fit.hidc2 ‹Fit _ _ _› ?_ ?_ ?_ <;> (simp only [lnE] <;> omega)) | (refine Fit.draw1 ‹Fit _ _ _› ?_ ?_ ?_ <;> (simp only [lnE] <;> omega)) | (refine Fit.range0 ?_ ?_ <;> (simp only [lnE] <;> omega)) | fail)) only [syA, syB, argFr, D, E, T, C, undefv, eqF, aeq, sheqs, sheq, rdCells, cellsOf, fill, putAt, if_true, if_false, reduceIte, ↓reduceIte, reduceCtorEq, eq_self, Nat.reduceEqDiff, Nat.reduceAdd, Nat.reduceSub, Nat.reduceMul, Nat.reduceLT, Nat.reduceLeDiff, Nat.reducePow, Nat.reduceDiv, Nat.reduceMod, Int.reduceLT, Int.reduceLE, Int.reduceGT, Int.reduceGE, Int.reduceToNat, Int.reducePow, Int.reduceNeg, Int.reduceBEq, Int.reduceBNe, Int.reduceEq, Int.reduceAdd, Int.reduceSub, Int.reduceMul, cellv, sc, flatv, refs, refsF, refsC, hF.not0, hF.not1, hF.up0, hF.up1, ac17, c1, c2, c3, c4, c5, c6, c7, c8, c9, rep5, rep7, small, List.append_nil, g1, g3, g4]
    refine some_bool ?_
    rw [Bool.eq_iff_iff]; simp [mSame]
    try omega
  · rw [show mFold n mNone [] = none from g2]
    simp (disch := (first | omega | (simp only [lnE] <;> omega) | (refine Fit.mono ‹Fit _ _ _› ?_ <;> (simp only [lnE] <;> omega)) | (refine Fit.draw ‹Fit _ _ _› ?_ ?_ <;> (simp only [lnE] <;> omega)) | (refine Fit.hid1 ‹Fit _ _ _› ?_ ?_ <;> (simp only [lnE] <;> omega)) | (refine Fit.hidc1 ‹Fit _ _ _› ?_ ?_ <;> (simp only [lnE] <;> omega)) | (refine Fit.hidc2 ‹Fit _ _ _› ?_ ?_ ?_ <;> (simp only [lnE] <;> omega)) | (refine Fit.draw1 ‹Fit _ _ _› ?_ ?_ ?_ <;> (simp only [lnE] <;> omega)) | (refine Fit.range0 ?_ ?_ <;> (simp only [lnE] <;> omega)) | fail)) only [syA, syB, argFr, D, E, T, C, undefv, eqF, aeq, sheqs, sheq, rdCells, cellsOf, fill, putAt, if_true, if_false, reduceIte, ↓reduceIte, reduceCtorEq, eq_self, Nat.reduceEqDiff, Nat.reduceAdd, Nat.reduceSub, Nat.reduceMul, Nat.reduceLT, Nat.reduceLeDiff, Nat.reducePow, Nat.reduceDiv, Nat.reduceMod, Int.reduceLT, Int.reduceLE, Int.reduceGT, Int.reduceGE, Int.reduceToNat, Int.reducePow, Int.reduceNeg, Int.reduceBEq, Int.reduceBNe, Int.reduceEq, Int.reduceAdd, Int.reduceSub, Int.reduceMul, cellv, sc, flatv, refs, refsF, refsC, hF.not0, hF.not1, hF.up0, hF.up1, ac17, c1, c2, c3, c4, c5, c6, c7, c8, c9, rep5, rep7, small, List.append_nil, g1, g3]
    try rfl
theorem rvm_5 (hn : 1 ≤ n ∧ n ≤ 65536) (hM : (M : Int) ≤ n) (hP : (P : Int) ≤ n) (hY : Y ≤ 4) (hs : s < 4294967296) (hx : x ≤ 9223372036854775807) (hF : Fit hp.length L H) : Lrun env (.func 17) [.int .i64 n, .agg #[.int .i64 5, .int .i64 x, .int .i64 k, .int .i64 M, .int .i64 P, .int .u32 s, .int .i64 Y]] ⟨hp, L, H, d⟩ =
    some (.bool (mSame ⟨5, x, k, M, P, s, Y⟩ (mFold n mNone (mBytes ⟨5, x, k, M, P, s, Y⟩))), ⟨hp, L, H, d⟩) := by
  rw [Lrun_sym 17 _ _ fn17]
  have hi : inR n 1 65536 = true := inR_true.2 hn
  have c1 : ¬ n < 1 := by omega
  have c2 : ¬ n > 65536 := by omega
  have c3 : ¬ (Y : Int) < 0 := by omega
  have c4 : ¬ (Y : Int) > 4 := by omega
  have c5 : ¬ (M : Int) < 0 := by omega
  have c6 : ¬ (M : Int) > n := by omega
  have c7 : ¬ (P : Int) < 0 := by omega
  have c8 : ¬ (P : Int) > n := by omega
  have c9 : ¬ (x : Int) < 0 := by omega
  have hby : mBytes ⟨5, x, k, M, P, s, Y⟩ = [0] ++ (be s).drop (4 - Y) := by unfold mBytes; rw [if_pos (by simp)]; rfl
  rw [hby]
  have hla := fun nw => last_walk s hs Y hY (hp := hp ++ nw) (L := L) (H := H) (d := []) (hF.mono (by simp))
  have hrd := last_rd (h := hp ++ [.cells 0 true [.int .i64 5, .int .i64 x, .int .i64 k, .int .i64 M, .int .i64 P, .int .u32 s, .int .i64 Y], .cells 0 true (u8s [0])]) (L := L) (H := H) (d := []) s Y hY (by rw [List.length_append]; exact hF.not1 2)
  have hnw := hrd.news
  have hgl := gl_len (s := s) hY
  have hgb : By ((be s).drop (4 - Y)) := (be_by s).drop _
  generalize (be s).drop (4 - Y) = gl at hnw hgl hgb ⊢
  clear hrd
  have a1 := append_end (hp := hp ++ [.cells 0 true [.int .i64 5, .int .i64 x, .int .i64 k, .int .i64 M, .int .i64 P, .int .u32 s, .int .i64 Y], .cells 0 true (u8s [0]), bl4 s]) (L := L) (H := H) (d := []) (b := hp.length + 1) (g := 0) (l0 := [0]) (l := gl) (by rw [get_new]; rfl) (by have := hF.1; omega) (hF.not1 1) (by simp; omega)
  have hbb : By ([0] ++ gl) := By.append (by intro x hx; simp at hx; omega) hgb
  have hll : ([0] ++ gl).length ≤ 60 := by simp; omega
  generalize [0] ++ gl = bb at a1 hbb hll ⊢
  generalize (if gl = [] then 0 else bb.length) = G at a1
  have r1 := Rd.whole (hp := hp ++ [.cells 0 true [.int .i64 5, .int .i64 x, .int .i64 k, .int .i64 M, .int .i64 P, .int .u32 s, .int .i64 Y], .cells G true (u8s bb), bl4 s]) (L := L) (H := H) (d := []) (b := hp.length + 1) (g := G) (e := 1) (l := bb) (by rw [get_new]; rfl) (hF.not1 1) hbb (.inr rfl)
  simp only [Int.natCast_zero, List.length_append, List.length_cons, List.length_nil, Nat.zero_add, Nat.reduceAdd, List.append_assoc, List.cons_append, List.nil_append, u8s_cons, u8s_nil, Int.cast_ofNat_Int, Int.natCast_one, set_new, List.set_cons_succ, List.set_cons_zero] at a1 hnw
  have hlp := rvm_loop (hq := hp ++ [.cells 0 true [.int .i64 5, .int .i64 x, .int .i64 k, .int .i64 M, .int .i64 P, .int .u32 s, .int .i64 Y], .cells G true (u8s bb), bl4 s]) (L := L) (H := H) (v := .slice (some ⟨hp.length + 1, 0, some G⟩) bb.length 1) (q := hp.length) (l := bb) (n := n) (hF.mono (by simp)) r1 hll (by simp) bb 0 rfl (by omega) 0 0 0 0 0 0 0 (mvalid_n0 hi)
  obtain ⟨ex, fr, z1, z2, z3, z4, z5, z6, z7, nx, g1, g2⟩ := hlp
  simp only [Int.natCast_zero, List.length_append, List.length_cons, List.length_nil, Nat.zero_add, Nat.reduceAdd, List.append_assoc, List.cons_append, List.nil_append, u8s_cons, u8s_nil, Int.cast_ofNat_Int, Int.natCast_one, set_new, List.set_cons_succ, List.set_cons_zero] at g1 g2
  rcases g2 with ⟨rfl, g2, g3, g4⟩ | ⟨rfl, g2, g3⟩
  · rw [show mFold n mNone bb = some ⟨z1, z2, z3, z4, z5, z6, z7⟩ from g2]
    simp (disch := (first | omega | (simp only [lnE] <;> omega) | (refine Fit.mono ‹Fit _ _ _› ?_ <;> (simp only [lnE] <;> omega)) | (refine Fit.draw ‹Fit _ _ _› ?_ ?_ <;> (simp only [lnE] <;> omega)) | (refine Fit.hid1 ‹Fit _ _ _› ?_ ?_ <;> (simp only [lnE] <;> omega)) | (refine Fit.hidc1 ‹Fit _ _ _› ?_ ?_ <;> (simp only [lnE] <;> omega)) | (refine Fit.hidc2 ‹Fit _ _ _› ?_ ?_ ?_ <;> (simp only [lnE] <;> omega)) | (refine Fit.draw1 ‹Fit _ _ _› ?_ ?_ ?_ <;> (simp only [lnE] <;> omega)) | (refine Fit.range0 ?_ ?_ <;> (simp only [lnE] <;> omega)) | fail)) only [syA, syB, argFr, D, E, T, C, undefv, eqF, aeq, sheqs, sheq, rdCells, cellsOf, fill, putAt, if_true, if_false, reduceIte, ↓reduceIte, reduceCtorEq, eq_self, Nat.reduceEqDiff, Nat.reduceAdd, Nat.reduceSub, Nat.reduceMul, Nat.reduceLT, Nat.reduceLeDiff, Nat.reducePow, Nat.reduceDiv, Nat.reduceMod, Int.reduceLT, Int.reduceLE, Int.reduceGT, Int.reduceGE, Int.reduceToNat, Int.reducePow, Int.reduceNeg, Int.reduceBEq, Int.reduceBNe, Int.reduceEq, Int.reduceAdd, Int.reduceSub, Int.reduceMul, cellv, sc, flatv, refs, refsF, refsC, hF.not0, hF.not1, hF.up0, hF.up1, ac17, c1, c2, c3, c4, c5, c6, c7, c8, c9, rep5, rep7, small, hla, hnw, a1, g1, g3, g4]
    refine some_bool ?_
    rw [Bool.eq_iff_iff]; simp [mSame]
    try omega
  · rw [show mFold n mNone bb = none from g2]
    simp (disch := (first | omega | (simp only [lnE] <;> omega) | (refine Fit.mono ‹Fit _ _ _› ?_ <;> (simp only [lnE] <;> omega)) | (refine Fit.draw ‹Fit _ _ _› ?_ ?_ <;> (simp only [lnE] <;> omega)) | (refine Fit.hid1 ‹Fit _ _ _› ?_ ?_ <;> (simp only [lnE] <;> omega)) | (refine Fit.hidc1 ‹Fit _ _ _› ?_ ?_ <;> (simp only [lnE] <;> omega)) | (refine Fit.hidc2 ‹Fit _ _ _› ?_ ?_ ?_ <;> (simp only [lnE] <;> omega)) | (refine Fit.draw1 ‹Fit _ _ _› ?_ ?_ ?_ <;> (simp only [lnE] <;> omega)) | (refine Fit.range0 ?_ ?_ <;> (simp only [lnE] <;> omega)) | fail)) only [syA, syB, argFr, D, E, T, C, undefv, eqF, aeq, sheqs, sheq, rdCells, cellsOf, fill, putAt, if_true, if_false, reduceIte, ↓reduceIte, reduceCtorEq, eq_self, Nat.reduceEqDiff, Nat.reduceAdd, Nat.reduceSub, Nat.reduceMul, Nat.reduceLT, Nat.reduceLeDiff, Nat.reducePow, Nat.reduceDiv, Nat.reduceMod, Int.reduceLT, Int.reduceLE, Int.reduceGT, Int.reduceGE, Int.reduceToNat, Int.reducePow, Int.reduceNeg, Int.reduceBEq, Int.reduceBNe, Int.reduceEq, Int.reduceAdd, Int.reduceSub, Int.reduceMul, cellv, sc, flatv, refs, refsF, refsC, hF.not0, hF.not1, hF.up0, hF.up1, ac17, c1, c2, c3, c4, c5, c6, c7, c8, c9, rep5, rep7, small, hla, hnw, a1, g1, g3]
    try rfl
theorem rvm_6 (hn : 1 ≤ n ∧ n ≤ 65536) (hM : (M : Int) ≤ n) (hP : (P : Int) ≤ n) (hY : Y ≤ 4) (hs : s < 4294967296) (hx : x ≤ 9223372036854775807) (hF : Fit hp.length L H) : Lrun env (.func 17) [.int .i64 n, .agg #[.int .i64 6, .int .i64 x, .int .i64 k, .int .i64 M, .int .i64 P, .int .u32 s, .int .i64 Y]] ⟨hp, L, H, d⟩ =
    some (.bool (mSame ⟨6, x, k, M, P, s, Y⟩ (mFold n mNone (mBytes ⟨6, x, k, M, P, s, Y⟩))), ⟨hp, L, H, d⟩) := by
  rw [Lrun_sym 17 _ _ fn17]
  have hi : inR n 1 65536 = true := inR_true.2 hn
  have c1 : ¬ n < 1 := by omega
  have c2 : ¬ n > 65536 := by omega
  have c3 : ¬ (Y : Int) < 0 := by omega
  have c4 : ¬ (Y : Int) > 4 := by omega
  have c5 : ¬ (M : Int) < 0 := by omega
  have c6 : ¬ (M : Int) > n := by omega
  have c7 : ¬ (P : Int) < 0 := by omega
  have c8 : ¬ (P : Int) > n := by omega
  have c9 : ¬ (x : Int) < 0 := by omega
  have hby : mBytes ⟨6, x, k, M, P, s, Y⟩ = [0] ++ (be s).drop (4 - Y) := by unfold mBytes; rw [if_pos (by simp)]; rfl
  rw [hby]
  have hla := fun nw => last_walk s hs Y hY (hp := hp ++ nw) (L := L) (H := H) (d := []) (hF.mono (by simp))
  have hrd := last_rd (h := hp ++ [.cells 0 true [.int .i64 6, .int .i64 x, .int .i64 k, .int .i64 M, .int .i64 P, .int .u32 s, .int .i64 Y], .cells 0 true (u8s [0])]) (L := L) (H := H) (d := []) s Y hY (by rw [List.length_append]; exact hF.not1 2)
  have hnw := hrd.news
  have hgl := gl_len (s := s) hY
  have hgb : By ((be s).drop (4 - Y)) := (be_by s).drop _
  generalize (be s).drop (4 - Y) = gl at hnw hgl hgb ⊢
  clear hrd
  have a1 := append_end (hp := hp ++ [.cells 0 true [.int .i64 6, .int .i64 x, .int .i64 k, .int .i64 M, .int .i64 P, .int .u32 s, .int .i64 Y], .cells 0 true (u8s [0]), bl4 s]) (L := L) (H := H) (d := []) (b := hp.length + 1) (g := 0) (l0 := [0]) (l := gl) (by rw [get_new]; rfl) (by have := hF.1; omega) (hF.not1 1) (by simp; omega)
  have hbb : By ([0] ++ gl) := By.append (by intro x hx; simp at hx; omega) hgb
  have hll : ([0] ++ gl).length ≤ 60 := by simp; omega
  generalize [0] ++ gl = bb at a1 hbb hll ⊢
  generalize (if gl = [] then 0 else bb.length) = G at a1
  have r1 := Rd.whole (hp := hp ++ [.cells 0 true [.int .i64 6, .int .i64 x, .int .i64 k, .int .i64 M, .int .i64 P, .int .u32 s, .int .i64 Y], .cells G true (u8s bb), bl4 s]) (L := L) (H := H) (d := []) (b := hp.length + 1) (g := G) (e := 1) (l := bb) (by rw [get_new]; rfl) (hF.not1 1) hbb (.inr rfl)
  simp only [Int.natCast_zero, List.length_append, List.length_cons, List.length_nil, Nat.zero_add, Nat.reduceAdd, List.append_assoc, List.cons_append, List.nil_append, u8s_cons, u8s_nil, Int.cast_ofNat_Int, Int.natCast_one, set_new, List.set_cons_succ, List.set_cons_zero] at a1 hnw
  have hlp := rvm_loop (hq := hp ++ [.cells 0 true [.int .i64 6, .int .i64 x, .int .i64 k, .int .i64 M, .int .i64 P, .int .u32 s, .int .i64 Y], .cells G true (u8s bb), bl4 s]) (L := L) (H := H) (v := .slice (some ⟨hp.length + 1, 0, some G⟩) bb.length 1) (q := hp.length) (l := bb) (n := n) (hF.mono (by simp)) r1 hll (by simp) bb 0 rfl (by omega) 0 0 0 0 0 0 0 (mvalid_n0 hi)
  obtain ⟨ex, fr, z1, z2, z3, z4, z5, z6, z7, nx, g1, g2⟩ := hlp
  simp only [Int.natCast_zero, List.length_append, List.length_cons, List.length_nil, Nat.zero_add, Nat.reduceAdd, List.append_assoc, List.cons_append, List.nil_append, u8s_cons, u8s_nil, Int.cast_ofNat_Int, Int.natCast_one, set_new, List.set_cons_succ, List.set_cons_zero] at g1 g2
  rcases g2 with ⟨rfl, g2, g3, g4⟩ | ⟨rfl, g2, g3⟩
  · rw [show mFold n mNone bb = some ⟨z1, z2, z3, z4, z5, z6, z7⟩ from g2]
    simp (disch := (first | omega | (simp only [lnE] <;> omega) | (refine Fit.mono ‹Fit _ _ _› ?_ <;> (simp only [lnE] <;> omega)) | (refine Fit.draw ‹Fit _ _ _› ?_ ?_ <;> (simp only [lnE] <;> omega)) | (refine Fit.hid1 ‹Fit _ _ _› ?_ ?_ <;> (simp only [lnE] <;> omega)) | (refine Fit.hidc1 ‹Fit _ _ _› ?_ ?_ <;> (simp only [lnE] <;> omega)) | (refine Fit.hidc2 ‹Fit _ _ _› ?_ ?_ ?_ <;> (simp only [lnE] <;> omega)) | (refine Fit.draw1 ‹Fit _ _ _› ?_ ?_ ?_ <;> (simp only [lnE] <;> omega)) | (refine Fit.range0 ?_ ?_ <;> (simp only [lnE] <;> omega)) | fail)) only [syA, syB, argFr, D, E, T, C, undefv, eqF, aeq, sheqs, sheq, rdCells, cellsOf, fill, putAt, if_true, if_false, reduceIte, ↓reduceIte, reduceCtorEq, eq_self, Nat.reduceEqDiff, Nat.reduceAdd, Nat.reduceSub, Nat.reduceMul, Nat.reduceLT, Nat.reduceLeDiff, Nat.reducePow, Nat.reduceDiv, Nat.reduceMod, Int.reduceLT, Int.reduceLE, Int.reduceGT, Int.reduceGE, Int.reduceToNat, Int.reducePow, Int.reduceNeg, Int.reduceBEq, Int.reduceBNe, Int.reduceEq, Int.reduceAdd, Int.reduceSub, Int.reduceMul, cellv, sc, flatv, refs, refsF, refsC, hF.not0, hF.not1, hF.up0, hF.up1, ac17, c1, c2, c3, c4, c5, c6, c7, c8, c9, rep5, rep7, small, hla, hnw, a1, g1, g3, g4]
    refine some_bool ?_
    rw [Bool.eq_iff_iff]; simp [mSame]
    try omega
  · rw [show mFold n mNone bb = none from g2]
    simp (disch := (first | omega | (simp only [lnE] <;> omega) | (refine Fit.mono ‹Fit _ _ _› ?_ <;> (simp only [lnE] <;> omega)) | (refine Fit.draw ‹Fit _ _ _› ?_ ?_ <;> (simp only [lnE] <;> omega)) | (refine Fit.hid1 ‹Fit _ _ _› ?_ ?_ <;> (simp only [lnE] <;> omega)) | (refine Fit.hidc1 ‹Fit _ _ _› ?_ ?_ <;> (simp only [lnE] <;> omega)) | (refine Fit.hidc2 ‹Fit _ _ _› ?_ ?_ ?_ <;> (simp only [lnE] <;> omega)) | (refine Fit.draw1 ‹Fit _ _ _› ?_ ?_ ?_ <;> (simp only [lnE] <;> omega)) | (refine Fit.range0 ?_ ?_ <;> (simp only [lnE] <;> omega)) | fail)) only [syA, syB, argFr, D, E, T, C, undefv, eqF, aeq, sheqs, sheq, rdCells, cellsOf, fill, putAt, if_true, if_false, reduceIte, ↓reduceIte, reduceCtorEq, eq_self, Nat.reduceEqDiff, Nat.reduceAdd, Nat.reduceSub, Nat.reduceMul, Nat.reduceLT, Nat.reduceLeDiff, Nat.reducePow, Nat.reduceDiv, Nat.reduceMod, Int.reduceLT, Int.reduceLE, Int.reduceGT, Int.reduceGE, Int.reduceToNat, Int.reducePow, Int.reduceNeg, Int.reduceBEq, Int.reduceBNe, Int.reduceEq, Int.reduceAdd, Int.reduceSub, Int.reduceMul, cellv, sc, flatv, refs, refsF, refsC, hF.not0, hF.not1, hF.up0, hF.up1, ac17, c1, c2, c3, c4, c5, c6, c7, c8, c9, rep5, rep7, small, hla, hnw, a1, g1, g3]
    try rfl
theorem rvm_1 (hn : 1 ≤ n ∧ n ≤ 65536) (hM : (M : Int) ≤ n) (hP : (P : Int) ≤ n) (hY : Y ≤ 4) (hs : s < 4294967296) (hx : x ≤ 9223372036854775807) (hF : Fit hp.length L H) : Lrun env (.func 17) [.int .i64 n, .agg #[.int .i64 1, .int .i64 x, .int .i64 k, .int .i64 M, .int .i64 P, .int .u32 s, .int .i64 Y]] ⟨hp, L, H, d⟩ =
    some (.bool (mSame ⟨1, x, k, M, P, s, Y⟩ (mFold n mNone (mBytes ⟨1, x, k, M, P, s, Y⟩))), ⟨hp, L, H, d⟩) := by
  rw [Lrun_sym 17 _ _ fn17]
  have hi : inR n 1 65536 = true := inR_true.2 hn
  have c1 : ¬ n < 1 := by omega
  have c2 : ¬ n > 65536 := by omega
  have c3 : ¬ (Y : Int) < 0 := by omega
  have c4 : ¬ (Y : Int) > 4 := by omega
  have c5 : ¬ (M : Int) < 0 := by omega
  have c6 : ¬ (M : Int) > n := by omega
  have c7 : ¬ (P : Int) < 0 := by omega
  have c8 : ¬ (P : Int) > n := by omega
  have c9 : ¬ (x : Int) < 0 := by omega
  have hby : mBytes ⟨1, x, k, M, P, s, Y⟩ = [1] ++ grp (grpN k) x := by unfold mBytes; rw [if_neg (by simp), if_pos rfl]; rfl
  rw [hby]
  have a0 := append_nil1 (hp := hp ++ [.cells 0 true [.int .i64 1, .int .i64 x, .int .i64 k, .int .i64 M, .int .i64 P, .int .u32 s, .int .i64 Y], .cells 0 true (u8s [1])]) (L := L) (H := H) (d := []) (l := [1]) (by simp) (by simp)
  simp only [Int.natCast_zero, List.length_append, List.length_cons, List.length_nil, Nat.zero_add, Nat.reduceAdd, List.append_assoc, List.cons_append, List.nil_append, u8s_cons, u8s_nil, Int.cast_ofNat_Int, Int.natCast_one, set_new, List.set_cons_succ, List.set_cons_zero] at a0
  have hgw := fun nw => groups_walk x hx k (hp := hp ++ nw) (L := L) (H := H) (d := []) (hF.mono (by simp))
  by_cases hk : grpN k = 0
  · have hO : grpO k x = none := by unfold grpO; rw [if_pos hk]
    rw [hO] at hgw
    rw [hk]
    simp only [sl_none, slB_none, List.append_nil] at hgw
    rw [show [1] ++ grp 0 x = [1] from rfl]
    have r1 := Rd.whole (hp := hp ++ [.cells 0 true [.int .i64 1, .int .i64 x, .int .i64 k, .int .i64 M, .int .i64 P, .int .u32 s, .int .i64 Y], .cells 0 true (u8s [1]), .cells 1 true (u8s [1])]) (L := L) (H := H) (d := []) (b := hp.length + 2) (g := 1) (e := 1) (l := [1]) (by rw [get_new]; rfl) (hF.not1 2) (by intro x hx; simp at hx; omega) (.inr rfl)
    have hlp := rvm_loop (hq := hp ++ [.cells 0 true [.int .i64 1, .int .i64 x, .int .i64 k, .int .i64 M, .int .i64 P, .int .u32 s, .int .i64 Y], .cells 0 true (u8s [1]), .cells 1 true (u8s [1])]) (L := L) (H := H) (v := .slice (some ⟨hp.length + 2, 0, some 1⟩) 1 1) (q := hp.length) (l := [1]) (n := n) (hF.mono (by simp)) r1 (by simp) (by simp) [1] 0 rfl (by omega) 0 0 0 0 0 0 0 (mvalid_n0 hi)
    obtain ⟨ex, fr, z1, z2, z3, z4, z5, z6, z7, nx, g1, g2⟩ := hlp
    simp only [Int.natCast_zero, List.length_append, List.length_cons, List.length_nil, Nat.zero_add, Nat.reduceAdd, List.append_assoc, List.cons_append, List.nil_append, u8s_cons, u8s_nil, Int.cast_ofNat_Int, Int.natCast_one, set_new, List.set_cons_succ, List.set_cons_zero] at g1 g2
    rcases g2 with ⟨rfl, g2, g3, g4⟩ | ⟨rfl, g2, g3⟩
    · rw [show mFold n mNone [1] = some ⟨z1, z2, z3, z4, z5, z6, z7⟩ from g2]
      simp (disch := (first | omega | (simp only [lnE] <;> omega) | (refine Fit.mono ‹Fit _ _ _› ?_ <;> (simp only [lnE] <;> omega)) | (refine Fit.draw ‹Fit _ _ _› ?_ ?_ <;> (simp only [lnE] <;> omega)) | (refine Fit.hid1 ‹Fit _ _ _› ?_ ?_ <;> (simp only [lnE] <;> omega)) | (refine Fit.hidc1 ‹Fit _ _ _› ?_ ?_ <;> (simp only [lnE] <;> omega)) | (refine Fit.hidc2 ‹Fit _ _ _› ?_ ?_ ?_ <;> (simp only [lnE] <;> omega)) | (refine Fit.draw1 ‹Fit _ _ _› ?_ ?_ ?_ <;> (simp only [lnE] <;> omega)) | (refine Fit.range0 ?_ ?_ <;> (simp only [lnE] <;> omega)) | fail)) only [syA, syB, argFr, D, E, T, C, undefv, eqF, aeq, sheqs, sheq, rdCells, cellsOf, fill, putAt, if_true, if_false, reduceIte, ↓reduceIte, reduceCtorEq, eq_self, Nat.reduceEqDiff, Nat.reduceAdd, Nat.reduceSub, Nat.reduceMul, Nat.reduceLT, Nat.reduceLeDiff, Nat.reducePow, Nat.reduceDiv, Nat.reduceMod, Int.reduceLT, Int.reduceLE, Int.reduceGT, Int.reduceGE, Int.reduceToNat, Int.reducePow, Int.reduceNeg, Int.reduceBEq, Int.reduceBNe, Int.reduceEq, Int.reduceAdd, Int.reduceSub, Int.reduceMul, cellv, sc, flatv, refs, refsF, refsC, hF.not0, hF.not1, hF.up0, hF.up1, ac17, c1, c2, c3, c4, c5, c6, c7, c8, c9, rep5, rep7, small, a0, hgw, append_zero, g1, g3, g4]
      refine some_bool ?_
      rw [Bool.eq_iff_iff]; simp [mSame]
      try omega
    · rw [show mFold n mNone [1] = none from g2]
      simp (disch := (first | omega | (simp only [lnE] <;> omega) | (refine Fit.mono ‹Fit _ _ _› ?_ <;> (simp only [lnE] <;> omega)) | (refine Fit.draw ‹Fit _ _ _› ?_ ?_ <;> (simp only [lnE] <;> omega)) | (refine Fit.hid1 ‹Fit _ _ _› ?_ ?_ <;> (simp only [lnE] <;> omega)) | (refine Fit.hidc1 ‹Fit _ _ _› ?_ ?_ <;> (simp only [lnE] <;> omega)) | (refine Fit.hidc2 ‹Fit _ _ _› ?_ ?_ ?_ <;> (simp only [lnE] <;> omega)) | (refine Fit.draw1 ‹Fit _ _ _› ?_ ?_ ?_ <;> (simp only [lnE] <;> omega)) | (refine Fit.range0 ?_ ?_ <;> (simp only [lnE] <;> omega)) | fail)) only [syA, syB, argFr, D, E, T, C, undefv, eqF, aeq, sheqs, sheq, rdCells, cellsOf, fill, putAt, if_true, if_false, reduceIte, ↓reduceIte, reduceCtorEq, eq_self, Nat.reduceEqDiff, Nat.reduceAdd, Nat.reduceSub, Nat.reduceMul, Nat.reduceLT, Nat.reduceLeDiff, Nat.reducePow, Nat.reduceDiv, Nat.reduceMod, Int.reduceLT, Int.reduceLE, Int.reduceGT, Int.reduceGE, Int.reduceToNat, Int.reducePow, Int.reduceNeg, Int.reduceBEq, Int.reduceBNe, Int.reduceEq, Int.reduceAdd, Int.reduceSub, Int.reduceMul, cellv, sc, flatv, refs, refsF, refsC, hF.not0, hF.not1, hF.up0, hF.up1, ac17, c1, c2, c3, c4, c5, c6, c7, c8, c9, rep5, rep7, small, a0, hgw, append_zero, g1, g3]
      try rfl
  · have hO : grpO k x = some (grp (grpN k) x) := by unfold grpO; rw [if_neg hk]
    rw [hO] at hgw
    have hgl := grp_length (grpN k) x
    have hgb := grp_by (grpN k) x
    have hk5 : grpN k ≤ 5 := by unfold grpN; omega
    generalize grp (grpN k) x = gr at hgw hgl hgb ⊢
    generalize grpG (grpN k) = gG at hgw
    simp only [sl_some, slB_some] at hgw
    have htk := u8_take gr
    have a1 := append_full (hp := hp ++ [.cells 0 true [.int .i64 1, .int .i64 x, .int .i64 k, .int .i64 M, .int .i64 P, .int .u32 s, .int .i64 Y], .cells 0 true (u8s [1]), .cells [1].length true (u8s [1]), .cells gG true (u8s gr)]) (L := L) (H := H) (d := []) (b := hp.length + 2) (l0 := [1]) (l := gr) (by rw [get_new]; rfl) (by have := hF.1; omega) (hF.not1 2) (by simp; omega)
    have hbb : By ([1] ++ gr) := By.append (by intro x hx; simp at hx; omega) hgb
    have hll : ([1] ++ gr).length ≤ 60 := by simp; omega
    generalize [1] ++ gr = bb at a1 hbb hll ⊢
    have r1 := Rd.whole (hp := hp ++ [.cells 0 true [.int .i64 1, .int .i64 x, .int .i64 k, .int .i64 M, .int .i64 P, .int .u32 s, .int .i64 Y], .cells 0 true (u8s [1]), .cells bb.length true (u8s bb), .cells gG true (u8s gr)]) (L := L) (H := H) (d := []) (b := hp.length + 2) (g := bb.length) (e := 1) (l := bb) (by rw [get_new]; rfl) (hF.not1 2) hbb (.inr rfl)
    simp only [Int.natCast_zero, List.length_append, List.length_cons, List.length_nil, Nat.zero_add, Nat.reduceAdd, List.append_assoc, List.cons_append, List.nil_append, u8s_cons, u8s_nil, Int.cast_ofNat_Int, Int.natCast_one, set_new, List.set_cons_succ, List.set_cons_zero] at a1
    have hlp := rvm_loop (hq := hp ++ [.cells 0 true [.int .i64 1, .int .i64 x, .int .i64 k, .int .i64 M, .int .i64 P, .int .u32 s, .int .i64 Y], .cells 0 true (u8s [1]), .cells bb.length true (u8s bb), .cells gG true (u8s gr)]) (L := L) (H := H) (v := .slice (some ⟨hp.length + 2, 0, some bb.length⟩) bb.length 1) (q := hp.length) (l := bb) (n := n) (hF.mono (by simp)) r1 hll (by simp) bb 0 rfl (by omega) 0 0 0 0 0 0 0 (mvalid_n0 hi)
    obtain ⟨ex, fr, z1, z2, z3, z4, z5, z6, z7, nx, g1, g2⟩ := hlp
    simp only [Int.natCast_zero, List.length_append, List.length_cons, List.length_nil, Nat.zero_add, Nat.reduceAdd, List.append_assoc, List.cons_append, List.nil_append, u8s_cons, u8s_nil, Int.cast_ofNat_Int, Int.natCast_one, set_new, List.set_cons_succ, List.set_cons_zero] at g1 g2
    rcases g2 with ⟨rfl, g2, g3, g4⟩ | ⟨rfl, g2, g3⟩
    · rw [show mFold n mNone bb = some ⟨z1, z2, z3, z4, z5, z6, z7⟩ from g2]
      simp (disch := (first | omega | (simp only [lnE] <;> omega) | (refine Fit.mono ‹Fit _ _ _› ?_ <;> (simp only [lnE] <;> omega)) | (refine Fit.draw ‹Fit _ _ _› ?_ ?_ <;> (simp only [lnE] <;> omega)) | (refine Fit.hid1 ‹Fit _ _ _› ?_ ?_ <;> (simp only [lnE] <;> omega)) | (refine Fit.hidc1 ‹Fit _ _ _› ?_ ?_ <;> (simp only [lnE] <;> omega)) | (refine Fit.hidc2 ‹Fit _ _ _› ?_ ?_ ?_ <;> (simp only [lnE] <;> omega)) | (refine Fit.draw1 ‹Fit _ _ _› ?_ ?_ ?_ <;> (simp only [lnE] <;> omega)) | (refine Fit.range0 ?_ ?_ <;> (simp only [lnE] <;> omega)) | fail)) only [syA, syB, argFr, D, E, T, C, undefv, eqF, aeq, sheqs, sheq, rdCells, cellsOf, fill, putAt, if_true, if_false, reduceIte, ↓reduceIte, reduceCtorEq, eq_self, Nat.reduceEqDiff, Nat.reduceAdd, Nat.reduceSub, Nat.reduceMul, Nat.reduceLT, Nat.reduceLeDiff, Nat.reducePow, Nat.reduceDiv, Nat.reduceMod, Int.reduceLT, Int.reduceLE, Int.reduceGT, Int.reduceGE, Int.reduceToNat, Int.reducePow, Int.reduceNeg, Int.reduceBEq, Int.reduceBNe, Int.reduceEq, Int.reduceAdd, Int.reduceSub, Int.reduceMul, cellv, sc, flatv, refs, refsF, refsC, hF.not0, hF.not1, hF.up0, hF.up1, ac17, c1, c2, c3, c4, c5, c6, c7, c8, c9, rep5, rep7, small, a0, hgw, htk, a1, g1, g3, g4]
      refine some_bool ?_
      rw [Bool.eq_iff_iff]; simp [mSame]
      try omega
    · rw [show mFold n mNone bb = none from g2]
      simp (disch := (first | omega | (simp only [lnE] <;> omega) | (refine Fit.mono ‹Fit _ _ _› ?_ <;> (simp only [lnE] <;> omega)) | (refine Fit.draw ‹Fit _ _ _› ?_ ?_ <;> (simp only [lnE] <;> omega)) | (refine Fit.hid1 ‹Fit _ _ _› ?_ ?_ <;> (simp only [lnE] <;> omega)) | (refine Fit.hidc1 ‹Fit _ _ _› ?_ ?_ <;> (simp only [lnE] <;> omega)) | (refine Fit.hidc2 ‹Fit _ _ _› ?_ ?_ ?_ <;> (simp only [lnE] <;> omega)) | (refine Fit.draw1 ‹Fit _ _ _› ?_ ?_ ?_ <;> (simp only [lnE] <;> omega)) | (refine Fit.range0 ?_ ?_ <;> (simp only [lnE] <;> omega)) | fail)) only [syA, syB, argFr, D, E, T, C, undefv, eqF, aeq, sheqs, sheq, rdCells, cellsOf, fill, putAt, if_true, if_false, reduceIte, ↓reduceIte, reduceCtorEq, eq_self, Nat.reduceEqDiff, Nat.reduceAdd, Nat.reduceSub, Nat.reduceMul, Nat.reduceLT, Nat.reduceLeDiff, Nat.reducePow, Nat.reduceDiv, Nat.reduceMod, Int.reduceLT, Int.reduceLE, Int.reduceGT, Int.reduceGE, Int.reduceToNat, Int.reducePow, Int.reduceNeg, Int.reduceBEq, Int.reduceBNe, Int.reduceEq, Int.reduceAdd, Int.reduceSub, Int.reduceMul, cellv, sc, flatv, refs, refsF, refsC, hF.not0, hF.not1, hF.up0, hF.up1, ac17, c1, c2, c3, c4, c5, c6, c7, c8, c9, rep5, rep7, small, a0, hgw, htk, a1, g1, g3]
      try rfl
theorem rvm_2 (hn : 1 ≤ n ∧ n ≤ 65536) (hM : (M : Int) ≤ n) (hP : (P : Int) ≤ n) (hY : Y ≤ 4) (hs : s < 4294967296) (hx : x ≤ 9223372036854775807) (hF : Fit hp.length L H) : Lrun env (.func 17) [.int .i64 n, .agg #[.int .i64 2, .int .i64 x, .int .i64 k, .int .i64 M, .int .i64 P, .int .u32 s, .int .i64 Y]] ⟨hp, L, H, d⟩ =
    some (.bool (mSame ⟨2, x, k, M, P, s, Y⟩ (mFold n mNone (mBytes ⟨2, x, k, M, P, s, Y⟩))), ⟨hp, L, H, d⟩) := by
  rw [Lrun_sym 17 _ _ fn17]
  have hi : inR n 1 65536 = true := inR_true.2 hn
  have c1 : ¬ n < 1 := by omega
  have c2 : ¬ n > 65536 := by omega
  have c3 : ¬ (Y : Int) < 0 := by omega
  have c4 : ¬ (Y : Int) > 4 := by omega
  have c5 : ¬ (M : Int) < 0 := by omega
  have c6 : ¬ (M : Int) > n := by omega
  have c7 : ¬ (P : Int) < 0 := by omega
  have c8 : ¬ (P : Int) > n := by omega
  have c9 : ¬ (x : Int) < 0 := by omega
  have hby : mBytes ⟨2, x, k, M, P, s, Y⟩ = [1] ++ enc M ++ grp (grpN k) x := by unfold mBytes; rw [if_neg (by simp), if_neg (by simp), if_pos rfl]; rfl
  rw [hby]
  have a0 := append_nil1 (hp := hp ++ [.cells 0 true [.int .i64 2, .int .i64 x, .int .i64 k, .int .i64 M, .int .i64 P, .int .u32 s, .int .i64 Y], .cells 0 true (u8s [1])]) (L := L) (H := H) (d := []) (l := [1]) (by simp) (by simp)
  simp only [Int.natCast_zero, List.length_append, List.length_cons, List.length_nil, Nat.zero_add, Nat.reduceAdd, List.append_assoc, List.cons_append, List.nil_append, u8s_cons, u8s_nil, Int.cast_ofNat_Int, Int.natCast_one, set_new, List.set_cons_succ, List.set_cons_zero] at a0
  have hpm := fun nw => refPut_walk (hp := hp ++ nw) (L := L) (H := H) (d := []) (hF.mono (by simp)) M (by omega)
  simp only [sl_some, slB_some] at hpm
  have hml := enc_len_le M (by omega)
  have hmb := enc_by M
  generalize enc M = em at hpm hml hmb ⊢
  generalize pg M = gM at hpm
  have htm := u8_take em
  have am := append_full (hp := hp ++ [.cells 0 true [.int .i64 2, .int .i64 x, .int .i64 k, .int .i64 M, .int .i64 P, .int .u32 s, .int .i64 Y], .cells 0 true (u8s [1]), .cells [1].length true (u8s [1]), .cells gM true (u8s em)]) (L := L) (H := H) (d := []) (b := hp.length + 2) (l0 := [1]) (l := em) (by rw [get_new]; rfl) (by have := hF.1; omega) (hF.not1 2) (by simp; omega)
  have hb1 : By ([1] ++ em) := By.append (by intro x hx; simp at hx; omega) hmb
  have hl1 : ([1] ++ em).length ≤ 6 := by simp; omega
  generalize [1] ++ em = b1 at am hb1 hl1 ⊢
  simp only [Int.natCast_zero, List.length_append, List.length_cons, List.length_nil, Nat.zero_add, Nat.reduceAdd, List.append_assoc, List.cons_append, List.nil_append, u8s_cons, u8s_nil, Int.cast_ofNat_Int, Int.natCast_one, set_new, List.set_cons_succ, List.set_cons_zero] at am
  have hgw := fun nw => groups_walk x hx k (hp := hp ++ nw) (L := L) (H := H) (d := []) (hF.mono (by simp))
  by_cases hk : grpN k = 0
  · have hO : grpO k x = none := by unfold grpO; rw [if_pos hk]
    rw [hO] at hgw
    rw [hk]
    simp only [sl_none, slB_none, List.append_nil] at hgw
    rw [show b1 ++ grp 0 x = b1 from List.append_nil _]
    have r1 := Rd.whole (hp := hp ++ [.cells 0 true [.int .i64 2, .int .i64 x, .int .i64 k, .int .i64 M, .int .i64 P, .int .u32 s, .int .i64 Y], .cells 0 true (u8s [1]), .cells b1.length true (u8s b1), .cells gM true (u8s em)]) (L := L) (H := H) (d := []) (b := hp.length + 2) (g := b1.length) (e := 1) (l := b1) (by rw [get_new]; rfl) (hF.not1 2) hb1 (.inr rfl)
    have hlp := rvm_loop (hq := hp ++ [.cells 0 true [.int .i64 2, .int .i64 x, .int .i64 k, .int .i64 M, .int .i64 P, .int .u32 s, .int .i64 Y], .cells 0 true (u8s [1]), .cells b1.length true (u8s b1), .cells gM true (u8s em)]) (L := L) (H := H) (v := .slice (some ⟨hp.length + 2, 0, some b1.length⟩) b1.length 1) (q := hp.length) (l := b1) (n := n) (hF.mono (by simp)) r1 (by omega) (by simp) b1 0 rfl (by omega) 0 0 0 0 0 0 0 (mvalid_n0 hi)
    obtain ⟨ex, fr, z1, z2, z3, z4, z5, z6, z7, nx, g1, g2⟩ := hlp
    simp only [Int.natCast_zero, List.length_append, List.length_cons, List.length_nil, Nat.zero_add, Nat.reduceAdd, List.append_assoc, List.cons_append, List.nil_append, u8s_cons, u8s_nil, Int.cast_ofNat_Int, Int.natCast_one, set_new, List.set_cons_succ, List.set_cons_zero] at g1 g2
    rcases g2 with ⟨rfl, g2, g3, g4⟩ | ⟨rfl, g2, g3⟩
    · rw [show mFold n mNone b1 = some ⟨z1, z2, z3, z4, z5, z6, z7⟩ from g2]
      simp (disch := (first | omega | (simp only [lnE] <;> omega) | (refine Fit.mono ‹Fit _ _ _› ?_ <;> (simp only [lnE] <;> omega)) | (refine Fit.draw ‹Fit _ _ _› ?_ ?_ <;> (simp only [lnE] <;> omega)) | (refine Fit.hid1 ‹Fit _ _ _› ?_ ?_ <;> (simp only [lnE] <;> omega)) | (refine Fit.hidc1 ‹Fit _ _ _› ?_ ?_ <;> (simp only [lnE] <;> omega)) | (refine Fit.hidc2 ‹Fit _ _ _› ?_ ?_ ?_ <;> (simp only [lnE] <;> omega)) | (refine Fit.draw1 ‹Fit _ _ _› ?_ ?_ ?_ <;> (simp only [lnE] <;> omega)) | (refine Fit.range0 ?_ ?_ <;> (simp only [lnE] <;> omega)) | fail)) only [syA, syB, argFr, D, E, T, C, undefv, eqF, aeq, sheqs, sheq, rdCells, cellsOf, fill, putAt, if_true, if_false, reduceIte, ↓reduceIte, reduceCtorEq, eq_self, Nat.reduceEqDiff, Nat.reduceAdd, Nat.reduceSub, Nat.reduceMul, Nat.reduceLT, Nat.reduceLeDiff, Nat.reducePow, Nat.reduceDiv, Nat.reduceMod, Int.reduceLT, Int.reduceLE, Int.reduceGT, Int.reduceGE, Int.reduceToNat, Int.reducePow, Int.reduceNeg, Int.reduceBEq, Int.reduceBNe, Int.reduceEq, Int.reduceAdd, Int.reduceSub, Int.reduceMul, cellv, sc, flatv, refs, refsF, refsC, hF.not0, hF.not1, hF.up0, hF.up1, ac17, c1, c2, c3, c4, c5, c6, c7, c8, c9, rep5, rep7, small, a0, hpm, htm, am, hgw, append_zero, g1, g3, g4]
      refine some_bool ?_
      rw [Bool.eq_iff_iff]; simp [mSame]
      try omega
    · rw [show mFold n mNone b1 = none from g2]
      simp (disch := (first | omega | (simp only [lnE] <;> omega) | (refine Fit.mono ‹Fit _ _ _› ?_ <;> (simp only [lnE] <;> omega)) | (refine Fit.draw ‹Fit _ _ _› ?_ ?_ <;> (simp only [lnE] <;> omega)) | (refine Fit.hid1 ‹Fit _ _ _› ?_ ?_ <;> (simp only [lnE] <;> omega)) | (refine Fit.hidc1 ‹Fit _ _ _› ?_ ?_ <;> (simp only [lnE] <;> omega)) | (refine Fit.hidc2 ‹Fit _ _ _› ?_ ?_ ?_ <;> (simp only [lnE] <;> omega)) | (refine Fit.draw1 ‹Fit _ _ _› ?_ ?_ ?_ <;> (simp only [lnE] <;> omega)) | (refine Fit.range0 ?_ ?_ <;> (simp only [lnE] <;> omega)) | fail)) only [syA, syB, argFr, D, E, T, C, undefv, eqF, aeq, sheqs, sheq, rdCells, cellsOf, fill, putAt, if_true, if_false, reduceIte, ↓reduceIte, reduceCtorEq, eq_self, Nat.reduceEqDiff, Nat.reduceAdd, Nat.reduceSub, Nat.reduceMul, Nat.reduceLT, Nat.reduceLeDiff, Nat.reducePow, Nat.reduceDiv, Nat.reduceMod, Int.reduceLT, Int.reduceLE, Int.reduceGT, Int.reduceGE, Int.reduceToNat, Int.reducePow, Int.reduceNeg, Int.reduceBEq, Int.reduceBNe, Int.reduceEq, Int.reduceAdd, Int.reduceSub, Int.reduceMul, cellv, sc, flatv, refs, refsF, refsC, hF.not0, hF.not1, hF.up0, hF.up1, ac17, c1, c2, c3, c4, c5, c6, c7, c8, c9, rep5, rep7, small, a0, hpm, htm, am, hgw, append_zero, g1, g3]
      try rfl
  · have hO : grpO k x = some (grp (grpN k) x) := by unfold grpO; rw [if_neg hk]
    rw [hO] at hgw
    have hgl := grp_length (grpN k) x
    have hgb := grp_by (grpN k) x
    have hk5 : grpN k ≤ 5 := by unfold grpN; omega
    generalize grp (grpN k) x = gr at hgw hgl hgb ⊢
    generalize grpG (grpN k) = gG at hgw
    simp only [sl_some, slB_some] at hgw
    have htk := u8_take gr
    have a1 := append_full (hp := hp ++ [.cells 0 true [.int .i64 2, .int .i64 x, .int .i64 k, .int .i64 M, .int .i64 P, .int .u32 s, .int .i64 Y], .cells 0 true (u8s [1]), .cells b1.length true (u8s b1), .cells gM true (u8s em), .cells gG true (u8s gr)]) (L := L) (H := H) (d := []) (b := hp.length + 2) (l0 := b1) (l := gr) (by rw [get_new]; rfl) (by have := hF.1; omega) (hF.not1 2) (by omega)
    have hbb : By (b1 ++ gr) := hb1.append hgb
    have hll : (b1 ++ gr).length ≤ 60 := by simp; omega
    generalize b1 ++ gr = bb at a1 hbb hll ⊢
    have r1 := Rd.whole (hp := hp ++ [.cells 0 true [.int .i64 2, .int .i64 x, .int .i64 k, .int .i64 M, .int .i64 P, .int .u32 s, .int .i64 Y], .cells 0 true (u8s [1]), .cells bb.length true (u8s bb), .cells gM true (u8s em), .cells gG true (u8s gr)]) (L := L) (H := H) (d := []) (b := hp.length + 2) (g := bb.length) (e := 1) (l := bb) (by rw [get_new]; rfl) (hF.not1 2) hbb (.inr rfl)
    simp only [Int.natCast_zero, List.length_append, List.length_cons, List.length_nil, Nat.zero_add, Nat.reduceAdd, List.append_assoc, List.cons_append, List.nil_append, u8s_cons, u8s_nil, Int.cast_ofNat_Int, Int.natCast_one, set_new, List.set_cons_succ, List.set_cons_zero] at a1
    have hlp := rvm_loop (hq := hp ++ [.cells 0 true [.int .i64 2, .int .i64 x, .int .i64 k, .int .i64 M, .int .i64 P, .int .u32 s, .int .i64 Y], .cells 0 true (u8s [1]), .cells bb.length true (u8s bb), .cells gM true (u8s em), .cells gG true (u8s gr)]) (L := L) (H := H) (v := .slice (some ⟨hp.length + 2, 0, some bb.length⟩) bb.length 1) (q := hp.length) (l := bb) (n := n) (hF.mono (by simp)) r1 hll (by simp) bb 0 rfl (by omega) 0 0 0 0 0 0 0 (mvalid_n0 hi)
    obtain ⟨ex, fr, z1, z2, z3, z4, z5, z6, z7, nx, g1, g2⟩ := hlp
    simp only [Int.natCast_zero, List.length_append, List.length_cons, List.length_nil, Nat.zero_add, Nat.reduceAdd, List.append_assoc, List.cons_append, List.nil_append, u8s_cons, u8s_nil, Int.cast_ofNat_Int, Int.natCast_one, set_new, List.set_cons_succ, List.set_cons_zero] at g1 g2
    rcases g2 with ⟨rfl, g2, g3, g4⟩ | ⟨rfl, g2, g3⟩
    · rw [show mFold n mNone bb = some ⟨z1, z2, z3, z4, z5, z6, z7⟩ from g2]
      simp (disch := (first | omega | (simp only [lnE] <;> omega) | (refine Fit.mono ‹Fit _ _ _› ?_ <;> (simp only [lnE] <;> omega)) | (refine Fit.draw ‹Fit _ _ _› ?_ ?_ <;> (simp only [lnE] <;> omega)) | (refine Fit.hid1 ‹Fit _ _ _› ?_ ?_ <;> (simp only [lnE] <;> omega)) | (refine Fit.hidc1 ‹Fit _ _ _› ?_ ?_ <;> (simp only [lnE] <;> omega)) | (refine Fit.hidc2 ‹Fit _ _ _› ?_ ?_ ?_ <;> (simp only [lnE] <;> omega)) | (refine Fit.draw1 ‹Fit _ _ _› ?_ ?_ ?_ <;> (simp only [lnE] <;> omega)) | (refine Fit.range0 ?_ ?_ <;> (simp only [lnE] <;> omega)) | fail)) only [syA, syB, argFr, D, E, T, C, undefv, eqF, aeq, sheqs, sheq, rdCells, cellsOf, fill, putAt, if_true, if_false, reduceIte, ↓reduceIte, reduceCtorEq, eq_self, Nat.reduceEqDiff, Nat.reduceAdd, Nat.reduceSub, Nat.reduceMul, Nat.reduceLT, Nat.reduceLeDiff, Nat.reducePow, Nat.reduceDiv, Nat.reduceMod, Int.reduceLT, Int.reduceLE, Int.reduceGT, Int.reduceGE, Int.reduceToNat, Int.reducePow, Int.reduceNeg, Int.reduceBEq, Int.reduceBNe, Int.reduceEq, Int.reduceAdd, Int.reduceSub, Int.reduceMul, cellv, sc, flatv, refs, refsF, refsC, hF.not0, hF.not1, hF.up0, hF.up1, ac17, c1, c2, c3, c4, c5, c6, c7, c8, c9, rep5, rep7, small, a0, hpm, htm, am, hgw, htk, a1, g1, g3, g4]
      refine some_bool ?_
      rw [Bool.eq_iff_iff]; simp [mSame]
      try omega
    · rw [show mFold n mNone bb = none from g2]
      simp (disch := (first | omega | (simp only [lnE] <;> omega) | (refine Fit.mono ‹Fit _ _ _› ?_ <;> (simp only [lnE] <;> omega)) | (refine Fit.draw ‹Fit _ _ _› ?_ ?_ <;> (simp only [lnE] <;> omega)) | (refine Fit.hid1 ‹Fit _ _ _› ?_ ?_ <;> (simp only [lnE] <;> omega)) | (refine Fit.hidc1 ‹Fit _ _ _› ?_ ?_ <;> (simp only [lnE] <;> omega)) | (refine Fit.hidc2 ‹Fit _ _ _› ?_ ?_ ?_ <;> (simp only [lnE] <;> omega)) | (refine Fit.draw1 ‹Fit _ _ _› ?_ ?_ ?_ <;> (simp only [lnE] <;> omega)) | (refine Fit.range0 ?_ ?_ <;> (simp only [lnE] <;> omega)) | fail)) only [syA, syB, argFr, D, E, T, C, undefv, eqF, aeq, sheqs, sheq, rdCells, cellsOf, fill, putAt, if_true, if_false, reduceIte, ↓reduceIte, reduceCtorEq, eq_self, Nat.reduceEqDiff, Nat.reduceAdd, Nat.reduceSub, Nat.reduceMul, Nat.reduceLT, Nat.reduceLeDiff, Nat.reducePow, Nat.reduceDiv, Nat.reduceMod, Int.reduceLT, Int.reduceLE, Int.reduceGT, Int.reduceGE, Int.reduceToNat, Int.reducePow, Int.reduceNeg, Int.reduceBEq, Int.reduceBNe, Int.reduceEq, Int.reduceAdd, Int.reduceSub, Int.reduceMul, cellv, sc, flatv, refs, refsF, refsC, hF.not0, hF.not1, hF.up0, hF.up1, ac17, c1, c2, c3, c4, c5, c6, c7, c8, c9, rep5, rep7, small, a0, hpm, htm, am, hgw, htk, a1, g1, g3]
      try rfl
theorem rvm_3 (hn : 1 ≤ n ∧ n ≤ 65536) (hM : (M : Int) ≤ n) (hP : (P : Int) ≤ n) (hY : Y ≤ 4) (hs : s < 4294967296) (hx : x ≤ 9223372036854775807) (hF : Fit hp.length L H) : Lrun env (.func 17) [.int .i64 n, .agg #[.int .i64 3, .int .i64 x, .int .i64 k, .int .i64 M, .int .i64 P, .int .u32 s, .int .i64 Y]] ⟨hp, L, H, d⟩ =
    some (.bool (mSame ⟨3, x, k, M, P, s, Y⟩ (mFold n mNone (mBytes ⟨3, x, k, M, P, s, Y⟩))), ⟨hp, L, H, d⟩) := by
  rw [Lrun_sym 17 _ _ fn17]
  have hi : inR n 1 65536 = true := inR_true.2 hn
  have c1 : ¬ n < 1 := by omega
  have c2 : ¬ n > 65536 := by omega
  have c3 : ¬ (Y : Int) < 0 := by omega
  have c4 : ¬ (Y : Int) > 4 := by omega
  have c5 : ¬ (M : Int) < 0 := by omega
  have c6 : ¬ (M : Int) > n := by omega
  have c7 : ¬ (P : Int) < 0 := by omega
  have c8 : ¬ (P : Int) > n := by omega
  have c9 : ¬ (x : Int) < 0 := by omega
  have hby : mBytes ⟨3, x, k, M, P, s, Y⟩ = [1] ++ enc M ++ enc P ++ (be s).drop (4 - Y) := by unfold mBytes; rw [if_neg (by simp), if_neg (by simp), if_neg (by simp), if_pos (by simp)]; rfl
  rw [hby]
  have a0 := append_nil1 (hp := hp ++ [.cells 0 true [.int .i64 3, .int .i64 x, .int .i64 k, .int .i64 M, .int .i64 P, .int .u32 s, .int .i64 Y], .cells 0 true (u8s [1])]) (L := L) (H := H) (d := []) (l := [1]) (by simp) (by simp)
  simp only [Int.natCast_zero, List.length_append, List.length_cons, List.length_nil, Nat.zero_add, Nat.reduceAdd, List.append_assoc, List.cons_append, List.nil_append, u8s_cons, u8s_nil, Int.cast_ofNat_Int, Int.natCast_one, set_new, List.set_cons_succ, List.set_cons_zero] at a0
  have hpm := fun nw => refPut_walk (hp := hp ++ nw) (L := L) (H := H) (d := []) (hF.mono (by simp)) M (by omega)
  have hpp := fun nw => refPut_walk (hp := hp ++ nw) (L := L) (H := H) (d := []) (hF.mono (by simp)) P (by omega)
  simp only [sl_some, slB_some] at hpm hpp
  have hml := enc_len_le M (by omega)
  have hmb := enc_by M
  have hpl := enc_len_le P (by omega)
  have hpb := enc_by P
  have htm := u8_take (enc M)
  have htp := u8_take (enc P)
  have am := append_full (hp := hp ++ [.cells 0 true [.int .i64 3, .int .i64 x, .int .i64 k, .int .i64 M, .int .i64 P, .int .u32 s, .int .i64 Y], .cells 0 true (u8s [1]), .cells [1].length true (u8s [1]), .cells (pg M) true (u8s (enc M))]) (L := L) (H := H) (d := []) (b := hp.length + 2) (l0 := [1]) (l := enc M) (by rw [get_new]; rfl) (by have := hF.1; omega) (hF.not1 2) (by simp; omega)
  have hb1 : By ([1] ++ enc M) := By.append (by intro x hx; simp at hx; omega) hmb
  have hl1 : ([1] ++ enc M).length ≤ 6 := by simp; omega
  generalize [1] ++ enc M = b1 at am hb1 hl1 ⊢
  have ap := append_full (hp := hp ++ [.cells 0 true [.int .i64 3, .int .i64 x, .int .i64 k, .int .i64 M, .int .i64 P, .int .u32 s, .int .i64 Y], .cells 0 true (u8s [1]), .cells b1.length true (u8s b1), .cells (pg M) true (u8s (enc M)), .cells (pg P) true (u8s (enc P))]) (L := L) (H := H) (d := []) (b := hp.length + 2) (l0 := b1) (l := enc P) (by rw [get_new]; rfl) (by have := hF.1; omega) (hF.not1 2) (by omega)
  have hb2 : By (b1 ++ enc P) := hb1.append hpb
  have hl2 : (b1 ++ enc P).length ≤ 11 := by simp; omega
  generalize b1 ++ enc P = b2 at ap hb2 hl2 ⊢
  have hla := fun nw => last_walk s hs Y hY (hp := hp ++ nw) (L := L) (H := H) (d := []) (hF.mono (by simp))
  have hrd := last_rd (h := hp ++ [.cells 0 true [.int .i64 3, .int .i64 x, .int .i64 k, .int .i64 M, .int .i64 P, .int .u32 s, .int .i64 Y], .cells 0 true (u8s [1]), .cells b2.length true (u8s b2), .cells (pg M) true (u8s (enc M)), .cells (pg P) true (u8s (enc P))]) (L := L) (H := H) (d := []) s Y hY (by rw [List.length_append]; exact hF.not1 5)
  have hnw := hrd.news
  have hgl := gl_len (s := s) hY
  have hgb : By ((be s).drop (4 - Y)) := (be_by s).drop _
  generalize (be s).drop (4 - Y) = gl at hnw hgl hgb ⊢
  clear hrd
  have a1 := append_full (hp := hp ++ [.cells 0 true [.int .i64 3, .int .i64 x, .int .i64 k, .int .i64 M, .int .i64 P, .int .u32 s, .int .i64 Y], .cells 0 true (u8s [1]), .cells b2.length true (u8s b2), .cells (pg M) true (u8s (enc M)), .cells (pg P) true (u8s (enc P)), bl4 s]) (L := L) (H := H) (d := []) (b := hp.length + 2) (l0 := b2) (l := gl) (by rw [get_new]; rfl) (by have := hF.1; omega) (hF.not1 2) (by omega)
  have hbb : By (b2 ++ gl) := hb2.append hgb
  have hll : (b2 ++ gl).length ≤ 60 := by simp; omega
  generalize b2 ++ gl = bb at a1 hbb hll ⊢
  have r1 := Rd.whole (hp := hp ++ [.cells 0 true [.int .i64 3, .int .i64 x, .int .i64 k, .int .i64 M, .int .i64 P, .int .u32 s, .int .i64 Y], .cells 0 true (u8s [1]), .cells bb.length true (u8s bb), .cells (pg M) true (u8s (enc M)), .cells (pg P) true (u8s (enc P)), bl4 s]) (L := L) (H := H) (d := []) (b := hp.length + 2) (g := bb.length) (e := 1) (l := bb) (by rw [get_new]; rfl) (hF.not1 2) hbb (.inr rfl)
  simp only [Int.natCast_zero, List.length_append, List.length_cons, List.length_nil, Nat.zero_add, Nat.reduceAdd, List.append_assoc, List.cons_append, List.nil_append, u8s_cons, u8s_nil, Int.cast_ofNat_Int, Int.natCast_one, set_new, List.set_cons_succ, List.set_cons_zero] at am ap a1 hnw
  have hlp := rvm_loop (hq := hp ++ [.cells 0 true [.int .i64 3, .int .i64 x, .int .i64 k, .int .i64 M, .int .i64 P, .int .u32 s, .int .i64 Y], .cells 0 true (u8s [1]), .cells bb.length true (u8s bb), .cells (pg M) true (u8s (enc M)), .cells (pg P) true (u8s (enc P)), bl4 s]) (L := L) (H := H) (v := .slice (some ⟨hp.length + 2, 0, some bb.length⟩) bb.length 1) (q := hp.length) (l := bb) (n := n) (hF.mono (by simp)) r1 hll (by simp) bb 0 rfl (by omega) 0 0 0 0 0 0 0 (mvalid_n0 hi)
  obtain ⟨ex, fr, z1, z2, z3, z4, z5, z6, z7, nx, g1, g2⟩ := hlp
  simp only [Int.natCast_zero, List.length_append, List.length_cons, List.length_nil, Nat.zero_add, Nat.reduceAdd, List.append_assoc, List.cons_append, List.nil_append, u8s_cons, u8s_nil, Int.cast_ofNat_Int, Int.natCast_one, set_new, List.set_cons_succ, List.set_cons_zero] at g1 g2
  rcases g2 with ⟨rfl, g2, g3, g4⟩ | ⟨rfl, g2, g3⟩
  · rw [show mFold n mNone bb = some ⟨z1, z2, z3, z4, z5, z6, z7⟩ from g2]
    simp (disch := (first | omega | (simp only [lnE] <;> omega) | (refine Fit.mono ‹Fit _ _ _› ?_ <;> (simp only [lnE] <;> omega)) | (refine Fit.draw ‹Fit _ _ _› ?_ ?_ <;> (simp only [lnE] <;> omega)) | (refine Fit.hid1 ‹Fit _ _ _› ?_ ?_ <;> (simp only [lnE] <;> omega)) | (refine Fit.hidc1 ‹Fit _ _ _› ?_ ?_ <;> (simp only [lnE] <;> omega)) | (refine Fit.hidc2 ‹Fit _ _ _› ?_ ?_ ?_ <;> (simp only [lnE] <;> omega)) | (refine Fit.draw1 ‹Fit _ _ _› ?_ ?_ ?_ <;> (simp only [lnE] <;> omega)) | (refine Fit.range0 ?_ ?_ <;> (simp only [lnE] <;> omega)) | fail)) only [syA, syB, argFr, D, E, T, C, undefv, eqF, aeq, sheqs, sheq, rdCells, cellsOf, fill, putAt, if_true, if_false, reduceIte, ↓reduceIte, reduceCtorEq, eq_self, Nat.reduceEqDiff, Nat.reduceAdd, Nat.reduceSub, Nat.reduceMul, Nat.reduceLT, Nat.reduceLeDiff, Nat.reducePow, Nat.reduceDiv, Nat.reduceMod, Int.reduceLT, Int.reduceLE, Int.reduceGT, Int.reduceGE, Int.reduceToNat, Int.reducePow, Int.reduceNeg, Int.reduceBEq, Int.reduceBNe, Int.reduceEq, Int.reduceAdd, Int.reduceSub, Int.reduceMul, cellv, sc, flatv, refs, refsF, refsC, hF.not0, hF.not1, hF.up0, hF.up1, ac17, c1, c2, c3, c4, c5, c6, c7, c8, c9, rep5, rep7, small, a0, hpm, htm, am, hpp, htp, ap, hla, hnw, a1, g1, g3, g4]
    refine some_bool ?_
    rw [Bool.eq_iff_iff]; simp [mSame]
    try omega
  · rw [show mFold n mNone bb = none from g2]
    simp (disch := (first | omega | (simp only [lnE] <;> omega) | (refine Fit.mono ‹Fit _ _ _› ?_ <;> (simp only [lnE] <;> omega)) | (refine Fit.draw ‹Fit _ _ _› ?_ ?_ <;> (simp only [lnE] <;> omega)) | (refine Fit.hid1 ‹Fit _ _ _› ?_ ?_ <;> (simp only [lnE] <;> omega)) | (refine Fit.hidc1 ‹Fit _ _ _› ?_ ?_ <;> (simp only [lnE] <;> omega)) | (refine Fit.hidc2 ‹Fit _ _ _› ?_ ?_ ?_ <;> (simp only [lnE] <;> omega)) | (refine Fit.draw1 ‹Fit _ _ _› ?_ ?_ ?_ <;> (simp only [lnE] <;> omega)) | (refine Fit.range0 ?_ ?_ <;> (simp only [lnE] <;> omega)) | fail)) only [syA, syB, argFr, D, E, T, C, undefv, eqF, aeq, sheqs, sheq, rdCells, cellsOf, fill, putAt, if_true, if_false, reduceIte, ↓reduceIte, reduceCtorEq, eq_self, Nat.reduceEqDiff, Nat.reduceAdd, Nat.reduceSub, Nat.reduceMul, Nat.reduceLT, Nat.reduceLeDiff, Nat.reducePow, Nat.reduceDiv, Nat.reduceMod, Int.reduceLT, Int.reduceLE, Int.reduceGT, Int.reduceGE, Int.reduceToNat, Int.reducePow, Int.reduceNeg, Int.reduceBEq, Int.reduceBNe, Int.reduceEq, Int.reduceAdd, Int.reduceSub, Int.reduceMul, cellv, sc, flatv, refs, refsF, refsC, hF.not0, hF.not1, hF.up0, hF.up1, ac17, c1, c2, c3, c4, c5, c6, c7, c8, c9, rep5, rep7, small, a0, hpm, htm, am, hpp, htp, ap, hla, hnw, a1, g1, g3]
    try rfl
theorem rvm_4 (hn : 1 ≤ n ∧ n ≤ 65536) (hM : (M : Int) ≤ n) (hP : (P : Int) ≤ n) (hY : Y ≤ 4) (hs : s < 4294967296) (hx : x ≤ 9223372036854775807) (hF : Fit hp.length L H) : Lrun env (.func 17) [.int .i64 n, .agg #[.int .i64 4, .int .i64 x, .int .i64 k, .int .i64 M, .int .i64 P, .int .u32 s, .int .i64 Y]] ⟨hp, L, H, d⟩ =
    some (.bool (mSame ⟨4, x, k, M, P, s, Y⟩ (mFold n mNone (mBytes ⟨4, x, k, M, P, s, Y⟩))), ⟨hp, L, H, d⟩) := by
  rw [Lrun_sym 17 _ _ fn17]
  have hi : inR n 1 65536 = true := inR_true.2 hn
  have c1 : ¬ n < 1 := by omega
  have c2 : ¬ n > 65536 := by omega
  have c3 : ¬ (Y : Int) < 0 := by omega
  have c4 : ¬ (Y : Int) > 4 := by omega
  have c5 : ¬ (M : Int) < 0 := by omega
  have c6 : ¬ (M : Int) > n := by omega
  have c7 : ¬ (P : Int) < 0 := by omega
  have c8 : ¬ (P : Int) > n := by omega
  have c9 : ¬ (x : Int) < 0 := by omega
  have hby : mBytes ⟨4, x, k, M, P, s, Y⟩ = [1] ++ enc M ++ enc P ++ (be s).drop (4 - Y) := by unfold mBytes; rw [if_neg (by simp), if_neg (by simp), if_neg (by simp), if_pos (by simp)]; rfl
  rw [hby]
  have a0 := append_nil1 (hp := hp ++ [.cells 0 true [.int .i64 4, .int .i64 x, .int .i64 k, .int .i64 M, .int .i64 P, .int .u32 s, .int .i64 Y], .cells 0 true (u8s [1])]) (L := L) (H := H) (d := []) (l := [1]) (by simp) (by simp)
  simp only [Int.natCast_zero, List.length_append, List.length_cons, List.length_nil, Nat.zero_add, Nat.reduceAdd, List.append_assoc, List.cons_append, List.nil_append, u8s_cons, u8s_nil, Int.cast_ofNat_Int, Int.natCast_one, set_new, List.set_cons_succ, List.set_cons_zero] at a0
  have hpm := fun nw => refPut_walk (hp := hp ++ nw) (L := L) (H := H) (d := []) (hF.mono (by simp)) M (by omega)
  have hpp := fun nw => refPut_walk (hp := hp ++ nw) (L := L) (H := H) (d := []) (hF.mono (by simp)) P (by omega)
  simp only [sl_some, slB_some] at hpm hpp
  have hml := enc_len_le M (by omega)
  have hmb := enc_by M
  have hpl := enc_len_le P (by omega)
  have hpb := enc_by P
  have htm := u8_take (enc M)
  have htp := u8_take (enc P)
  have am := append_full (hp := hp ++ [.cells 0 true [.int .i64 4, .int .i64 x, .int .i64 k, .int .i64 M, .int .i64 P, .int .u32 s, .int .i64 Y], .cells 0 true (u8s [1]), .cells [1].length true (u8s [1]), .cells (pg M) true (u8s (enc M))]) (L := L) (H := H) (d := []) (b := hp.length + 2) (l0 := [1]) (l := enc M) (by rw [get_new]; rfl) (by have := hF.1; omega) (hF.not1 2) (by simp; omega)
  have hb1 : By ([1] ++ enc M) := By.append (by intro x hx; simp at hx; omega) hmb
  have hl1 : ([1] ++ enc M).length ≤ 6 := by simp; omega
  generalize [1] ++ enc M = b1 at am hb1 hl1 ⊢
  have ap := append_full (hp := hp ++ [.cells 0 true [.int .i64 4, .int .i64 x, .int .i64 k, .int .i64 M, .int .i64 P, .int .u32 s, .int .i64 Y], .cells 0 true (u8s [1]), .cells b1.length true (u8s b1), .cells (pg M) true (u8s (enc M)), .cells (pg P) true (u8s (enc P))]) (L := L) (H := H) (d := []) (b := hp.length + 2) (l0 := b1) (l := enc P) (by rw [get_new]; rfl) (by have := hF.1; omega) (hF.not1 2) (by omega)
  have hb2 : By (b1 ++ enc P) := hb1.append hpb
  have hl2 : (b1 ++ enc P).length ≤ 11 := by simp; omega
  generalize b1 ++ enc P = b2 at ap hb2 hl2 ⊢
  have hla := fun nw => last_walk s hs Y hY (hp := hp ++ nw) (L := L) (H := H) (d := []) (hF.mono (by simp))
  have hrd := last_rd (h := hp ++ [.cells 0 true [.int .i64 4, .int .i64 x, .int .i64 k, .int .i64 M, .int .i64 P, .int .u32 s, .int .i64 Y], .cells 0 true (u8s [1]), .cells b2.length true (u8s b2), .cells (pg M) true (u8s (enc M)), .cells (pg P) true (u8s (enc P))]) (L := L) (H := H) (d := []) s Y hY (by rw [List.length_append]; exact hF.not1 5)
  have hnw := hrd.news
  have hgl := gl_len (s := s) hY
  have hgb : By ((be s).drop (4 - Y)) := (be_by s).drop _
  generalize (be s).drop (4 - Y) = gl at hnw hgl hgb ⊢
  clear hrd
  have a1 := append_full (hp := hp ++ [.cells 0 true [.int .i64 4, .int .i64 x, .int .i64 k, .int .i64 M, .int .i64 P, .int .u32 s, .int .i64 Y], .cells 0 true (u8s [1]), .cells b2.length true (u8s b2), .cells (pg M) true (u8s (enc M)), .cells (pg P) true (u8s (enc P)), bl4 s]) (L := L) (H := H) (d := []) (b := hp.length + 2) (l0 := b2) (l := gl) (by rw [get_new]; rfl) (by have := hF.1; omega) (hF.not1 2) (by omega)
  have hbb : By (b2 ++ gl) := hb2.append hgb
  have hll : (b2 ++ gl).length ≤ 60 := by simp; omega
  generalize b2 ++ gl = bb at a1 hbb hll ⊢
  have r1 := Rd.whole (hp := hp ++ [.cells 0 true [.int .i64 4, .int .i64 x, .int .i64 k, .int .i64 M, .int .i64 P, .int .u32 s, .int .i64 Y], .cells 0 true (u8s [1]), .cells bb.length true (u8s bb), .cells (pg M) true (u8s (enc M)), .cells (pg P) true (u8s (enc P)), bl4 s]) (L := L) (H := H) (d := []) (b := hp.length + 2) (g := bb.length) (e := 1) (l := bb) (by rw [get_new]; rfl) (hF.not1 2) hbb (.inr rfl)
  simp only [Int.natCast_zero, List.length_append, List.length_cons, List.length_nil, Nat.zero_add, Nat.reduceAdd, List.append_assoc, List.cons_append, List.nil_append, u8s_cons, u8s_nil, Int.cast_ofNat_Int, Int.natCast_one, set_new, List.set_cons_succ, List.set_cons_zero] at am ap a1 hnw
  have hlp := rvm_loop (hq := hp ++ [.cells 0 true [.int .i64 4, .int .i64 x, .int .i64 k, .int .i64 M, .int .i64 P, .int .u32 s, .int .i64 Y], .cells 0 true (u8s [1]), .cells bb.length true (u8s bb), .cells (pg M) true (u8s (enc M)), .cells (pg P) true (u8s (enc P)), bl4 s]) (L := L) (H := H) (v := .slice (some ⟨hp.length + 2, 0, some bb.length⟩) bb.length 1) (q := hp.length) (l := bb) (n := n) (hF.mono (by simp)) r1 hll (by simp) bb 0 rfl (by omega) 0 0 0 0 0 0 0 (mvalid_n0 hi)
  obtain ⟨ex, fr, z1, z2, z3, z4, z5, z6, z7, nx, g1, g2⟩ := hlp
  simp only [Int.natCast_zero, List.length_append, List.length_cons, List.length_nil, Nat.zero_add, Nat.reduceAdd, List.append_assoc, List.cons_append, List.nil_append, u8s_cons, u8s_nil, Int.cast_ofNat_Int, Int.natCast_one, set_new, List.set_cons_succ, List.set_cons_zero] at g1 g2
  rcases g2 with ⟨rfl, g2, g3, g4⟩ | ⟨rfl, g2, g3⟩
  · rw [show mFold n mNone bb = some ⟨z1, z2, z3, z4, z5, z6, z7⟩ from g2]
    simp (disch := (first | omega | (simp only [lnE] <;> omega) | (refine Fit.mono ‹Fit _ _ _› ?_ <;> (simp only [lnE] <;> omega)) | (refine Fit.draw ‹Fit _ _ _› ?_ ?_ <;> (simp only [lnE] <;> omega)) | (refine Fit.hid1 ‹Fit _ _ _› ?_ ?_ <;> (simp only [lnE] <;> omega)) | (refine Fit.hidc1 ‹Fit _ _ _› ?_ ?_ <;> (simp only [lnE] <;> omega)) | (refine Fit.hidc2 ‹Fit _ _ _› ?_ ?_ ?_ <;> (simp only [lnE] <;> omega)) | (refine Fit.draw1 ‹Fit _ _ _› ?_ ?_ ?_ <;> (simp only [lnE] <;> omega)) | (refine Fit.range0 ?_ ?_ <;> (simp only [lnE] <;> omega)) | fail)) only [syA, syB, argFr, D, E, T, C, undefv, eqF, aeq, sheqs, sheq, rdCells, cellsOf, fill, putAt, if_true, if_false, reduceIte, ↓reduceIte, reduceCtorEq, eq_self, Nat.reduceEqDiff, Nat.reduceAdd, Nat.reduceSub, Nat.reduceMul, Nat.reduceLT, Nat.reduceLeDiff, Nat.reducePow, Nat.reduceDiv, Nat.reduceMod, Int.reduceLT, Int.reduceLE, Int.reduceGT, Int.reduceGE, Int.reduceToNat, Int.reducePow, Int.reduceNeg, Int.reduceBEq, Int.reduceBNe, Int.reduceEq, Int.reduceAdd, Int.reduceSub, Int.reduceMul, cellv, sc, flatv, refs, refsF, refsC, hF.not0, hF.not1, hF.up0, hF.up1, ac17, c1, c2, c3, c4, c5, c6, c7, c8, c9, rep5, rep7, small, a0, hpm, htm, am, hpp, htp, ap, hla, hnw, a1, g1, g3, g4]
    refine some_bool ?_
    rw [Bool.eq_iff_iff]; simp [mSame]
    try omega
  · rw [show mFold n mNone bb = none from g2]
    simp (disch := (first | omega | (simp only [lnE] <;> omega) | (refine Fit.mono ‹Fit _ _ _› ?_ <;> (simp only [lnE] <;> omega)) | (refine Fit.draw ‹Fit _ _ _› ?_ ?_ <;> (simp only [lnE] <;> omega)) | (refine Fit.hid1 ‹Fit _ _ _› ?_ ?_ <;> (simp only [lnE] <;> omega)) | (refine Fit.hidc1 ‹Fit _ _ _› ?_ ?_ <;> (simp only [lnE] <;> omega)) | (refine Fit.hidc2 ‹Fit _ _ _› ?_ ?_ ?_ <;> (simp only [lnE] <;> omega)) | (refine Fit.draw1 ‹Fit _ _ _› ?_ ?_ ?_ <;> (simp only [lnE] <;> omega)) | (refine Fit.range0 ?_ ?_ <;> (simp only [lnE] <;> omega)) | fail)) only [syA, syB, argFr, D, E, T, C, undefv, eqF, aeq, sheqs, sheq, rdCells, cellsOf, fill, putAt, if_true, if_false, reduceIte, ↓reduceIte, reduceCtorEq, eq_self, Nat.reduceEqDiff, Nat.reduceAdd, Nat.reduceSub, Nat.reduceMul, Nat.reduceLT, Nat.reduceLeDiff, Nat.reducePow, Nat.reduceDiv, Nat.reduceMod, Int.reduceLT, Int.reduceLE, Int.reduceGT, Int.reduceGE, Int.reduceToNat, Int.reducePow, Int.reduceNeg, Int.reduceBEq, Int.reduceBNe, Int.reduceEq, Int.reduceAdd, Int.reduceSub, Int.reduceMul, cellv, sc, flatv, refs, refsF, refsC, hF.not0, hF.not1, hF.up0, hF.up1, ac17, c1, c2, c3, c4, c5, c6, c7, c8, c9, rep5, rep7, small, a0, hpm, htm, am, hpp, htp, ap, hla, hnw, a1, g1, g3]
    try rfl
end
end VarA
end Go.Proofs.Ytpjjkmfidghkjaa
