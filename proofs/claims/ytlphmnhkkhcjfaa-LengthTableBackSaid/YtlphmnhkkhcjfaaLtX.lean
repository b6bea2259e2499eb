/-
  LENGTH TABLES: the law of the ways. Conditions: none.
-/
import Derived.Test.YtlphmnhkkhcjfaaLtW
set_option linter.all false
section
namespace Go.Proofs.Ytlphmnhkkhcjfaa
namespace LtA
open Go Go.RowKit AM ArEnv Bt
variable {hp : List Blk} {L : Nat} {H d : List Nat}

theorem il_app (a b : List Nat) : il (a ++ b) = il a ++ il b := by simp [il]
theorem rep_snoc (way : Nat) : ∀ n, rep way (n + 1) = rep way n ++ [1, way]
  | 0 => rfl
  | n + 1 => by
    have ih := rep_snoc way n
    show 1 :: way :: rep way (n + 1) = 1 :: way :: (rep way n ++ [1, way])
    rw [ih]
/-- The bits of a first length, and adjustments in one direction. -/
def wB (f way i : Nat) : List Nat := f4 f 4 ++ rep way i
theorem wB_length (f way i : Nat) : (wB f way i).length = 4 + 2 * i := by unfold wB; rw [List.length_append, f4_length, rep_length]
theorem wB_snoc (f way i : Nat) : wB f way (i + 1) = wB f way i ++ [1, way] := by unfold wB; rw [rep_snoc, List.append_assoc]
theorem wB_bits {f way i : Nat} (h : way < 2) : Bits (wB f way i) := (f4_bits _ _).append (rep_bits h _)
def gg (i : Nat) : Nat := if i = 0 then 0 else 4 + 2 * i
theorem gg_succ (i : Nat) : gg (i + 1) = 4 + 2 * (i + 1) := if_neg (by omega)
theorem wB_zero (f way : Nat) : wB f way 0 = [f / 8 % 2, f / 4 % 2, f / 2 % 2, f % 2] := by simp [wB, rep, f4, List.range_succ]
theorem ways_loop {f way M : Nat} {many room : Int} (hway : way < 2) (hM : min many room = (M : Nat)) (hm : M ≤ 20) (hF : Fit hp.length L H) : ∀ n i : Nat, i + n = M → ∃ fr,
    Liter env lb5_0 [7, 10, 1, 9, 8] (hp.length + 1) [(7, .slice (some ⟨hp.length, 0, some (gg i)⟩) (4 + 2 * i) 1), (10, .int .i64 i), (1, .int .i64 many), (9, .int .i64 room), (8, .int .i64 way)] ⟨hp ++ [.cells (gg i) true (is (wB f way i))], L, H, []⟩
      = some (.exit 0, fr, ⟨hp ++ [.cells (gg M) true (is (wB f way M))], L, H, []⟩) ∧ fr.get 7 = some (.slice (some ⟨hp.length, 0, some (gg M)⟩) (4 + 2 * M) 1) ∧ fr.get 1 = some (.int .i64 many) ∧ fr.get 9 = some (.int .i64 room) ∧ fr.get 8 = some (.int .i64 way)
  | 0, i, e => by
    obtain rfl : i = M := by omega
    rw [iter_by lb5_0.eq_1]
    simp (disch := (first | omega | (simp only [lnE] <;> omega) | (refine Fit.mono ‹Fit _ _ _› ?_ <;> (simp only [lnE] <;> omega)) | (refine Fit.draw ‹Fit _ _ _› ?_ ?_ <;> (simp only [lnE] <;> omega)) | (refine Fit.hid1 ‹Fit _ _ _› ?_ ?_ <;> (simp only [lnE] <;> omega)) | (refine Fit.hidc1 ‹Fit _ _ _› ?_ ?_ <;> (simp only [lnE] <;> omega)) | (refine Fit.hidc2 ‹Fit _ _ _› ?_ ?_ ?_ <;> (simp only [lnE] <;> omega)) | (refine Fit.draw1 ‹Fit _ _ _› ?_ ?_ ?_ <;> (simp only [lnE] <;> omega)) | (refine Fit.range0 ?_ ?_ <;> (simp only [lnE] <;> omega)) | fail)) only [syA, syB, argFr, D, E, T, C, undefv, eqF, aeq, sheqs, sheq, rdCells, cellsOf, fill, putAt, if_true, if_false, reduceIte, ↓reduceIte, reduceCtorEq, eq_self, Nat.reduceEqDiff, Nat.reduceAdd, Nat.reduceSub, Nat.reduceMul, Nat.reduceLT, Nat.reduceLeDiff, Nat.reducePow, Nat.reduceDiv, Nat.reduceMod, Int.reduceLT, Int.reduceLE, Int.reduceGT, Int.reduceGE, Int.reduceToNat, Int.reducePow, Int.reduceNeg, Int.reduceBEq, Int.reduceBNe, Int.reduceEq, Int.reduceAdd, Int.reduceSub, Int.reduceMul, cellv, sc, flatv, refs, refsF, refsC, hF.not0, hF.not1, hF.up0, hF.up1, hM]
    exact ⟨_, rfl, rfl, rfl, rfl, rfl⟩
  | n + 1, i, e => by
    obtain ⟨fr, h1, h2⟩ := ways_loop hway hM hm hF n (i + 1) (by omega)
    have hi : (i : Int) < (M : Nat) := by omega
    have hl := wB_length f way i
    have happ := append_isg (hp := hp ++ [.cells (gg i) true (is (wB f way i)), .cells 0 true (is [1, way])]) (L := L) (H := H) (d := []) (b := hp.length) (g := gg i) (l := wB f way i) (m := [1, way]) (get_new0 ..) (by have := hF.1; omega) hF.not0 (by simp) (by rw [hl]; simp; omega)
    rw [hl, set_new0, ← wB_snoc] at happ
    have is1 : is [1, way] = [.int .i64 1, .int .i64 way] := rfl
    simp only [is1, List.length_cons, List.length_nil, Nat.zero_add, Nat.reduceAdd, List.set_cons_zero] at happ
    rw [gg_succ] at h1
    simp only [Int.natCast_add, Int.natCast_one] at h1
    have e4 : 4 + 2 * i + 2 = 4 + 2 * (i + 1) := by omega
    rw [e4] at happ
    have s2 : small 2 = true := rfl
    rw [iter_by lb5_0.eq_1]
    simp (disch := (first | omega | (simp only [lnE] <;> omega) | (refine Fit.mono ‹Fit _ _ _› ?_ <;> (simp only [lnE] <;> omega)) | (refine Fit.draw ‹Fit _ _ _› ?_ ?_ <;> (simp only [lnE] <;> omega)) | (refine Fit.hid1 ‹Fit _ _ _› ?_ ?_ <;> (simp only [lnE] <;> omega)) | (refine Fit.hidc1 ‹Fit _ _ _› ?_ ?_ <;> (simp only [lnE] <;> omega)) | (refine Fit.hidc2 ‹Fit _ _ _› ?_ ?_ ?_ <;> (simp only [lnE] <;> omega)) | (refine Fit.draw1 ‹Fit _ _ _› ?_ ?_ ?_ <;> (simp only [lnE] <;> omega)) | (refine Fit.range0 ?_ ?_ <;> (simp only [lnE] <;> omega)) | fail)) only [syA, syB, argFr, D, E, T, C, undefv, eqF, aeq, sheqs, sheq, rdCells, cellsOf, fill, putAt, if_true, if_false, reduceIte, ↓reduceIte, reduceCtorEq, eq_self, Nat.reduceEqDiff, Nat.reduceAdd, Nat.reduceSub, Nat.reduceMul, Nat.reduceLT, Nat.reduceLeDiff, Nat.reducePow, Nat.reduceDiv, Nat.reduceMod, Int.reduceLT, Int.reduceLE, Int.reduceGT, Int.reduceGE, Int.reduceToNat, Int.reducePow, Int.reduceNeg, Int.reduceBEq, Int.reduceBNe, Int.reduceEq, Int.reduceAdd, Int.reduceSub, Int.reduceMul, cellv, sc, flatv, refs, refsF, refsC, hF.not0, hF.not1, hF.up0, hF.up1, hM, hi, s2, happ]
    rw [gcFr_cut 1 (by simp) (by
      intro p hp' r hr
      simp only [List.mem_cons, List.not_mem_nil, or_false] at hp'
      rcases hp' with rfl | rfl | rfl | rfl | rfl
      · simp [refs, refsF, refsC] at hr; omega
      · simp [refs, refsF, refsC] at hr
      · simp [refs, refsF, refsC] at hr
      · simp [refs, refsF, refsC] at hr
      · simp [refs, refsF, refsC] at hr)]
    simp only [List.take_succ_cons, List.take_zero, againX_some]
    exact ⟨fr, h1, h2⟩
/-! ### What Read gives -/
def wEnd (f way i : Nat) : Ts := ⟨zs, 0, 4, if way = 0 then (f : Int) + i else (f : Int) - i, if i = 0 then 0 else if way = 0 then 1 else 2⟩
theorem trail_wB {f way i : Nat} (hf : f ≤ 15) (hw : way < 2) (h : if way = 0 then f + i ≤ 15 else i ≤ f) : trail z0 (wB f way i) = some (wEnd f way i) := by
  unfold wB wEnd
  rw [trail_append, trail_f4 hf, Option.bind_some]
  by_cases c : way = 0
  · subst c
    rw [if_pos rfl] at h
    rw [trail_rep0 (by decide) _ _ _ (by omega) (by omega) (by decide), if_pos rfl, if_pos rfl]
  · obtain rfl : way = 1 := by omega
    rw [if_neg c] at h
    rw [trail_rep1 (by decide) _ _ _ (by omega) (by decide), if_neg c, if_neg c]
theorem read_wB {f way i : Nat} (hf : f ≤ 15) (hw : way < 2) (h : if way = 0 then f + i ≤ 15 else i ≤ f) (r : List Int) : readF z0 (il (wB f way i) ++ r) 0 = readF (wEnd f way i) r (4 + 2 * i) := by
  rw [trail_read (wB_bits hw) (trail_wB hf hw h) (by show (0 : Int) < 258; decide), wB_length, Nat.zero_add]
theorem read_mark {c : Ts} {b : Int} {r : List Int} {i : Nat} (h4 : c.bits = 4) (hs : c.sym < 258) : readF c (1 :: r) i = readF { c with bits := 5 } r (i + 1) := by
  have h1 : (nextF c 1).2 = true := by simp [nextF, h4]
  have h2 : (nextF c 1).1 = { c with bits := 5 } := by simp [nextF, h4]
  have := readF_cons (r := r) (i := i) (b := 1) (by decide) h1 (by rw [h2]; show c.sym ≠ 258; omega)
  rw [h2] at this
  exact this
theorem read_wB0 {f way i : Nat} (hf : f ≤ 15) (hw : way < 2) (h : if way = 0 then f + i ≤ 15 else i ≤ f) : readF z0 (il (wB f way i)) 0 = (zs, 0, 50) := by
  have := read_wB hf hw h []
  rw [List.append_nil] at this
  rw [this, readF]
theorem read_wB1 {f way i : Nat} (hf : f ≤ 15) (hw : way < 2) (h : if way = 0 then f + i ≤ 15 else i ≤ f) : readF z0 (il (wB f way i) ++ [1]) 0 = (zs, 0, 50) := by
  rw [read_wB hf hw h, read_mark (b := 0) rfl (by show (0 : Int) < 258; decide), readF]
/-- No further. -/
theorem read_wB2 {f way i : Nat} (hf : f ≤ 15) (hw : way < 2) (h : if way = 0 then f + i = 15 else i = f) : readF z0 (il (wB f way i) ++ [1, (way : Int)]) 0 = (zs, 0, 100) := by
  rw [read_wB hf hw (by split at h <;> rename_i c <;> simp only [c, if_true, if_false] <;> omega), read_mark (b := 0) rfl (by show (0 : Int) < 258; decide), readF, if_pos (by omega), if_neg]
  rw [Int.toNat_natCast]
  unfold wEnd
  by_cases c : way = 0
  · subst c
    rw [if_pos rfl] at h
    simp only [nextF]
    simp
    omega
  · obtain rfl : way = 1 := by omega
    rw [if_neg c] at h
    simp only [nextF]
    simp
    omega
/-- Not back. -/
theorem read_wB3 {f way i : Nat} (hf : f ≤ 15) (hw : way < 2) (h : if way = 0 then f + i ≤ 15 else i ≤ f) (h0 : i ≠ 0) : readF z0 (il (wB f way i) ++ [1, 1 - (way : Int)]) 0 = (zs, 0, 100) := by
  rw [read_wB hf hw h, read_mark (b := 0) rfl (by show (0 : Int) < 258; decide), readF, if_pos (by omega), if_neg]
  unfold wEnd
  by_cases c : way = 0
  · subst c
    simp [nextF, h0]
  · obtain rfl : way = 1 := by omega
    simp [nextF, h0]
theorem ways_run (first : Int) (hf0 : -9223372036854775808 ≤ first) (hf1 : first ≤ 9223372036854775807) (many : Int) (hm0 : -9223372036854775808 ≤ many) (hm1 : many ≤ 9223372036854775807) (down : Bool) {bs : List Blk} :
    ∃ σ', Lrun env (.func 5) [.int .i64 first, .int .i64 many, .bool down] ⟨bs, bs.length, [], []⟩ = some (.bool true, σ') := by
  rw [Lrun_sym 5 _ _ fn5]
  have hF : Fit bs.length bs.length [] := ⟨Nat.le_refl _, Low.nil _⟩
  have hW := fun hp L H d hF => wakes10 (hp := hp) (L := L) (H := H) (d := d) hF
  by_cases c1 : first < 0
  · simp (disch := (first | omega | (simp only [lnE] <;> omega) | (refine Fit.mono ‹Fit _ _ _› ?_ <;> (simp only [lnE] <;> omega)) | (refine Fit.draw ‹Fit _ _ _› ?_ ?_ <;> (simp only [lnE] <;> omega)) | (refine Fit.hid1 ‹Fit _ _ _› ?_ ?_ <;> (simp only [lnE] <;> omega)) | (refine Fit.hidc1 ‹Fit _ _ _› ?_ ?_ <;> (simp only [lnE] <;> omega)) | (refine Fit.hidc2 ‹Fit _ _ _› ?_ ?_ ?_ <;> (simp only [lnE] <;> omega)) | (refine Fit.draw1 ‹Fit _ _ _› ?_ ?_ ?_ <;> (simp only [lnE] <;> omega)) | (refine Fit.range0 ?_ ?_ <;> (simp only [lnE] <;> omega)) | fail)) only [syA, syB, argFr, D, E, T, C, undefv, eqF, aeq, sheqs, sheq, rdCells, cellsOf, fill, putAt, if_true, if_false, reduceIte, ↓reduceIte, reduceCtorEq, eq_self, Nat.reduceEqDiff, Nat.reduceAdd, Nat.reduceSub, Nat.reduceMul, Nat.reduceLT, Nat.reduceLeDiff, Nat.reducePow, Nat.reduceDiv, Nat.reduceMod, Int.reduceLT, Int.reduceLE, Int.reduceGT, Int.reduceGE, Int.reduceToNat, Int.reducePow, Int.reduceNeg, Int.reduceBEq, Int.reduceBNe, Int.reduceEq, Int.reduceAdd, Int.reduceSub, Int.reduceMul, cellv, sc, flatv, refs, refsF, refsC, hF.not0, hF.not1, hF.up0, hF.up1, ac5, hW, c1]
    exact ⟨_, rfl⟩
  by_cases c2 : first > 15
  · simp (disch := (first | omega | (simp only [lnE] <;> omega) | (refine Fit.mono ‹Fit _ _ _› ?_ <;> (simp only [lnE] <;> omega)) | (refine Fit.draw ‹Fit _ _ _› ?_ ?_ <;> (simp only [lnE] <;> omega)) | (refine Fit.hid1 ‹Fit _ _ _› ?_ ?_ <;> (simp only [lnE] <;> omega)) | (refine Fit.hidc1 ‹Fit _ _ _› ?_ ?_ <;> (simp only [lnE] <;> omega)) | (refine Fit.hidc2 ‹Fit _ _ _› ?_ ?_ ?_ <;> (simp only [lnE] <;> omega)) | (refine Fit.draw1 ‹Fit _ _ _› ?_ ?_ ?_ <;> (simp only [lnE] <;> omega)) | (refine Fit.range0 ?_ ?_ <;> (simp only [lnE] <;> omega)) | fail)) only [syA, syB, argFr, D, E, T, C, undefv, eqF, aeq, sheqs, sheq, rdCells, cellsOf, fill, putAt, if_true, if_false, reduceIte, ↓reduceIte, reduceCtorEq, eq_self, Nat.reduceEqDiff, Nat.reduceAdd, Nat.reduceSub, Nat.reduceMul, Nat.reduceLT, Nat.reduceLeDiff, Nat.reducePow, Nat.reduceDiv, Nat.reduceMod, Int.reduceLT, Int.reduceLE, Int.reduceGT, Int.reduceGE, Int.reduceToNat, Int.reducePow, Int.reduceNeg, Int.reduceBEq, Int.reduceBNe, Int.reduceEq, Int.reduceAdd, Int.reduceSub, Int.reduceMul, cellv, sc, flatv, refs, refsF, refsC, hF.not0, hF.not1, hF.up0, hF.up1, ac5, hW, c1, c2]
    exact ⟨_, rfl⟩
  by_cases c3 : many < 1
  · simp (disch := (first | omega | (simp only [lnE] <;> omega) | (refine Fit.mono ‹Fit _ _ _› ?_ <;> (simp only [lnE] <;> omega)) | (refine Fit.draw ‹Fit _ _ _› ?_ ?_ <;> (simp only [lnE] <;> omega)) | (refine Fit.hid1 ‹Fit _ _ _› ?_ ?_ <;> (simp only [lnE] <;> omega)) | (refine Fit.hidc1 ‹Fit _ _ _› ?_ ?_ <;> (simp only [lnE] <;> omega)) | (refine Fit.hidc2 ‹Fit _ _ _› ?_ ?_ ?_ <;> (simp only [lnE] <;> omega)) | (refine Fit.draw1 ‹Fit _ _ _› ?_ ?_ ?_ <;> (simp only [lnE] <;> omega)) | (refine Fit.range0 ?_ ?_ <;> (simp only [lnE] <;> omega)) | fail)) only [syA, syB, argFr, D, E, T, C, undefv, eqF, aeq, sheqs, sheq, rdCells, cellsOf, fill, putAt, if_true, if_false, reduceIte, ↓reduceIte, reduceCtorEq, eq_self, Nat.reduceEqDiff, Nat.reduceAdd, Nat.reduceSub, Nat.reduceMul, Nat.reduceLT, Nat.reduceLeDiff, Nat.reducePow, Nat.reduceDiv, Nat.reduceMod, Int.reduceLT, Int.reduceLE, Int.reduceGT, Int.reduceGE, Int.reduceToNat, Int.reducePow, Int.reduceNeg, Int.reduceBEq, Int.reduceBNe, Int.reduceEq, Int.reduceAdd, Int.reduceSub, Int.reduceMul, cellv, sc, flatv, refs, refsF, refsC, hF.not0, hF.not1, hF.up0, hF.up1, ac5, hW, c1, c2, c3]
    exact ⟨_, rfl⟩
  by_cases c4 : many > 20
  · simp (disch := (first | omega | (simp only [lnE] <;> omega) | (refine Fit.mono ‹Fit _ _ _› ?_ <;> (simp only [lnE] <;> omega)) | (refine Fit.draw ‹Fit _ _ _› ?_ ?_ <;> (simp only [lnE] <;> omega)) | (refine Fit.hid1 ‹Fit _ _ _› ?_ ?_ <;> (simp only [lnE] <;> omega)) | (refine Fit.hidc1 ‹Fit _ _ _› ?_ ?_ <;> (simp only [lnE] <;> omega)) | (refine Fit.hidc2 ‹Fit _ _ _› ?_ ?_ ?_ <;> (simp only [lnE] <;> omega)) | (refine Fit.draw1 ‹Fit _ _ _› ?_ ?_ ?_ <;> (simp only [lnE] <;> omega)) | (refine Fit.range0 ?_ ?_ <;> (simp only [lnE] <;> omega)) | fail)) only [syA, syB, argFr, D, E, T, C, undefv, eqF, aeq, sheqs, sheq, rdCells, cellsOf, fill, putAt, if_true, if_false, reduceIte, ↓reduceIte, reduceCtorEq, eq_self, Nat.reduceEqDiff, Nat.reduceAdd, Nat.reduceSub, Nat.reduceMul, Nat.reduceLT, Nat.reduceLeDiff, Nat.reducePow, Nat.reduceDiv, Nat.reduceMod, Int.reduceLT, Int.reduceLE, Int.reduceGT, Int.reduceGE, Int.reduceToNat, Int.reducePow, Int.reduceNeg, Int.reduceBEq, Int.reduceBNe, Int.reduceEq, Int.reduceAdd, Int.reduceSub, Int.reduceMul, cellv, sc, flatv, refs, refsF, refsC, hF.not0, hF.not1, hF.up0, hF.up1, ac5, hW, c1, c2, c3, c4]
    exact ⟨_, rfl⟩
  obtain ⟨f, rfl⟩ : ∃ f : Nat, first = (f : Nat) := ⟨first.toNat, by omega⟩
  obtain ⟨m, rfl⟩ : ∃ m : Nat, many = (m : Nat) := ⟨many.toNat, by omega⟩
  have hf : f ≤ 15 := by omega
  have p3 : (2 : Int) ^ (3 : Nat) = 8 := rfl
  have p2 : (2 : Int) ^ (2 : Nat) = 4 := rfl
  have p1 : (2 : Int) ^ (1 : Nat) = 2 := rfl
  have q3 : (f : Int).fdiv 8 = (f / 8 : Nat) := by rw [fdiv_pos _ (by decide)]; omega
  have q2 : (f : Int).fdiv 4 = (f / 4 : Nat) := by rw [fdiv_pos _ (by decide)]; omega
  have q1 : (f : Int).fdiv 2 = (f / 2 : Nat) := by rw [fdiv_pos _ (by decide)]; omega
  have a2 := and1_64 (n := f / 4) (by omega)
  have a1 := and1_64 (n := f / 2) (by omega)
  have a0 := and1_64 (n := f) (by omega)
  have e8 : f / 8 % 2 = f / 8 := by omega
  obtain ⟨way, room, hway, hroom, hdown⟩ : ∃ way room : Nat, way < 2 ∧ (if way = 0 then f + room = 15 else room = f) ∧ down = decide (way = 1) := by
    cases down with
    | false => exact ⟨0, 15 - f, by omega, by rw [if_pos rfl]; omega, rfl⟩
    | true => exact ⟨1, f, by omega, by rw [if_neg (by decide)], rfl⟩
  have hr15 : room ≤ 15 := by split at hroom <;> omega
  have hb0 : is (wB f way 0) = [.int .i64 (f / 8 : Nat), .int .i64 (f / 4 % 2 : Nat), .int .i64 (f / 2 % 2 : Nat), .int .i64 (f % 2 : Nat)] := by rw [wB_zero, e8]; rfl
  obtain ⟨M, hM, hMr⟩ : ∃ M : Nat, min (m : Int) (room : Int) = (M : Nat) ∧ M = min m room := ⟨min m room, by omega, rfl⟩
  have hMw : if way = 0 then f + M ≤ 15 else M ≤ f := by split at hroom <;> rename_i c <;> simp only [c, if_true, if_false] <;> omega
  obtain ⟨fr, h1, h2, h3, h4, h5⟩ := ways_loop (f := f) hway hM (by omega) hF M 0 (by omega)
  rw [hb0] at h1
  simp only [show gg 0 = 0 from rfl, Nat.mul_zero, Nat.add_zero, Int.natCast_zero] at h1
  have hl := wB_length f way M
  have hz := zs_length
  have htz : (u8s zs).take 258 = u8s zs := take258 hz
  have pzz : putAt (u8s zs) 0 (u8s zs) = u8s zs := putAt_full rfl
  have sm0 : small 0 = true := rfl
  have sm1' : small 1 = true := rfl
  have s2 : small 2 = true := rfl
  have s4 : small 4 = true := rfl
  have ilM : (il (wB f way M)).length = 4 + 2 * M := by simp [il, hl]
  have r0 := fun d => read_at (d := d) (hp := bs) (L := bs.length) (H := []) (nw := [.cells (gg M) true (is (wB f way M))]) (n := 4 + 2 * M) 0 (il (wB f way M)) (by rw [is_il]; rfl) ilM (by omega) hF (read_wB0 hf hway hMw)
  simp only [Nat.add_zero] at r0
  have is1 : is [1, way] = [.int .i64 1, .int .i64 way] := rfl
  have isl : (is (wB f way M)).length = 4 + 2 * M := by rw [is_length, hl]
  have ist : (is (wB f way M)).take (4 + 2 * M) = is (wB f way M) := List.take_of_length_le (by omega)
  have e42 : 4 + 2 * M + 2 = 6 + 2 * M := by omega
  have e41 : 4 + 2 * M + 1 = 5 + 2 * M := by omega
  have n42 : (4 + 2 * M = 0) = False := eq_false (by omega)
  have l42 : (4 + 2 * M ≤ 4 + 2 * M) = True := eq_true (Nat.le_refl _)
  by_cases c5 : m > room
  · -- one adjustment too many
    have hMe : M = room := by omega
    have c5' : (m : Int) > (room : Int) := by omega
    have happ := append_isg (hp := bs ++ [.cells (gg M) true (is (wB f way M)), .cells 0 true (u8s zs), .cells 0 true (is [1, way])]) (L := bs.length) (H := []) (d := []) (b := bs.length) (g := gg M) (l := wB f way M) (m := [1, way]) (get_new0 ..) (Nat.le_refl _) hF.not0 (by simp) (by rw [hl]; simp; omega)
    rw [hl, set_new0] at happ
    simp only [is1, List.length_cons, List.length_nil, Nat.zero_add, Nat.reduceAdd, List.set_cons_zero, e42] at happ
    have hrd := read_wB2 (i := M) hf hway (by rw [hMe]; exact hroom)
    have ilB : (il (wB f way M) ++ [1, (way : Int)]).length = 6 + 2 * M := by rw [List.length_append, ilM]; simp; omega
    have r1 := fun d => read_at (d := d) (hp := bs) (L := bs.length) (H := []) (nw := [.cells (6 + 2 * M) true (is (wB f way M ++ [1, way])), .cells 0 true (u8s zs), .cells 0 true [.int .i64 1, .int .i64 way]]) (n := 6 + 2 * M) (g := 6 + 2 * M) (pl := true) 0 (il (wB f way M) ++ [1, (way : Int)]) (by rw [is_il, il_app]; rfl) ilB (by omega) hF hrd
    simp only [Nat.add_zero] at r1
    by_cases cw : way = 0
    · subst cw
      rw [if_pos rfl] at hroom
      subst hdown
      have e15 : (15 : Int) - (f : Nat) = (room : Nat) := by omega
      simp only [Int.natCast_zero] at *
      simp (disch := (first | omega | (simp only [lnE] <;> omega) | (refine Fit.mono ‹Fit _ _ _› ?_ <;> (simp only [lnE] <;> omega)) | (refine Fit.draw ‹Fit _ _ _› ?_ ?_ <;> (simp only [lnE] <;> omega)) | (refine Fit.hid1 ‹Fit _ _ _› ?_ ?_ <;> (simp only [lnE] <;> omega)) | (refine Fit.hidc1 ‹Fit _ _ _› ?_ ?_ <;> (simp only [lnE] <;> omega)) | (refine Fit.hidc2 ‹Fit _ _ _› ?_ ?_ ?_ <;> (simp only [lnE] <;> omega)) | (refine Fit.draw1 ‹Fit _ _ _› ?_ ?_ ?_ <;> (simp only [lnE] <;> omega)) | (refine Fit.range0 ?_ ?_ <;> (simp only [lnE] <;> omega)) | fail)) only [syA, syB, argFr, D, E, T, C, undefv, eqF, aeq, sheqs, sheq, rdCells, cellsOf, fill, putAt, if_true, if_false, reduceIte, ↓reduceIte, reduceCtorEq, eq_self, Nat.reduceEqDiff, Nat.reduceAdd, Nat.reduceSub, Nat.reduceMul, Nat.reduceLT, Nat.reduceLeDiff, Nat.reducePow, Nat.reduceDiv, Nat.reduceMod, Int.reduceLT, Int.reduceLE, Int.reduceGT, Int.reduceGE, Int.reduceToNat, Int.reducePow, Int.reduceNeg, Int.reduceBEq, Int.reduceBNe, Int.reduceEq, Int.reduceAdd, Int.reduceSub, Int.reduceMul, cellv, sc, flatv, refs, refsF, refsC, hF.not0, hF.not1, hF.up0, hF.up1, ac5, hW, c1, c2, c3, c4, c5', p1, p2, p3, q1, q2, q3, a0, a1, a2, e15, s4, s2, h1, h2, h3, h4, h5, r0, r1, happ, hz, htz, pzz, zs_eq, u8s_cellv, u8s_scs]
      exact ⟨_, rfl⟩
    · obtain rfl : way = 1 := by omega
      rw [if_neg (by decide)] at hroom
      subst hdown hroom
      simp only [Int.natCast_one] at *
      simp (disch := (first | omega | (simp only [lnE] <;> omega) | (refine Fit.mono ‹Fit _ _ _› ?_ <;> (simp only [lnE] <;> omega)) | (refine Fit.draw ‹Fit _ _ _› ?_ ?_ <;> (simp only [lnE] <;> omega)) | (refine Fit.hid1 ‹Fit _ _ _› ?_ ?_ <;> (simp only [lnE] <;> omega)) | (refine Fit.hidc1 ‹Fit _ _ _› ?_ ?_ <;> (simp only [lnE] <;> omega)) | (refine Fit.hidc2 ‹Fit _ _ _› ?_ ?_ ?_ <;> (simp only [lnE] <;> omega)) | (refine Fit.draw1 ‹Fit _ _ _› ?_ ?_ ?_ <;> (simp only [lnE] <;> omega)) | (refine Fit.range0 ?_ ?_ <;> (simp only [lnE] <;> omega)) | fail)) only [syA, syB, argFr, D, E, T, C, undefv, eqF, aeq, sheqs, sheq, rdCells, cellsOf, fill, putAt, if_true, if_false, reduceIte, ↓reduceIte, reduceCtorEq, eq_self, Nat.reduceEqDiff, Nat.reduceAdd, Nat.reduceSub, Nat.reduceMul, Nat.reduceLT, Nat.reduceLeDiff, Nat.reducePow, Nat.reduceDiv, Nat.reduceMod, Int.reduceLT, Int.reduceLE, Int.reduceGT, Int.reduceGE, Int.reduceToNat, Int.reducePow, Int.reduceNeg, Int.reduceBEq, Int.reduceBNe, Int.reduceEq, Int.reduceAdd, Int.reduceSub, Int.reduceMul, cellv, sc, flatv, refs, refsF, refsC, hF.not0, hF.not1, hF.up0, hF.up1, ac5, hW, c1, c2, c3, c4, c5', p1, p2, p3, q1, q2, q3, a0, a1, a2, s4, s2, h1, h2, h3, h4, h5, r0, r1, happ, hz, htz, pzz, zs_eq, u8s_cellv, u8s_scs]
      exact ⟨_, rfl⟩
  · have c5' : ¬ (m : Int) > (room : Int) := by omega
    have hMe : M = m := by omega
    have hM0 : M ≠ 0 := by omega
    have b1 := append_isg (hp := bs ++ [.cells (gg M) true (is (wB f way M)), .cells 0 true (u8s zs), .cells 0 true []]) (L := bs.length) (H := []) (d := []) (b := bs.length + 2) (g := 0) (l := []) (m := wB f way M) (by rw [get_new]; rfl) (by omega) (hF.not1 2) (by rw [hl]; omega) (by rw [hl]; simp; omega)
    have b2 := append_isg (hp := bs ++ [.cells (gg M) true (is (wB f way M)), .cells 0 true (u8s zs), .cells (4 + 2 * M) true (is (wB f way M)), .cells 0 true [.int .i64 1, .int .i64 (1 - (way : Int))]]) (L := bs.length) (H := []) (d := []) (b := bs.length + 2) (g := 4 + 2 * M) (l := wB f way M) (m := [1, 1 - way]) (by rw [get_new]; rfl) (by omega) (hF.not1 2) (by simp) (by rw [hl]; simp; omega)
    have isn : is ([] : List Nat) = [] := rfl
    have hil : il [1, 1 - way] = [1, 1 - (way : Int)] := by simp [il]; omega
    have is2 : is [1, 1 - way] = [.int .i64 1, .int .i64 (1 - (way : Int))] := by simp [is]; omega
    rw [hl, set_new] at b1 b2
    simp only [isn, is2, List.length_cons, List.length_nil, Nat.zero_add, Nat.reduceAdd, List.nil_append, List.set_cons_succ, List.set_cons_zero, e42] at b1 b2
    have hrd := read_wB3 (i := M) hf hway hMw hM0
    have ilB : (il (wB f way M) ++ [1, 1 - (way : Int)]).length = 6 + 2 * M := by rw [List.length_append, ilM]; simp; omega
    have r1 := fun d => read_at (d := d) (hp := bs) (L := bs.length) (H := []) (nw := [.cells (gg M) true (is (wB f way M)), .cells 0 true (u8s zs), .cells (6 + 2 * M) true (is (wB f way M ++ [1, 1 - way])), .cells 0 true [.int .i64 1, .int .i64 (1 - (way : Int))]]) (n := 6 + 2 * M) (g := 6 + 2 * M) (pl := true) 2 (il (wB f way M) ++ [1, 1 - (way : Int)]) (by rw [is_il (wB f way M ++ _), il_app, hil]; rfl) ilB (by omega) hF hrd
    -- one more bit
    have x1 := append_isg (hp := bs ++ [.cells (gg M) true (is (wB f way M)), .cells 0 true (u8s zs), .cells (6 + 2 * M) true (is (wB f way M ++ [1, 1 - way])), .cells 0 true [.int .i64 1, .int .i64 (1 - (way : Int))], .cells 0 true (u8s zs), .cells 0 true []]) (L := bs.length) (H := []) (d := []) (b := bs.length + 5) (g := 0) (l := []) (m := wB f way M) (by rw [get_new]; rfl) (by omega) (hF.not1 5) (by rw [hl]; omega) (by rw [hl]; simp; omega)
    have x2 := append_isg (hp := bs ++ [.cells (gg M) true (is (wB f way M)), .cells 0 true (u8s zs), .cells (6 + 2 * M) true (is (wB f way M ++ [1, 1 - way])), .cells 0 true [.int .i64 1, .int .i64 (1 - (way : Int))], .cells 0 true (u8s zs), .cells (4 + 2 * M) true (is (wB f way M)), .cells 0 true [.int .i64 1]]) (L := bs.length) (H := []) (d := []) (b := bs.length + 5) (g := 4 + 2 * M) (l := wB f way M) (m := [1]) (by rw [get_new]; rfl) (by omega) (hF.not1 5) (by simp) (by rw [hl]; simp; omega)
    have is3 : is [1] = [.int .i64 1] := rfl
    rw [hl, set_new] at x1 x2
    simp only [isn, is3, List.length_cons, List.length_nil, Nat.zero_add, Nat.reduceAdd, List.nil_append, List.set_cons_succ, List.set_cons_zero, e41] at x1 x2
    have hrd1 := read_wB1 (i := M) hf hway hMw
    have ilC : (il (wB f way M) ++ [1]).length = 5 + 2 * M := by rw [List.length_append, ilM]; simp; omega
    have r2 := fun d => read_at (d := d) (hp := bs) (L := bs.length) (H := []) (nw := [.cells (gg M) true (is (wB f way M)), .cells 0 true (u8s zs), .cells (6 + 2 * M) true (is (wB f way M ++ [1, 1 - way])), .cells 0 true [.int .i64 1, .int .i64 (1 - (way : Int))], .cells 0 true (u8s zs), .cells (5 + 2 * M) true (is (wB f way M ++ [1])), .cells 0 true [.int .i64 1]]) (n := 5 + 2 * M) (g := 5 + 2 * M) (pl := true) 5 (il (wB f way M) ++ [1]) (by rw [is_il (wB f way M ++ [1]), il_app]; rfl) ilC (by omega) hF hrd1
    by_cases cw : way = 0
    · subst cw
      rw [if_pos rfl] at hroom
      subst hdown
      have e15 : (15 : Int) - (f : Nat) = (room : Nat) := by omega
      simp only [Int.natCast_zero, Int.sub_zero, Nat.sub_zero] at *
      simp (disch := (first | omega | (simp only [lnE] <;> omega) | (refine Fit.mono ‹Fit _ _ _› ?_ <;> (simp only [lnE] <;> omega)) | (refine Fit.draw ‹Fit _ _ _› ?_ ?_ <;> (simp only [lnE] <;> omega)) | (refine Fit.hid1 ‹Fit _ _ _› ?_ ?_ <;> (simp only [lnE] <;> omega)) | (refine Fit.hidc1 ‹Fit _ _ _› ?_ ?_ <;> (simp only [lnE] <;> omega)) | (refine Fit.hidc2 ‹Fit _ _ _› ?_ ?_ ?_ <;> (simp only [lnE] <;> omega)) | (refine Fit.draw1 ‹Fit _ _ _› ?_ ?_ ?_ <;> (simp only [lnE] <;> omega)) | (refine Fit.range0 ?_ ?_ <;> (simp only [lnE] <;> omega)) | fail)) only [syA, syB, argFr, D, E, T, C, undefv, eqF, aeq, sheqs, sheq, rdCells, cellsOf, fill, putAt, if_true, if_false, reduceIte, ↓reduceIte, reduceCtorEq, eq_self, Nat.reduceEqDiff, Nat.reduceAdd, Nat.reduceSub, Nat.reduceMul, Nat.reduceLT, Nat.reduceLeDiff, Nat.reducePow, Nat.reduceDiv, Nat.reduceMod, Int.reduceLT, Int.reduceLE, Int.reduceGT, Int.reduceGE, Int.reduceToNat, Int.reducePow, Int.reduceNeg, Int.reduceBEq, Int.reduceBNe, Int.reduceEq, Int.reduceAdd, Int.reduceSub, Int.reduceMul, cellv, sc, flatv, refs, refsF, refsC, hF.not0, hF.not1, hF.up0, hF.up1, ac5, hW, c1, c2, c3, c4, c5', p1, p2, p3, q1, q2, q3, a0, a1, a2, e15, s4, s2, sm0, sm1', h1, h2, h3, h4, h5, r0, r1, r2, b1, b2, x1, x2, isl, ist, n42, l42, hz, htz, pzz, zs_eq, u8s_cellv, u8s_scs]
      exact ⟨_, rfl⟩
    · obtain rfl : way = 1 := by omega
      rw [if_neg (by decide)] at hroom
      subst hdown hroom
      simp only [Int.natCast_one, Int.sub_self, Nat.sub_self] at *
      simp (disch := (first | omega | (simp only [lnE] <;> omega) | (refine Fit.mono ‹Fit _ _ _› ?_ <;> (simp only [lnE] <;> omega)) | (refine Fit.draw ‹Fit _ _ _› ?_ ?_ <;> (simp only [lnE] <;> omega)) | (refine Fit.hid1 ‹Fit _ _ _› ?_ ?_ <;> (simp only [lnE] <;> omega)) | (refine Fit.hidc1 ‹Fit _ _ _› ?_ ?_ <;> (simp only [lnE] <;> omega)) | (refine Fit.hidc2 ‹Fit _ _ _› ?_ ?_ ?_ <;> (simp only [lnE] <;> omega)) | (refine Fit.draw1 ‹Fit _ _ _› ?_ ?_ ?_ <;> (simp only [lnE] <;> omega)) | (refine Fit.range0 ?_ ?_ <;> (simp only [lnE] <;> omega)) | fail)) only [syA, syB, argFr, D, E, T, C, undefv, eqF, aeq, sheqs, sheq, rdCells, cellsOf, fill, putAt, if_true, if_false, reduceIte, ↓reduceIte, reduceCtorEq, eq_self, Nat.reduceEqDiff, Nat.reduceAdd, Nat.reduceSub, Nat.reduceMul, Nat.reduceLT, Nat.reduceLeDiff, Nat.reducePow, Nat.reduceDiv, Nat.reduceMod, Int.reduceLT, Int.reduceLE, Int.reduceGT, Int.reduceGE, Int.reduceToNat, Int.reducePow, Int.reduceNeg, Int.reduceBEq, Int.reduceBNe, Int.reduceEq, Int.reduceAdd, Int.reduceSub, Int.reduceMul, cellv, sc, flatv, refs, refsF, refsC, hF.not0, hF.not1, hF.up0, hF.up1, ac5, hW, c1, c2, c3, c4, c5', p1, p2, p3, q1, q2, q3, a0, a1, a2, s4, s2, sm0, sm1', h1, h2, h3, h4, h5, r0, r1, r2, b1, b2, x1, x2, isl, ist, n42, l42, hz, htz, pzz, zs_eq, u8s_cellv, u8s_scs]
      exact ⟨_, rfl⟩
end LtA
end Go.Proofs.Ytlphmnhkkhcjfaa
end
