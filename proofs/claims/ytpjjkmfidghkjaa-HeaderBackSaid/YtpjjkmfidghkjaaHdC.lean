/-
  HEADERS: walks of the checksum's bytes, of Put and PutEnd. Conditions: none.
-/
import Derived.Test.YtpjjkmfidghkjaaHdB
set_option linter.all false
namespace Go.Proofs.Ytpjjkmfidghkjaa
namespace VarA
open Go Go.RowKit AM ArEnv

/-- The bytes of a checksum. -/
def be (s : Nat) : List Nat := [s / 16777216 % 256, s / 65536 % 256, s / 256 % 256, s % 256]
theorem be_by (s : Nat) : By (be s) := fun x hx => by simp [be] at hx; omega
theorem be_length (s : Nat) : (be s).length = 4 := rfl
theorem be_cell (n : Nat) : IntKind.u8.wrap ((n : Nat) : Int) = ((n % 256 : Nat) : Int) := by rw [wu8m]; omega
/-- The four bytes as a part of an array: no append to it. -/
def sl4 (k : Nat) : Value := .slice (some ⟨k, 0, some 0⟩) 4 0
theorem sl4_eq (k : Nat) : sl4 k = .slice (some ⟨k, 0, some 0⟩) 4 0 := rfl
def bl4 (s : Nat) : Blk := .cells 0 true (u8s (be s))
theorem sl4_rd {h : List Blk} {L : Nat} {H d : List Nat} (s : Nat) (hh : H.contains h.length = false) : Rd ⟨h ++ [bl4 s], L, H, d⟩ (sl4 h.length) (be s) :=
  ⟨be_by s, .inr ⟨h.length, 0, 0, 0, true, u8s (be s), rfl, .inl rfl, hh, by simp [bl4], by simp [u8s], by rw [List.drop_zero, List.take_of_length_le (by simp [u8s])]⟩⟩
theorem crcput_walk (s : Nat) (hs : s < 4294967296) {hp : List Blk} {L : Nat} {H d : List Nat} (hF : Fit hp.length L H) :
    Lrun env (.func 30) [.int .u32 s] ⟨hp, L, H, d⟩ = some (sl4 hp.length, ⟨hp ++ [bl4 s], L, H, d⟩) := by
  rw [Lrun_sym 30 _ _ fn30]
  have e3 : (s : Int).fdiv 16777216 = ((s / 16777216 % 256 : Nat) : Int) := by rw [fdiv_pos _ (by omega)]; omega
  have e2 : (s : Int).fdiv 65536 = ((s / 65536 : Nat) : Int) := by rw [fdiv_pos _ (by omega)]; rfl
  have e1 : (s : Int).fdiv 256 = ((s / 256 : Nat) : Int) := by rw [fdiv_pos _ (by omega)]; rfl
  have e0 : (s : Int).fdiv 1 = (s : Int) := by rw [fdiv_pos _ (by omega)]; omega
  have hcut : cuts 4 none none none = some (0, 4, none) := rfl
  simp (disch := (first | omega | (simp only [lnE] <;> omega) | (refine Fit.mono ‹Fit _ _ _› ?_ <;> (simp only [lnE] <;> omega)) | (refine Fit.draw ‹Fit _ _ _› ?_ ?_ <;> (simp only [lnE] <;> omega)) | (refine Fit.hid1 ‹Fit _ _ _› ?_ ?_ <;> (simp only [lnE] <;> omega)) | (refine Fit.hidc1 ‹Fit _ _ _› ?_ ?_ <;> (simp only [lnE] <;> omega)) | (refine Fit.hidc2 ‹Fit _ _ _› ?_ ?_ ?_ <;> (simp only [lnE] <;> omega)) | (refine Fit.draw1 ‹Fit _ _ _› ?_ ?_ ?_ <;> (simp only [lnE] <;> omega)) | (refine Fit.range0 ?_ ?_ <;> (simp only [lnE] <;> omega)) | fail)) only [syA, syB, argFr, D, E, T, C, undefv, eqF, aeq, sheqs, sheq, rdCells, cellsOf, fill, putAt, if_true, if_false, reduceIte, ↓reduceIte, reduceCtorEq, eq_self, Nat.reduceEqDiff, Nat.reduceAdd, Nat.reduceSub, Nat.reduceMul, Nat.reduceLT, Nat.reduceLeDiff, Nat.reducePow, Nat.reduceDiv, Nat.reduceMod, Int.reduceLT, Int.reduceLE, Int.reduceGT, Int.reduceGE, Int.reduceToNat, Int.reducePow, Int.reduceNeg, Int.reduceBEq, Int.reduceBNe, Int.reduceEq, Int.reduceAdd, Int.reduceSub, Int.reduceMul, cellv, sc, flatv, refs, refsF, refsC, hF.not0, hF.not1, hF.up0, hF.up1, ac30]
  iterate 5
    rw [iter_by lb30_0.eq_1]
    simp (disch := (first | omega | (simp only [lnE] <;> omega) | (refine Fit.mono ‹Fit _ _ _› ?_ <;> (simp only [lnE] <;> omega)) | (refine Fit.draw ‹Fit _ _ _› ?_ ?_ <;> (simp only [lnE] <;> omega)) | (refine Fit.hid1 ‹Fit _ _ _› ?_ ?_ <;> (simp only [lnE] <;> omega)) | (refine Fit.hidc1 ‹Fit _ _ _› ?_ ?_ <;> (simp only [lnE] <;> omega)) | (refine Fit.hidc2 ‹Fit _ _ _› ?_ ?_ ?_ <;> (simp only [lnE] <;> omega)) | (refine Fit.draw1 ‹Fit _ _ _› ?_ ?_ ?_ <;> (simp only [lnE] <;> omega)) | (refine Fit.range0 ?_ ?_ <;> (simp only [lnE] <;> omega)) | fail)) only [syA, syB, argFr, D, E, T, C, undefv, eqF, aeq, sheqs, sheq, rdCells, cellsOf, fill, putAt, if_true, if_false, reduceIte, ↓reduceIte, reduceCtorEq, eq_self, Nat.reduceEqDiff, Nat.reduceAdd, Nat.reduceSub, Nat.reduceMul, Nat.reduceLT, Nat.reduceLeDiff, Nat.reducePow, Nat.reduceDiv, Nat.reduceMod, Int.reduceLT, Int.reduceLE, Int.reduceGT, Int.reduceGE, Int.reduceToNat, Int.reducePow, Int.reduceNeg, Int.reduceBEq, Int.reduceBNe, Int.reduceEq, Int.reduceAdd, Int.reduceSub, Int.reduceMul, cellv, sc, flatv, refs, refsF, refsC, hF.not0, hF.not1, hF.up0, hF.up1, e0, e1, e2, e3, hcut]
  rw [gc_keep 0 rfl (by simp [refs, refsF, refsC]) (by simp [refs, refsF, refsC])]
  simp (disch := (first | omega | (simp only [lnE] <;> omega) | (refine Fit.mono ‹Fit _ _ _› ?_ <;> (simp only [lnE] <;> omega)) | (refine Fit.draw ‹Fit _ _ _› ?_ ?_ <;> (simp only [lnE] <;> omega)) | (refine Fit.hid1 ‹Fit _ _ _› ?_ ?_ <;> (simp only [lnE] <;> omega)) | (refine Fit.hidc1 ‹Fit _ _ _› ?_ ?_ <;> (simp only [lnE] <;> omega)) | (refine Fit.hidc2 ‹Fit _ _ _› ?_ ?_ ?_ <;> (simp only [lnE] <;> omega)) | (refine Fit.draw1 ‹Fit _ _ _› ?_ ?_ ?_ <;> (simp only [lnE] <;> omega)) | (refine Fit.range0 ?_ ?_ <;> (simp only [lnE] <;> omega)) | fail)) only [syA, syB, argFr, D, E, T, C, undefv, eqF, aeq, sheqs, sheq, rdCells, cellsOf, fill, putAt, if_true, if_false, reduceIte, ↓reduceIte, reduceCtorEq, eq_self, Nat.reduceEqDiff, Nat.reduceAdd, Nat.reduceSub, Nat.reduceMul, Nat.reduceLT, Nat.reduceLeDiff, Nat.reducePow, Nat.reduceDiv, Nat.reduceMod, Int.reduceLT, Int.reduceLE, Int.reduceGT, Int.reduceGE, Int.reduceToNat, Int.reducePow, Int.reduceNeg, Int.reduceBEq, Int.reduceBNe, Int.reduceEq, Int.reduceAdd, Int.reduceSub, Int.reduceMul, cellv, sc, flatv, refs, refsF, refsC, hF.not0, hF.not1, hF.up0, hF.up1, ren, renF, renC, one_new0, Nat.add_zero, List.map_cons, List.map_nil, be_cell]
  rfl
theorem mark_new {hp nw : List Blk} {L k g n e o : Nat} {H d : List Nat} {pl : Bool} {cs : List Value} (hF : Fit hp.length L H) (hk : nw[k]? = some (.cells g pl cs)) (hn : n ≠ 0) :
    markX ⟨hp ++ nw, L, H, d⟩ (some (.slice (some ⟨hp.length + k, o, some g⟩) n e)) = some (.slice (some ⟨hp.length + k, o, some g⟩) n e, ⟨hp ++ nw, L, H, d⟩) := by
  rw [markX_some (h := hF.up1 k) (hn := eq_false hn)]
  have : St.blk ⟨hp ++ nw, L, H, d⟩ ⟨hp.length + k, o, some g⟩ = some (pl, cs) := by
    unfold St.blk
    simp only [hF.not1 k, get_new, hk]
    simp
  rw [this, markY_some]
/-- The first bytes and the number of a stream header. -/
def headOf (n : Nat) : List Nat := [87, 80, 1] ++ enc n
theorem headOf_len (n : Nat) : (headOf n).length = (enc n).length + 3 := by simp [headOf]
theorem hput_good (n : Nat) (h1 : 1 ≤ n) (h2 : n ≤ 65536) {hp : List Blk} {L : Nat} {H d : List Nat} (hF : Fit hp.length L H) :
    Lrun env (.func 8) [.agg #[.int .i64 n]] ⟨hp, L, H, d⟩ = some (.tuple #[sl hp.length (headOf n).length (some (headOf n)), .int .i64 0], ⟨hp ++ slB (headOf n).length (some (headOf n)), L, H, d⟩) := by
  rw [Lrun_sym 8 _ _ fn8]
  have hi : inR n 1 65536 = true := inR_true.2 (by omega)
  have h5 := enc_len_le n (by omega)
  have hn := fun nw => number_good n 65536 (by omega) (hp := hp ++ nw) (L := L) (H := H) (d := []) (hF.mono (by simp))
  simp only [sl_some, slB_some] at hn ⊢
  have happ := append_end (hp := hp ++ [.cells 0 true [.int .i64 n], .cells (enc n).length true (u8s (enc n)), .cells 0 true (u8s [87, 80, 1])]) (L := L) (H := H) (d := []) (b := hp.length + 2) (g := 0) (l0 := [87, 80, 1]) (l := enc n) (by rw [get_new]; rfl) (by have := hF.1; omega) (hF.not1 2) (by simp; omega)
  have hne : enc n ≠ [] := by intro h; have := congrArg List.length h; rw [enc_len] at this; simp at this
  rw [if_neg hne] at happ
  simp only [List.cons_append, List.nil_append, List.length_cons, List.length_nil, Nat.zero_add, set_new, List.set_cons_succ, List.set_cons_zero, u8s_cons, u8s_nil, Int.cast_ofNat_Int, Int.natCast_one] at happ
  have hmk := mark_new (hp := hp) (nw := [.cells 0 true [.int .i64 n], .cells (enc n).length true (u8s (enc n)), .cells 0 true [.int .u8 87, .int .u8 80, .int .u8 1]]) (L := L) (H := H) (d := []) (k := 2) (o := 0) (n := 3) (e := 1) hF rfl (by omega)
  simp (disch := (first | omega | (simp only [lnE] <;> omega) | (refine Fit.mono ‹Fit _ _ _› ?_ <;> (simp only [lnE] <;> omega)) | (refine Fit.draw ‹Fit _ _ _› ?_ ?_ <;> (simp only [lnE] <;> omega)) | (refine Fit.hid1 ‹Fit _ _ _› ?_ ?_ <;> (simp only [lnE] <;> omega)) | (refine Fit.hidc1 ‹Fit _ _ _› ?_ ?_ <;> (simp only [lnE] <;> omega)) | (refine Fit.hidc2 ‹Fit _ _ _› ?_ ?_ ?_ <;> (simp only [lnE] <;> omega)) | (refine Fit.draw1 ‹Fit _ _ _› ?_ ?_ ?_ <;> (simp only [lnE] <;> omega)) | (refine Fit.range0 ?_ ?_ <;> (simp only [lnE] <;> omega)) | fail)) only [syA, syB, argFr, D, E, T, C, undefv, eqF, aeq, sheqs, sheq, rdCells, cellsOf, fill, putAt, if_true, if_false, reduceIte, ↓reduceIte, reduceCtorEq, eq_self, Nat.reduceEqDiff, Nat.reduceAdd, Nat.reduceSub, Nat.reduceMul, Nat.reduceLT, Nat.reduceLeDiff, Nat.reducePow, Nat.reduceDiv, Nat.reduceMod, Int.reduceLT, Int.reduceLE, Int.reduceGT, Int.reduceGE, Int.reduceToNat, Int.reducePow, Int.reduceNeg, Int.reduceBEq, Int.reduceBNe, Int.reduceEq, Int.reduceAdd, Int.reduceSub, Int.reduceMul, cellv, sc, flatv, refs, refsF, refsC, hF.not0, hF.not1, hF.up0, hF.up1, ac8, hn, hi, happ, small, hmk]
  rw [gc_keep 2 rfl (by simp [refs, refsF, refsC]) (by simp [refs, refsF, refsC])]
  simp (disch := (first | omega | (simp only [lnE] <;> omega) | (refine Fit.mono ‹Fit _ _ _› ?_ <;> (simp only [lnE] <;> omega)) | (refine Fit.draw ‹Fit _ _ _› ?_ ?_ <;> (simp only [lnE] <;> omega)) | (refine Fit.hid1 ‹Fit _ _ _› ?_ ?_ <;> (simp only [lnE] <;> omega)) | (refine Fit.hidc1 ‹Fit _ _ _› ?_ ?_ <;> (simp only [lnE] <;> omega)) | (refine Fit.hidc2 ‹Fit _ _ _› ?_ ?_ ?_ <;> (simp only [lnE] <;> omega)) | (refine Fit.draw1 ‹Fit _ _ _› ?_ ?_ ?_ <;> (simp only [lnE] <;> omega)) | (refine Fit.range0 ?_ ?_ <;> (simp only [lnE] <;> omega)) | fail)) only [syA, syB, argFr, D, E, T, C, undefv, eqF, aeq, sheqs, sheq, rdCells, cellsOf, fill, putAt, if_true, if_false, reduceIte, ↓reduceIte, reduceCtorEq, eq_self, Nat.reduceEqDiff, Nat.reduceAdd, Nat.reduceSub, Nat.reduceMul, Nat.reduceLT, Nat.reduceLeDiff, Nat.reducePow, Nat.reduceDiv, Nat.reduceMod, Int.reduceLT, Int.reduceLE, Int.reduceGT, Int.reduceGE, Int.reduceToNat, Int.reducePow, Int.reduceNeg, Int.reduceBEq, Int.reduceBNe, Int.reduceEq, Int.reduceAdd, Int.reduceSub, Int.reduceMul, cellv, sc, flatv, refs, refsF, refsC, hF.not0, hF.not1, hF.up0, hF.up1, ren, renF, renC, one_new, List.map_cons, List.map_nil]
  rw [headOf_len]
  rfl
theorem hput_bad (n : Int) (h : n < 1 ∨ 65536 < n) {hp : List Blk} {L : Nat} {H d : List Nat} (hF : Fit hp.length L H) :
    Lrun env (.func 8) [.agg #[.int .i64 n]] ⟨hp, L, H, d⟩ = some (.tuple #[.slice none 0 0, .int .i64 2], ⟨hp, L, H, d⟩) := by
  rw [Lrun_sym 8 _ _ fn8]
  have hi : inR n 1 65536 = false := by rw [← Bool.not_eq_true, inR_true]; omega
  by_cases hb : n < 0 ∨ n > 2147483647
  · simp (disch := (first | omega | (simp only [lnE] <;> omega) | (refine Fit.mono ‹Fit _ _ _› ?_ <;> (simp only [lnE] <;> omega)) | (refine Fit.draw ‹Fit _ _ _› ?_ ?_ <;> (simp only [lnE] <;> omega)) | (refine Fit.hid1 ‹Fit _ _ _› ?_ ?_ <;> (simp only [lnE] <;> omega)) | (refine Fit.hidc1 ‹Fit _ _ _› ?_ ?_ <;> (simp only [lnE] <;> omega)) | (refine Fit.hidc2 ‹Fit _ _ _› ?_ ?_ ?_ <;> (simp only [lnE] <;> omega)) | (refine Fit.draw1 ‹Fit _ _ _› ?_ ?_ ?_ <;> (simp only [lnE] <;> omega)) | (refine Fit.range0 ?_ ?_ <;> (simp only [lnE] <;> omega)) | fail)) only [syA, syB, argFr, D, E, T, C, undefv, eqF, aeq, sheqs, sheq, rdCells, cellsOf, fill, putAt, if_true, if_false, reduceIte, ↓reduceIte, reduceCtorEq, eq_self, Nat.reduceEqDiff, Nat.reduceAdd, Nat.reduceSub, Nat.reduceMul, Nat.reduceLT, Nat.reduceLeDiff, Nat.reducePow, Nat.reduceDiv, Nat.reduceMod, Int.reduceLT, Int.reduceLE, Int.reduceGT, Int.reduceGE, Int.reduceToNat, Int.reducePow, Int.reduceNeg, Int.reduceBEq, Int.reduceBNe, Int.reduceEq, Int.reduceAdd, Int.reduceSub, Int.reduceMul, cellv, sc, flatv, refs, refsF, refsC, hF.not0, hF.not1, hF.up0, hF.up1, ac8, number_bad n _ hb, hi]
  · obtain ⟨x, rfl⟩ : ∃ x : Nat, n = x := ⟨n.toNat, by omega⟩
    have hn := fun nw => number_good x 65536 (by omega) (hp := hp ++ nw) (L := L) (H := H) (d := []) (hF.mono (by simp))
    simp only [sl_some, slB_some] at hn
    simp (disch := (first | omega | (simp only [lnE] <;> omega) | (refine Fit.mono ‹Fit _ _ _› ?_ <;> (simp only [lnE] <;> omega)) | (refine Fit.draw ‹Fit _ _ _› ?_ ?_ <;> (simp only [lnE] <;> omega)) | (refine Fit.hid1 ‹Fit _ _ _› ?_ ?_ <;> (simp only [lnE] <;> omega)) | (refine Fit.hidc1 ‹Fit _ _ _› ?_ ?_ <;> (simp only [lnE] <;> omega)) | (refine Fit.hidc2 ‹Fit _ _ _› ?_ ?_ ?_ <;> (simp only [lnE] <;> omega)) | (refine Fit.draw1 ‹Fit _ _ _› ?_ ?_ ?_ <;> (simp only [lnE] <;> omega)) | (refine Fit.range0 ?_ ?_ <;> (simp only [lnE] <;> omega)) | fail)) only [syA, syB, argFr, D, E, T, C, undefv, eqF, aeq, sheqs, sheq, rdCells, cellsOf, fill, putAt, if_true, if_false, reduceIte, ↓reduceIte, reduceCtorEq, eq_self, Nat.reduceEqDiff, Nat.reduceAdd, Nat.reduceSub, Nat.reduceMul, Nat.reduceLT, Nat.reduceLeDiff, Nat.reducePow, Nat.reduceDiv, Nat.reduceMod, Int.reduceLT, Int.reduceLE, Int.reduceGT, Int.reduceGE, Int.reduceToNat, Int.reducePow, Int.reduceNeg, Int.reduceBEq, Int.reduceBNe, Int.reduceEq, Int.reduceAdd, Int.reduceSub, Int.reduceMul, cellv, sc, flatv, refs, refsF, refsC, hF.not0, hF.not1, hF.up0, hF.up1, ac8, hn, hi]
/-- A trailer. -/
def endOf (s : Nat) : List Nat := 0 :: be s
theorem putend_walk (s : Nat) (hs : s < 4294967296) {hp : List Blk} {L : Nat} {H d : List Nat} (hF : Fit hp.length L H) :
    Lrun env (.func 12) [.int .u32 s] ⟨hp, L, H, d⟩ = some (sl hp.length 5 (some (endOf s)), ⟨hp ++ slB 5 (some (endOf s)), L, H, d⟩) := by
  rw [Lrun_sym 12 _ _ fn12]
  have hc := fun nw => crcput_walk s hs (hp := hp ++ nw) (L := L) (H := H) (d := []) (hF.mono (by simp))
  have happ := append_end (hp := hp ++ [.cells 0 true (u8s [0]), bl4 s]) (L := L) (H := H) (d := []) (b := hp.length) (g := 0) (l0 := [0]) (l := be s) (by rw [get_new0]) (by have := hF.1; omega) hF.not0 (by simp [be])
  rw [if_neg (by simp [be])] at happ
  have hnw : ∀ nw d', St.news ⟨hp ++ [.cells 0 true (u8s [0]), bl4 s] ++ nw, L, H, d'⟩ 1 (sl4 (hp.length + 1)) = some (4, u8s (be s)) := fun nw d' => by
    have h := (sl4_rd (h := hp ++ [.cells 0 true (u8s [0])]) (L := L) (H := H) (d := d') s (by rw [List.length_append]; exact hF.not1 1)).app (nw := nw) (L' := L) (d' := d')
    have := h.news
    simpa [be_length] using this
  simp only [List.cons_append, List.nil_append, List.length_cons, List.length_nil, Nat.zero_add, set_new0, List.set_cons_succ, List.set_cons_zero, u8s_cons, u8s_nil, Int.natCast_zero, be_length] at happ hnw
  have hnw0 := hnw [] []
  simp only [List.append_nil] at hnw0
  simp only [sl_some, slB_some]
  simp (disch := (first | omega | (simp only [lnE] <;> omega) | (refine Fit.mono ‹Fit _ _ _› ?_ <;> (simp only [lnE] <;> omega)) | (refine Fit.draw ‹Fit _ _ _› ?_ ?_ <;> (simp only [lnE] <;> omega)) | (refine Fit.hid1 ‹Fit _ _ _› ?_ ?_ <;> (simp only [lnE] <;> omega)) | (refine Fit.hidc1 ‹Fit _ _ _› ?_ ?_ <;> (simp only [lnE] <;> omega)) | (refine Fit.hidc2 ‹Fit _ _ _› ?_ ?_ ?_ <;> (simp only [lnE] <;> omega)) | (refine Fit.draw1 ‹Fit _ _ _› ?_ ?_ ?_ <;> (simp only [lnE] <;> omega)) | (refine Fit.range0 ?_ ?_ <;> (simp only [lnE] <;> omega)) | fail)) only [syA, syB, argFr, D, E, T, C, undefv, eqF, aeq, sheqs, sheq, rdCells, cellsOf, fill, putAt, if_true, if_false, reduceIte, ↓reduceIte, reduceCtorEq, eq_self, Nat.reduceEqDiff, Nat.reduceAdd, Nat.reduceSub, Nat.reduceMul, Nat.reduceLT, Nat.reduceLeDiff, Nat.reducePow, Nat.reduceDiv, Nat.reduceMod, Int.reduceLT, Int.reduceLE, Int.reduceGT, Int.reduceGE, Int.reduceToNat, Int.reducePow, Int.reduceNeg, Int.reduceBEq, Int.reduceBNe, Int.reduceEq, Int.reduceAdd, Int.reduceSub, Int.reduceMul, cellv, sc, flatv, refs, refsF, refsC, hF.not0, hF.not1, hF.up0, hF.up1, ac12, hc, happ, hnw0, small]
  rw [gc_keep 0 rfl (by simp [refs, refsF, refsC]) (by simp [refs, refsF, refsC])]
  simp (disch := (first | omega | (simp only [lnE] <;> omega) | (refine Fit.mono ‹Fit _ _ _› ?_ <;> (simp only [lnE] <;> omega)) | (refine Fit.draw ‹Fit _ _ _› ?_ ?_ <;> (simp only [lnE] <;> omega)) | (refine Fit.hid1 ‹Fit _ _ _› ?_ ?_ <;> (simp only [lnE] <;> omega)) | (refine Fit.hidc1 ‹Fit _ _ _› ?_ ?_ <;> (simp only [lnE] <;> omega)) | (refine Fit.hidc2 ‹Fit _ _ _› ?_ ?_ ?_ <;> (simp only [lnE] <;> omega)) | (refine Fit.draw1 ‹Fit _ _ _› ?_ ?_ ?_ <;> (simp only [lnE] <;> omega)) | (refine Fit.range0 ?_ ?_ <;> (simp only [lnE] <;> omega)) | fail)) only [syA, syB, argFr, D, E, T, C, undefv, eqF, aeq, sheqs, sheq, rdCells, cellsOf, fill, putAt, if_true, if_false, reduceIte, ↓reduceIte, reduceCtorEq, eq_self, Nat.reduceEqDiff, Nat.reduceAdd, Nat.reduceSub, Nat.reduceMul, Nat.reduceLT, Nat.reduceLeDiff, Nat.reducePow, Nat.reduceDiv, Nat.reduceMod, Int.reduceLT, Int.reduceLE, Int.reduceGT, Int.reduceGE, Int.reduceToNat, Int.reducePow, Int.reduceNeg, Int.reduceBEq, Int.reduceBNe, Int.reduceEq, Int.reduceAdd, Int.reduceSub, Int.reduceMul, cellv, sc, flatv, refs, refsF, refsC, hF.not0, hF.not1, hF.up0, hF.up1, ren, renF, renC, one_new0, Nat.add_zero, List.map_cons, List.map_nil]
  rfl
end VarA
end Go.Proofs.Ytpjjkmfidghkjaa
