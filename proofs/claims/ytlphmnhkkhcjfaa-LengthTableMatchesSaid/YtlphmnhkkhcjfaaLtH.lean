/-
  LENGTH TABLES: the reference's Valid and Step, on the abstract machine. Conditions: none.
-/
import Derived.Test.YtlphmnhkkhcjfaaLtG
set_option linter.all false
section
namespace Go.Proofs.Ytlphmnhkkhcjfaa
namespace LtA
open Go Go.RowKit AM ArEnv Bt
variable {hp : List Blk} {L : Nat} {H d : List Nat}

theorem Vld.small {c : Ts} (h : Vld c) : (0 ≤ c.now ∧ c.now ≤ 15) ∧ (0 ≤ c.sym ∧ c.sym ≤ 258) := by
  rcases h with ⟨h1, h2, h3, h4, h5⟩ | ⟨R, _⟩
  · have := pow2_le (i := c.bits.toNat) (by omega)
    have hs : c.sym = 0 := by rw [h5]
    omega
  · have := R.now0; have := R.now1; have := R.sym0; have := R.sym1; omega
theorem vld_few {c : Ts} (hb : 0 ≤ c.bits ∧ c.bits < 4) (hn : 0 ≤ c.now) : Vld c ↔ (⟨zs, 0, (c.bits.toNat : Nat), (c.now.toNat % 2 ^ c.bits.toNat : Nat), 0⟩ : Ts) = c := by
  have hp : 0 < 2 ^ c.bits.toNat := Nat.pow_pos (by decide)
  have hpc : ((2 ^ c.bits.toNat : Nat) : Int) = (2 : Int) ^ c.bits.toNat := by rw [Int.natCast_pow]; rfl
  constructor
  · rintro (⟨h1, h2, h3, h4, h5⟩ | ⟨R, _⟩)
    · have e : c.now.toNat % 2 ^ c.bits.toNat = c.now.toNat := Nat.mod_eq_of_lt (by omega)
      rw [e]
      exact Ts.ext' (by rw [h5]) (by rw [h5]) (by show ((c.bits.toNat : Nat) : Int) = c.bits; omega) (by show ((c.now.toNat : Nat) : Int) = c.now; omega) (by rw [h5])
    · have := R.bits0; omega
  · intro h
    have e1 : zs = c.l := congrArg Ts.l h
    have e2 : 0 = c.sym := congrArg Ts.sym h
    have e3 : ((c.now.toNat % 2 ^ c.bits.toNat : Nat) : Int) = c.now := congrArg Ts.now h
    have e4 : 0 = c.way := congrArg Ts.way h
    have hlt := Nat.mod_lt c.now.toNat hp
    exact .inl ⟨hb.1, by omega, hn, by omega, Ts.ext' e1.symm e2.symm rfl rfl e4.symm⟩
theorem vld_path {c : Ts} (hl : c.l.length = 258) (hb : ¬ (0 ≤ c.bits ∧ c.bits < 4)) : Vld c ↔ trail z0 (pathF c) = some c := by
  constructor
  · rintro (h | ⟨R, K, T⟩)
    · have := h.1; have := h.2.1; omega
    · exact trail_path hl R K T
  · exact trail_vld (pathF_bits c)
theorem vld_lens {c : Ts} (hb : ¬ (0 ≤ c.bits ∧ c.bits < 4)) {m : Nat} (hm : c.sym = m) (hm2 : m ≤ 258) (h : ∃ s, s < m ∧ 15 < c.l.getD s 0) : ¬ Vld c := by
  rintro (h1 | ⟨R, K, T⟩)
  · have := h1.1; have := h1.2.1; omega
  · obtain ⟨s, h1, h2⟩ := h
    have := (K s (by omega)).1
    omega
theorem vld_first {c : Ts} (hb : ¬ (0 ≤ c.bits ∧ c.bits < 4)) (hs : c.sym = 0) (h : (c.way = 1 ∧ c.now = 0) ∨ (c.way = 2 ∧ c.now = 15)) : ¬ Vld c := by
  rintro (h1 | ⟨R, K, T⟩)
  · have := h1.1; have := h1.2.1; omega
  · unfold TailF at T
    rw [if_pos hs] at T
    omega
theorem adj_len255 {x : List Nat} (hx : ∀ i, x.getD i 0 ≤ 255) : ∀ n i was, was ≤ 255 → (adj x n i was).length ≤ 511 * n
  | 0, _, _, _ => by simp [adj]
  | n + 1, i, was, hw => by
    have h1 := adj_len255 hx n (i + 1) (x.getD i 0) (hx i)
    have h2 := chg_length hw (hx i)
    rw [adj, List.length_append]
    omega
theorem by_getD {l : List Nat} (h : By l) (s : Nat) : l.getD s 0 ≤ 255 := by
  rw [List.getD_eq_getElem?_getD]
  rcases Nat.lt_or_ge s l.length with h1 | h1
  · rw [List.getElem?_eq_getElem h1]; have := h _ (List.getElem_mem h1); simp only [Option.getD_some]; omega
  · rw [List.getElem?_eq_none h1]; exact Nat.zero_le _
set_option maxHeartbeats 16000000 in
theorem ltvalid_tail {c : Ts} {m nw : Nat} {fr : Fr} (hG : Gs c) (c5 : ¬ (0 ≤ c.bits ∧ c.bits < 4)) (hm : c.sym = m) (hm2 : m ≤ 258) (hnw : c.now = nw) (hnw2 : nw ≤ 15) (h15 : ∀ s, s < m → c.l.getD s 0 ≤ 15) (hF : Fit hp.length L H)
    (hbits : ((c.bits ≥ 0) = False ∧ (0 : Int) = 0) ∨ ((c.bits ≥ 0) = True ∧ (c.bits < 4) = False))
    (f1 : Liter env lb19_2 [1, 3, 5] (hp.length + 2) [(1, .pointer (some ⟨hp.length, 0, some 0⟩)), (3, .pointer (some ⟨hp.length + 1, 0, some 0⟩)), (5, .int .i64 0)] ⟨hp ++ [.cells 0 true (tsC c), .cells 0 true (tsC z0)], L, H, []⟩ = some (.exit 2, fr, ⟨hp ++ [.cells 0 true (tsC c), .cells 0 true (tsC z0)], L, H, []⟩))
    (g1 : fr.get 1 = some (.pointer (some ⟨hp.length, 0, some 0⟩))) (g3 : fr.get 3 = some (.pointer (some ⟨hp.length + 1, 0, some 0⟩)))
    (ty : (tsC c)[258]? = some (.int .i64 m)) (tb : (tsC c)[259]? = some (.int .i64 c.bits)) (tn : (tsC c)[260]? = some (.int .i64 nw)) (tw : (tsC c)[261]? = some (.int .i64 c.way))
    (e1 : ¬ (nw : Int) < 0) (e2 : ¬ (nw : Int) > 15) (e3 : ¬ (m : Int) < 0) (e4 : ¬ (m : Int) > 258) :
    finX ac19.results ⟨hp, L, H, d⟩ (Lexec env ac19.code (argFr 0 [.agg (tsC c).toArray]) ⟨hp, L, H, []⟩) = some (.bool (decide (Vld c)), ⟨hp, L, H, d⟩) := by
  have hl := hG.len
  have lc := tsC_length hl
  have tc := tsC_take hl
  have hz := zs_length
  have lz : (tsC z0).length = 262 := tsC_length (c := z0) hz
  have z0q : u8s zs ++ [.int .i64 0, .int .i64 0, .int .i64 0, .int .i64 0] = tsC z0 := rfl
  have hc0 : (tsC c)[0]? = some (.int .u8 (c.l.getD 0 0 : Nat)) := by
    unfold tsC
    rw [List.getElem?_append_left (by rw [u8s_length]; omega), At258 (by omega), List.getD_eq_getElem?_getD, List.getElem?_eq_getElem (by omega)]; rfl
  have hg255 := by_getD hG.by_
  have y255 := hg255 0
  have hbit : (c.bits = 5) = (c.bits = 5) := rfl
  by_cases hE : c.sym = 0 ∧ ((c.way = 1 ∧ nw = 0) ∨ (c.way = 2 ∧ nw = 15))
  · rw [decide_eq_false (vld_first c5 hE.1 (by omega))]
    have m0 : (m : Int) = 0 := by omega
    rcases hE.2 with ⟨w1, rfl⟩ | ⟨w2, rfl⟩
    · rcases hbits with ⟨hbb, hb4⟩ | ⟨hbb, hb4⟩ <;> simp (disch := (first | omega | (simp only [lnE] <;> omega) | (refine Fit.mono ‹Fit _ _ _› ?_ <;> (simp only [lnE] <;> omega)) | (refine Fit.draw ‹Fit _ _ _› ?_ ?_ <;> (simp only [lnE] <;> omega)) | (refine Fit.hid1 ‹Fit _ _ _› ?_ ?_ <;> (simp only [lnE] <;> omega)) | (refine Fit.hidc1 ‹Fit _ _ _› ?_ ?_ <;> (simp only [lnE] <;> omega)) | (refine Fit.hidc2 ‹Fit _ _ _› ?_ ?_ ?_ <;> (simp only [lnE] <;> omega)) | (refine Fit.draw1 ‹Fit _ _ _› ?_ ?_ ?_ <;> (simp only [lnE] <;> omega)) | (refine Fit.range0 ?_ ?_ <;> (simp only [lnE] <;> omega)) | fail)) only [syA, syB, argFr, D, E, T, C, undefv, eqF, aeq, sheqs, sheq, rdCells, cellsOf, fill, putAt, if_true, if_false, reduceIte, ↓reduceIte, reduceCtorEq, eq_self, Nat.reduceEqDiff, Nat.reduceAdd, Nat.reduceSub, Nat.reduceMul, Nat.reduceLT, Nat.reduceLeDiff, Nat.reducePow, Nat.reduceDiv, Nat.reduceMod, Int.reduceLT, Int.reduceLE, Int.reduceGT, Int.reduceGE, Int.reduceToNat, Int.reducePow, Int.reduceNeg, Int.reduceBEq, Int.reduceBNe, Int.reduceEq, Int.reduceAdd, Int.reduceSub, Int.reduceMul, cellv, sc, flatv, refs, refsF, refsC, hF.not0, hF.not1, hF.up0, hF.up1, ac19, tsC_refs, tsC_cellv, tsC_sc, lc, tc, ty, tb, tn, tw, e1, e2, e3, e4, zs_eq, z0q, lz, f1, g1, g3, hc0, hbb, hb4, m0, w1]
    · rcases hbits with ⟨hbb, hb4⟩ | ⟨hbb, hb4⟩ <;> simp (disch := (first | omega | (simp only [lnE] <;> omega) | (refine Fit.mono ‹Fit _ _ _› ?_ <;> (simp only [lnE] <;> omega)) | (refine Fit.draw ‹Fit _ _ _› ?_ ?_ <;> (simp only [lnE] <;> omega)) | (refine Fit.hid1 ‹Fit _ _ _› ?_ ?_ <;> (simp only [lnE] <;> omega)) | (refine Fit.hidc1 ‹Fit _ _ _› ?_ ?_ <;> (simp only [lnE] <;> omega)) | (refine Fit.hidc2 ‹Fit _ _ _› ?_ ?_ ?_ <;> (simp only [lnE] <;> omega)) | (refine Fit.draw1 ‹Fit _ _ _› ?_ ?_ ?_ <;> (simp only [lnE] <;> omega)) | (refine Fit.range0 ?_ ?_ <;> (simp only [lnE] <;> omega)) | fail)) only [syA, syB, argFr, D, E, T, C, undefv, eqF, aeq, sheqs, sheq, rdCells, cellsOf, fill, putAt, if_true, if_false, reduceIte, ↓reduceIte, reduceCtorEq, eq_self, Nat.reduceEqDiff, Nat.reduceAdd, Nat.reduceSub, Nat.reduceMul, Nat.reduceLT, Nat.reduceLeDiff, Nat.reducePow, Nat.reduceDiv, Nat.reduceMod, Int.reduceLT, Int.reduceLE, Int.reduceGT, Int.reduceGE, Int.reduceToNat, Int.reducePow, Int.reduceNeg, Int.reduceBEq, Int.reduceBNe, Int.reduceEq, Int.reduceAdd, Int.reduceSub, Int.reduceMul, cellv, sc, flatv, refs, refsF, refsC, hF.not0, hF.not1, hF.up0, hF.up1, ac19, tsC_refs, tsC_cellv, tsC_sc, lc, tc, ty, tb, tn, tw, e1, e2, e3, e4, zs_eq, z0q, lz, f1, g1, g3, hc0, hbb, hb4, m0, w2]
  obtain ⟨f, hf, hf15⟩ : ∃ f : Nat, firstF c = f ∧ f ≤ 15 := by
    have : 0 ≤ firstF c ∧ firstF c ≤ 15 := by
      unfold firstF
      split
      · split
        · omega
        · split <;> omega
      · have := h15 0 (by omega)
        omega
    exact ⟨(firstF c).toNat, by omega, by omega⟩
  have hcase : ((m : Int) = 0 ∧ c.way = 1 ∧ (0 : Int) = 0 ∧ f + 1 = nw) ∨ ((m : Int) = 0 ∧ c.way = 2 ∧ (0 : Int) = 0 ∧ f = nw + 1) ∨ ((m : Int) = 0 ∧ ¬ c.way = 1 ∧ ¬ c.way = 2 ∧ f = nw) ∨ (¬ (m : Int) = 0 ∧ (0 : Int) = 0 ∧ (0 : Int) = 0 ∧ f = c.l.getD 0 0) := by
    unfold firstF at hf
    split at hf
    · split at hf
      · left; omega
      · split at hf
        · right; left; omega
        · right; right; left; omega
    · right; right; right; omega
  have b1 : f + 1 = nw → (nw : Int) - 1 = (f : Int) := fun h => by omega
  have b2 : f = nw + 1 → (nw : Int) + 1 = (f : Int) := fun h => by omega
  have f0' : ¬ (f : Int) < 0 := by omega
  have f15' : ¬ (f : Int) > 15 := by omega
  have q8 : (f : Int).tdiv 8 = (f / 8 : Nat) := by rw [tdiv_pos (by omega)]; omega
  have q4 : (f : Int).tdiv 4 = (f / 4 : Nat) := by rw [tdiv_pos (by omega)]; omega
  have q2 := td2 f
  have r8 := tm2 (f / 8)
  have r4 := tm2 (f / 4)
  have r2 := tm2 (f / 2)
  have r1 := tm2 f
  have sm4 : small 4 = true := rfl
  have sm1' : small 1 = true := rfl
  have h4 : is (f4 f 4) = [.int .i64 (f / 8 % 2 : Nat), .int .i64 (f / 4 % 2 : Nat), .int .i64 (f / 2 % 2 : Nat), .int .i64 (f % 2 : Nat)] := by simp [f4, is, List.range_succ]
  obtain ⟨fr2, g2, k1, k2, k3, k4, k5⟩ := build_loop (hp := hp) (L := L) (H := H) (Ob := .cells 0 true (tsC z0)) hG hm hm2 h15 hF m 0 f 0 (f4 f 4) (by omega) hf15 (by rw [f4_length]; omega)
  rw [h4, f4_length] at k1
  simp only [Int.natCast_zero] at k1
  have hpath : pathF c = f4 f 4 ++ adj c.l m 0 f ++ (if c.sym < 258 then mv (lastW c.l f 0 m) nw else []) ++ (if c.bits = 5 then [1] else []) := by
    unfold pathF wasF
    rw [hf, hm, hnw]
    simp only [Int.toNat_natCast]
  have hRl := adj_len255 hg255 m 0 f (by omega)
  have hRR : (f4 f 4 ++ adj c.l m 0 f).length ≤ 140000 := by rw [List.length_append, f4_length]; omega
  have hRb : Bits (f4 f 4 ++ adj c.l m 0 f) := (f4_bits _ _).append (adj_bits _ _ _ _)
  have hlw : lastW c.l f 0 m ≤ 15 := by
    cases m with
    | zero => exact hf15
    | succ k => simp only [lastW]; exact h15 _ (by omega)
  have hvp := vld_path hl c5
  have hPb := pathF_bits c
  have hz2 : ∀ (A : List Nat), Bits A → ∀ o, trail z0 A = some o → o.l.length = 258 := fun A hA o h => (trail_come hA come0 h).len
  generalize hlwe : lastW c.l f 0 m = lw at *
  generalize f4 f 4 ++ adj c.l m 0 f = RR at *
  clear hf h4 hRl
  by_cases h5 : c.bits = 5
  · by_cases hm258 : m = 258
    · have l258 : ¬ (m : Int) < 258 := by omega
      rw [if_neg (by omega), List.append_nil] at hpath
      rw [if_pos h5] at hpath
      have hap5 := append_isg (hp := hp ++ [.cells 0 true (tsC c), .cells 0 true (tsC z0), .cells g2 true (is RR), .cells 0 true (is [1])]) (L := L) (H := H) (d := []) (b := hp.length + 2) (g := g2) (l := RR) (m := [1]) (by rw [get_new]; rfl) (by have := hF.1; omega) (hF.not1 2) (by simp) (by simp; omega)
      have is1 : is [1] = [.int .i64 1] := rfl
      rw [set_new] at hap5
      simp only [is1, List.set_cons_succ, List.set_cons_zero, List.length_append, List.length_cons, List.length_nil, Nat.zero_add] at hap5
      have hlen : (RR ++ [1]).length = (RR.length + 1) := by simp only [List.length_append, List.length_cons, List.length_nil, Nat.zero_add]
      obtain ⟨ex, fr3, st, j1, j2⟩ := run_loop (hp := hp) (L := L) (H := H) (A := (RR ++ [1])) (g := (RR.length + 1)) (Cb := .cells 0 true (tsC c)) (rest := [Blk.cells (RR.length + 1) true (is (RR ++ [1])), .cells 0 true [.int .i64 1]]) (by rw [← hpath]; exact hPb) rfl (by rw [hlen]; omega) hF (RR ++ [1]).length 0 z0 (by omega) come0
      rw [List.drop_zero, ← hpath] at j2
      rw [hlen] at j1
      simp only [List.length_cons, List.length_nil, Nat.zero_add, Nat.reduceAdd, Int.natCast_zero] at j1
      rcases j2 with ⟨fin, t1, rfl, rfl, t2, t3, t4⟩ | ⟨t1, rfl, t2, nn, rfl⟩
      · have hd : decide (Vld c) = decide (fin = c) := by rw [decide_eq_decide, hvp, t1]; simp
        have q := tsC_eq t2 hl
        rw [hd]
        rcases hbits with ⟨hbb, hb4⟩ | ⟨hbb, hb4⟩ <;> rcases hcase with ⟨a1, a2, a3, a4⟩ | ⟨a1, a2, a3, a4⟩ | ⟨a1, a2, a3, rfl⟩ | ⟨a1, a2, a3, rfl⟩ <;> first | omega | (simp (disch := (first | omega | (simp only [lnE] <;> omega) | (refine Fit.mono ‹Fit _ _ _› ?_ <;> (simp only [lnE] <;> omega)) | (refine Fit.draw ‹Fit _ _ _› ?_ ?_ <;> (simp only [lnE] <;> omega)) | (refine Fit.hid1 ‹Fit _ _ _› ?_ ?_ <;> (simp only [lnE] <;> omega)) | (refine Fit.hidc1 ‹Fit _ _ _› ?_ ?_ <;> (simp only [lnE] <;> omega)) | (refine Fit.hidc2 ‹Fit _ _ _› ?_ ?_ ?_ <;> (simp only [lnE] <;> omega)) | (refine Fit.draw1 ‹Fit _ _ _› ?_ ?_ ?_ <;> (simp only [lnE] <;> omega)) | (refine Fit.range0 ?_ ?_ <;> (simp only [lnE] <;> omega)) | fail)) only [syA, syB, argFr, D, E, T, C, undefv, eqF, aeq, sheqs, sheq, rdCells, cellsOf, fill, putAt, if_true, if_false, reduceIte, ↓reduceIte, reduceCtorEq, eq_self, Nat.reduceEqDiff, Nat.reduceAdd, Nat.reduceSub, Nat.reduceMul, Nat.reduceLT, Nat.reduceLeDiff, Nat.reducePow, Nat.reduceDiv, Nat.reduceMod, Int.reduceLT, Int.reduceLE, Int.reduceGT, Int.reduceGE, Int.reduceToNat, Int.reducePow, Int.reduceNeg, Int.reduceBEq, Int.reduceBNe, Int.reduceEq, Int.reduceAdd, Int.reduceSub, Int.reduceMul, cellv, sc, flatv, refs, refsF, refsC, hF.not0, hF.not1, hF.up0, hF.up1, ac19, tsC_refs, tsC_cellv, tsC_sc, lc, tc, ty, tb, tn, tw, e1, e2, e3, e4, zs_eq, z0q, lz, f1, g1, g3, hc0, f0', f15', q8, q4, q2, r8, r4, r2, r1, sm4, sm1', b1, b2, k1, k2, k3, k4, k5, l258, h5, hap5, j1, t3, t4, q, tsC_take t2, tsC_length t2, hbb, hb4, a1, a2, a3])
      · have hd : decide (Vld c) = false := by rw [decide_eq_false_iff_not, hvp, t1]; simp
        rw [hd]
        rcases hbits with ⟨hbb, hb4⟩ | ⟨hbb, hb4⟩ <;> rcases hcase with ⟨a1, a2, a3, a4⟩ | ⟨a1, a2, a3, a4⟩ | ⟨a1, a2, a3, rfl⟩ | ⟨a1, a2, a3, rfl⟩ <;> first | omega | (simp (disch := (first | omega | (simp only [lnE] <;> omega) | (refine Fit.mono ‹Fit _ _ _› ?_ <;> (simp only [lnE] <;> omega)) | (refine Fit.draw ‹Fit _ _ _› ?_ ?_ <;> (simp only [lnE] <;> omega)) | (refine Fit.hid1 ‹Fit _ _ _› ?_ ?_ <;> (simp only [lnE] <;> omega)) | (refine Fit.hidc1 ‹Fit _ _ _› ?_ ?_ <;> (simp only [lnE] <;> omega)) | (refine Fit.hidc2 ‹Fit _ _ _› ?_ ?_ ?_ <;> (simp only [lnE] <;> omega)) | (refine Fit.draw1 ‹Fit _ _ _› ?_ ?_ ?_ <;> (simp only [lnE] <;> omega)) | (refine Fit.range0 ?_ ?_ <;> (simp only [lnE] <;> omega)) | fail)) only [syA, syB, argFr, D, E, T, C, undefv, eqF, aeq, sheqs, sheq, rdCells, cellsOf, fill, putAt, if_true, if_false, reduceIte, ↓reduceIte, reduceCtorEq, eq_self, Nat.reduceEqDiff, Nat.reduceAdd, Nat.reduceSub, Nat.reduceMul, Nat.reduceLT, Nat.reduceLeDiff, Nat.reducePow, Nat.reduceDiv, Nat.reduceMod, Int.reduceLT, Int.reduceLE, Int.reduceGT, Int.reduceGE, Int.reduceToNat, Int.reducePow, Int.reduceNeg, Int.reduceBEq, Int.reduceBNe, Int.reduceEq, Int.reduceAdd, Int.reduceSub, Int.reduceMul, cellv, sc, flatv, refs, refsF, refsC, hF.not0, hF.not1, hF.up0, hF.up1, ac19, tsC_refs, tsC_cellv, tsC_sc, lc, tc, ty, tb, tn, tw, e1, e2, e3, e4, zs_eq, z0q, lz, f1, g1, g3, hc0, f0', f15', q8, q4, q2, r8, r4, r2, r1, sm4, sm1', b1, b2, k1, k2, k3, k4, k5, l258, h5, hap5, j1, t2, hbb, hb4, a1, a2, a3])
    · by_cases hme : (mv lw nw).length = 0
      · have l258 : (m : Int) < 258 := by omega
        have hPt := fun d => ltput_walk (d := d) (hp := hp ++ [Blk.cells 0 true (tsC c), Blk.cells 0 true (tsC z0), Blk.cells g2 true (is RR)]) (L := L) (H := H) (was := lw) (now := nw) (by omega) (by omega) (hF.mono (by simp))
        have hcl : (chg lw nw).length = (mv lw nw).length + 1 := by rw [chg_mv, List.length_append]; rfl
        simp only [List.length_append, List.length_cons, List.length_nil, Nat.zero_add, Nat.reduceAdd, List.append_assoc, List.cons_append, List.nil_append, hcl] at hPt
        have hmvl := chg_length (was := lw) (now := nw) (by omega) (by omega)
        have hci : (is (chg lw nw)).length = (mv lw nw).length + 1 := by rw [is_length, hcl]
        have hct : (is (chg lw nw)).take (mv lw nw).length = is (mv lw nw) := by rw [chg_mv]; unfold is; rw [List.map_append, List.take_append_of_le_length (by simp), List.take_of_length_le (by simp)]
        have hsub : (((mv lw nw).length + 1 : Nat) : Int) - 1 = ((mv lw nw).length : Nat) := by omega
        have hle1 : ((mv lw nw).length ≤ (mv lw nw).length + 1) = True := eq_true (by omega)
        have hle2 : (((mv lw nw).length : Int) ≤ ((mv lw nw).length + 1 : Nat)) = True := eq_true (by omega)
        have hle3 : (((mv lw nw).length : Int) ≤ ((mv lw nw).length : Int) + 1) = True := eq_true (by omega)
        have hsub2 : ((mv lw nw).length : Int) + 1 - 1 = ((mv lw nw).length : Nat) := by omega
        have hmb := mv_bits lw nw
        rw [if_pos (by omega)] at hpath
        have hnn : (0 : Int) ≤ ((mv lw nw).length : Nat) := by omega
        have hmv0 : mv lw nw = [] := List.eq_nil_of_length_eq_zero hme
        rw [hmv0, List.append_nil] at hpath
        have h00 : (mv lw nw).length = 0 := hme
        rw [h00] at hPt hci hct hsub hsub2 hle1 hle2 hle3 hnn hcl
        rw [if_pos h5] at hpath
        have hap5 := append_isg (hp := hp ++ [.cells 0 true (tsC c), .cells 0 true (tsC z0), .cells g2 true (is RR), .cells (0 + 1) true (is (chg lw nw)), .cells 0 true (is [1])]) (L := L) (H := H) (d := []) (b := hp.length + 2) (g := g2) (l := RR) (m := [1]) (by rw [get_new]; rfl) (by have := hF.1; omega) (hF.not1 2) (by simp) (by simp; omega)
        have is1 : is [1] = [.int .i64 1] := rfl
        rw [set_new] at hap5
        simp only [is1, List.set_cons_succ, List.set_cons_zero, List.length_append, List.length_cons, List.length_nil, Nat.zero_add] at hap5
        have hlen : (RR ++ [1]).length = (RR.length + 1) := by simp only [List.length_append, List.length_cons, List.length_nil, Nat.zero_add]
        obtain ⟨ex, fr3, st, j1, j2⟩ := run_loop (hp := hp) (L := L) (H := H) (A := (RR ++ [1])) (g := (RR.length + 1)) (Cb := .cells 0 true (tsC c)) (rest := [Blk.cells (RR.length + 1) true (is (RR ++ [1])), .cells (0 + 1) true (is (chg lw nw)), .cells 0 true [.int .i64 1]]) (by rw [← hpath]; exact hPb) rfl (by rw [hlen]; omega) hF (RR ++ [1]).length 0 z0 (by omega) come0
        rw [List.drop_zero, ← hpath] at j2
        rw [hlen] at j1
        simp only [List.length_cons, List.length_nil, Nat.zero_add, Nat.reduceAdd, Int.natCast_zero] at j1
        rcases j2 with ⟨fin, t1, rfl, rfl, t2, t3, t4⟩ | ⟨t1, rfl, t2, nn, rfl⟩
        · have hd : decide (Vld c) = decide (fin = c) := by rw [decide_eq_decide, hvp, t1]; simp
          have q := tsC_eq t2 hl
          rw [hd]
          rcases hbits with ⟨hbb, hb4⟩ | ⟨hbb, hb4⟩ <;> rcases hcase with ⟨a1, a2, a3, a4⟩ | ⟨a1, a2, a3, a4⟩ | ⟨a1, a2, a3, rfl⟩ | ⟨a1, a2, a3, rfl⟩ <;> simp (disch := (first | omega | (simp only [lnE] <;> omega) | (refine Fit.mono ‹Fit _ _ _› ?_ <;> (simp only [lnE] <;> omega)) | (refine Fit.draw ‹Fit _ _ _› ?_ ?_ <;> (simp only [lnE] <;> omega)) | (refine Fit.hid1 ‹Fit _ _ _› ?_ ?_ <;> (simp only [lnE] <;> omega)) | (refine Fit.hidc1 ‹Fit _ _ _› ?_ ?_ <;> (simp only [lnE] <;> omega)) | (refine Fit.hidc2 ‹Fit _ _ _› ?_ ?_ ?_ <;> (simp only [lnE] <;> omega)) | (refine Fit.draw1 ‹Fit _ _ _› ?_ ?_ ?_ <;> (simp only [lnE] <;> omega)) | (refine Fit.range0 ?_ ?_ <;> (simp only [lnE] <;> omega)) | fail)) only [syA, syB, argFr, D, E, T, C, undefv, eqF, aeq, sheqs, sheq, rdCells, cellsOf, fill, putAt, if_true, if_false, reduceIte, ↓reduceIte, reduceCtorEq, eq_self, Nat.reduceEqDiff, Nat.reduceAdd, Nat.reduceSub, Nat.reduceMul, Nat.reduceLT, Nat.reduceLeDiff, Nat.reducePow, Nat.reduceDiv, Nat.reduceMod, Int.reduceLT, Int.reduceLE, Int.reduceGT, Int.reduceGE, Int.reduceToNat, Int.reducePow, Int.reduceNeg, Int.reduceBEq, Int.reduceBNe, Int.reduceEq, Int.reduceAdd, Int.reduceSub, Int.reduceMul, cellv, sc, flatv, refs, refsF, refsC, hF.not0, hF.not1, hF.up0, hF.up1, ac19, tsC_refs, tsC_cellv, tsC_sc, lc, tc, ty, tb, tn, tw, e1, e2, e3, e4, zs_eq, z0q, lz, f1, g1, g3, hc0, f0', f15', q8, q4, q2, r8, r4, r2, r1, sm4, sm1', b1, b2, k1, k2, k3, k4, k5, l258, hPt, hci, hct, hsub, hsub2, hle1, hle2, hle3, hnn, append_zero, h00, h5, hap5, j1, t3, t4, q, tsC_take t2, tsC_length t2, hbb, hb4, a1, a2, a3]
        · have hd : decide (Vld c) = false := by rw [decide_eq_false_iff_not, hvp, t1]; simp
          rw [hd]
          rcases hbits with ⟨hbb, hb4⟩ | ⟨hbb, hb4⟩ <;> rcases hcase with ⟨a1, a2, a3, a4⟩ | ⟨a1, a2, a3, a4⟩ | ⟨a1, a2, a3, rfl⟩ | ⟨a1, a2, a3, rfl⟩ <;> simp (disch := (first | omega | (simp only [lnE] <;> omega) | (refine Fit.mono ‹Fit _ _ _› ?_ <;> (simp only [lnE] <;> omega)) | (refine Fit.draw ‹Fit _ _ _› ?_ ?_ <;> (simp only [lnE] <;> omega)) | (refine Fit.hid1 ‹Fit _ _ _› ?_ ?_ <;> (simp only [lnE] <;> omega)) | (refine Fit.hidc1 ‹Fit _ _ _› ?_ ?_ <;> (simp only [lnE] <;> omega)) | (refine Fit.hidc2 ‹Fit _ _ _› ?_ ?_ ?_ <;> (simp only [lnE] <;> omega)) | (refine Fit.draw1 ‹Fit _ _ _› ?_ ?_ ?_ <;> (simp only [lnE] <;> omega)) | (refine Fit.range0 ?_ ?_ <;> (simp only [lnE] <;> omega)) | fail)) only [syA, syB, argFr, D, E, T, C, undefv, eqF, aeq, sheqs, sheq, rdCells, cellsOf, fill, putAt, if_true, if_false, reduceIte, ↓reduceIte, reduceCtorEq, eq_self, Nat.reduceEqDiff, Nat.reduceAdd, Nat.reduceSub, Nat.reduceMul, Nat.reduceLT, Nat.reduceLeDiff, Nat.reducePow, Nat.reduceDiv, Nat.reduceMod, Int.reduceLT, Int.reduceLE, Int.reduceGT, Int.reduceGE, Int.reduceToNat, Int.reducePow, Int.reduceNeg, Int.reduceBEq, Int.reduceBNe, Int.reduceEq, Int.reduceAdd, Int.reduceSub, Int.reduceMul, cellv, sc, flatv, refs, refsF, refsC, hF.not0, hF.not1, hF.up0, hF.up1, ac19, tsC_refs, tsC_cellv, tsC_sc, lc, tc, ty, tb, tn, tw, e1, e2, e3, e4, zs_eq, z0q, lz, f1, g1, g3, hc0, f0', f15', q8, q4, q2, r8, r4, r2, r1, sm4, sm1', b1, b2, k1, k2, k3, k4, k5, l258, hPt, hci, hct, hsub, hsub2, hle1, hle2, hle3, hnn, append_zero, h00, h5, hap5, j1, t2, hbb, hb4, a1, a2, a3]
      · have l258 : (m : Int) < 258 := by omega
        have hPt := fun d => ltput_walk (d := d) (hp := hp ++ [Blk.cells 0 true (tsC c), Blk.cells 0 true (tsC z0), Blk.cells g2 true (is RR)]) (L := L) (H := H) (was := lw) (now := nw) (by omega) (by omega) (hF.mono (by simp))
        have hcl : (chg lw nw).length = (mv lw nw).length + 1 := by rw [chg_mv, List.length_append]; rfl
        simp only [List.length_append, List.length_cons, List.length_nil, Nat.zero_add, Nat.reduceAdd, List.append_assoc, List.cons_append, List.nil_append, hcl] at hPt
        have hmvl := chg_length (was := lw) (now := nw) (by omega) (by omega)
        have hci : (is (chg lw nw)).length = (mv lw nw).length + 1 := by rw [is_length, hcl]
        have hct : (is (chg lw nw)).take (mv lw nw).length = is (mv lw nw) := by rw [chg_mv]; unfold is; rw [List.map_append, List.take_append_of_le_length (by simp), List.take_of_length_le (by simp)]
        have hsub : (((mv lw nw).length + 1 : Nat) : Int) - 1 = ((mv lw nw).length : Nat) := by omega
        have hle1 : ((mv lw nw).length ≤ (mv lw nw).length + 1) = True := eq_true (by omega)
        have hle2 : (((mv lw nw).length : Int) ≤ ((mv lw nw).length + 1 : Nat)) = True := eq_true (by omega)
        have hle3 : (((mv lw nw).length : Int) ≤ ((mv lw nw).length : Int) + 1) = True := eq_true (by omega)
        have hsub2 : ((mv lw nw).length : Int) + 1 - 1 = ((mv lw nw).length : Nat) := by omega
        have hmb := mv_bits lw nw
        rw [if_pos (by omega)] at hpath
        have hnn : (0 : Int) ≤ ((mv lw nw).length : Nat) := by omega
        have happ := append_isg (hp := hp ++ [.cells 0 true (tsC c), .cells 0 true (tsC z0), .cells g2 true (is RR), .cells ((mv lw nw).length + 1) true (is (chg lw nw))]) (L := L) (H := H) (d := []) (b := hp.length + 2) (g := g2) (l := RR) (m := mv lw nw) (by rw [get_new]; rfl) (by have := hF.1; omega) (hF.not1 2) hme (by omega)
        rw [set_new] at happ
        simp only [List.set_cons_succ, List.set_cons_zero] at happ
        rw [if_pos h5] at hpath
        have hap5 := append_isg (hp := hp ++ [.cells 0 true (tsC c), .cells 0 true (tsC z0), .cells (RR.length + (mv lw nw).length) true (is (RR ++ mv lw nw)), .cells ((mv lw nw).length + 1) true (is (chg lw nw)), .cells 0 true (is [1])]) (L := L) (H := H) (d := []) (b := hp.length + 2) (g := (RR.length + (mv lw nw).length)) (l := (RR ++ mv lw nw)) (m := [1]) (by rw [get_new]; rfl) (by have := hF.1; omega) (hF.not1 2) (by simp) (by simp; omega)
        have is1 : is [1] = [.int .i64 1] := rfl
        rw [set_new] at hap5
        simp only [is1, List.set_cons_succ, List.set_cons_zero, List.length_append, List.length_cons, List.length_nil, Nat.zero_add] at hap5
        have hlen : ((RR ++ mv lw nw) ++ [1]).length = ((RR.length + (mv lw nw).length) + 1) := by simp only [List.length_append, List.length_cons, List.length_nil, Nat.zero_add]
        obtain ⟨ex, fr3, st, j1, j2⟩ := run_loop (hp := hp) (L := L) (H := H) (A := ((RR ++ mv lw nw) ++ [1])) (g := ((RR.length + (mv lw nw).length) + 1)) (Cb := .cells 0 true (tsC c)) (rest := [Blk.cells ((RR.length + (mv lw nw).length) + 1) true (is ((RR ++ mv lw nw) ++ [1])), .cells ((mv lw nw).length + 1) true (is (chg lw nw)), .cells 0 true [.int .i64 1]]) (by rw [← hpath]; exact hPb) rfl (by rw [hlen]; omega) hF ((RR ++ mv lw nw) ++ [1]).length 0 z0 (by omega) come0
        rw [List.drop_zero, ← hpath] at j2
        rw [hlen] at j1
        simp only [List.length_cons, List.length_nil, Nat.zero_add, Nat.reduceAdd, Int.natCast_zero] at j1
        simp only [List.append_assoc] at j1
        rcases j2 with ⟨fin, t1, rfl, rfl, t2, t3, t4⟩ | ⟨t1, rfl, t2, nn, rfl⟩
        · have hd : decide (Vld c) = decide (fin = c) := by rw [decide_eq_decide, hvp, t1]; simp
          have q := tsC_eq t2 hl
          rw [hd]
          rcases hbits with ⟨hbb, hb4⟩ | ⟨hbb, hb4⟩ <;> rcases hcase with ⟨a1, a2, a3, a4⟩ | ⟨a1, a2, a3, a4⟩ | ⟨a1, a2, a3, rfl⟩ | ⟨a1, a2, a3, rfl⟩ <;> simp (disch := (first | omega | (simp only [lnE] <;> omega) | (refine Fit.mono ‹Fit _ _ _› ?_ <;> (simp only [lnE] <;> omega)) | (refine Fit.draw ‹Fit _ _ _› ?_ ?_ <;> (simp only [lnE] <;> omega)) | (refine Fit.hid1 ‹Fit _ _ _› ?_ ?_ <;> (simp only [lnE] <;> omega)) | (refine Fit.hidc1 ‹Fit _ _ _› ?_ ?_ <;> (simp only [lnE] <;> omega)) | (refine Fit.hidc2 ‹Fit _ _ _› ?_ ?_ ?_ <;> (simp only [lnE] <;> omega)) | (refine Fit.draw1 ‹Fit _ _ _› ?_ ?_ ?_ <;> (simp only [lnE] <;> omega)) | (refine Fit.range0 ?_ ?_ <;> (simp only [lnE] <;> omega)) | fail)) only [syA, syB, argFr, D, E, T, C, undefv, eqF, aeq, sheqs, sheq, rdCells, cellsOf, fill, putAt, if_true, if_false, reduceIte, ↓reduceIte, reduceCtorEq, eq_self, Nat.reduceEqDiff, Nat.reduceAdd, Nat.reduceSub, Nat.reduceMul, Nat.reduceLT, Nat.reduceLeDiff, Nat.reducePow, Nat.reduceDiv, Nat.reduceMod, Int.reduceLT, Int.reduceLE, Int.reduceGT, Int.reduceGE, Int.reduceToNat, Int.reducePow, Int.reduceNeg, Int.reduceBEq, Int.reduceBNe, Int.reduceEq, Int.reduceAdd, Int.reduceSub, Int.reduceMul, cellv, sc, flatv, refs, refsF, refsC, hF.not0, hF.not1, hF.up0, hF.up1, ac19, tsC_refs, tsC_cellv, tsC_sc, lc, tc, ty, tb, tn, tw, e1, e2, e3, e4, zs_eq, z0q, lz, f1, g1, g3, hc0, f0', f15', q8, q4, q2, r8, r4, r2, r1, sm4, sm1', b1, b2, k1, k2, k3, k4, k5, l258, hPt, hci, hct, hsub, hsub2, hle1, hle2, hle3, hnn, happ, h5, hap5, j1, t3, t4, q, tsC_take t2, tsC_length t2, hbb, hb4, a1, a2, a3]
        · have hd : decide (Vld c) = false := by rw [decide_eq_false_iff_not, hvp, t1]; simp
          rw [hd]
          rcases hbits with ⟨hbb, hb4⟩ | ⟨hbb, hb4⟩ <;> rcases hcase with ⟨a1, a2, a3, a4⟩ | ⟨a1, a2, a3, a4⟩ | ⟨a1, a2, a3, rfl⟩ | ⟨a1, a2, a3, rfl⟩ <;> simp (disch := (first | omega | (simp only [lnE] <;> omega) | (refine Fit.mono ‹Fit _ _ _› ?_ <;> (simp only [lnE] <;> omega)) | (refine Fit.draw ‹Fit _ _ _› ?_ ?_ <;> (simp only [lnE] <;> omega)) | (refine Fit.hid1 ‹Fit _ _ _› ?_ ?_ <;> (simp only [lnE] <;> omega)) | (refine Fit.hidc1 ‹Fit _ _ _› ?_ ?_ <;> (simp only [lnE] <;> omega)) | (refine Fit.hidc2 ‹Fit _ _ _› ?_ ?_ ?_ <;> (simp only [lnE] <;> omega)) | (refine Fit.draw1 ‹Fit _ _ _› ?_ ?_ ?_ <;> (simp only [lnE] <;> omega)) | (refine Fit.range0 ?_ ?_ <;> (simp only [lnE] <;> omega)) | fail)) only [syA, syB, argFr, D, E, T, C, undefv, eqF, aeq, sheqs, sheq, rdCells, cellsOf, fill, putAt, if_true, if_false, reduceIte, ↓reduceIte, reduceCtorEq, eq_self, Nat.reduceEqDiff, Nat.reduceAdd, Nat.reduceSub, Nat.reduceMul, Nat.reduceLT, Nat.reduceLeDiff, Nat.reducePow, Nat.reduceDiv, Nat.reduceMod, Int.reduceLT, Int.reduceLE, Int.reduceGT, Int.reduceGE, Int.reduceToNat, Int.reducePow, Int.reduceNeg, Int.reduceBEq, Int.reduceBNe, Int.reduceEq, Int.reduceAdd, Int.reduceSub, Int.reduceMul, cellv, sc, flatv, refs, refsF, refsC, hF.not0, hF.not1, hF.up0, hF.up1, ac19, tsC_refs, tsC_cellv, tsC_sc, lc, tc, ty, tb, tn, tw, e1, e2, e3, e4, zs_eq, z0q, lz, f1, g1, g3, hc0, f0', f15', q8, q4, q2, r8, r4, r2, r1, sm4, sm1', b1, b2, k1, k2, k3, k4, k5, l258, hPt, hci, hct, hsub, hsub2, hle1, hle2, hle3, hnn, happ, h5, hap5, j1, t2, hbb, hb4, a1, a2, a3]
  · by_cases hm258 : m = 258
    · have l258 : ¬ (m : Int) < 258 := by omega
      rw [if_neg (by omega), List.append_nil] at hpath
      rw [if_neg h5, List.append_nil] at hpath
      have hlen : RR.length = RR.length := rfl
      obtain ⟨ex, fr3, st, j1, j2⟩ := run_loop (hp := hp) (L := L) (H := H) (A := RR) (g := g2) (Cb := .cells 0 true (tsC c)) (rest := [Blk.cells g2 true (is RR)]) (by rw [← hpath]; exact hPb) rfl (by rw [hlen]; omega) hF RR.length 0 z0 (by omega) come0
      rw [List.drop_zero, ← hpath] at j2
      rw [hlen] at j1
      simp only [List.length_cons, List.length_nil, Nat.zero_add, Nat.reduceAdd, Int.natCast_zero] at j1
      rcases j2 with ⟨fin, t1, rfl, rfl, t2, t3, t4⟩ | ⟨t1, rfl, t2, nn, rfl⟩
      · have hd : decide (Vld c) = decide (fin = c) := by rw [decide_eq_decide, hvp, t1]; simp
        have q := tsC_eq t2 hl
        rw [hd]
        rcases hbits with ⟨hbb, hb4⟩ | ⟨hbb, hb4⟩ <;> rcases hcase with ⟨a1, a2, a3, a4⟩ | ⟨a1, a2, a3, a4⟩ | ⟨a1, a2, a3, rfl⟩ | ⟨a1, a2, a3, rfl⟩ <;> first | omega | (simp (disch := (first | omega | (simp only [lnE] <;> omega) | (refine Fit.mono ‹Fit _ _ _› ?_ <;> (simp only [lnE] <;> omega)) | (refine Fit.draw ‹Fit _ _ _› ?_ ?_ <;> (simp only [lnE] <;> omega)) | (refine Fit.hid1 ‹Fit _ _ _› ?_ ?_ <;> (simp only [lnE] <;> omega)) | (refine Fit.hidc1 ‹Fit _ _ _› ?_ ?_ <;> (simp only [lnE] <;> omega)) | (refine Fit.hidc2 ‹Fit _ _ _› ?_ ?_ ?_ <;> (simp only [lnE] <;> omega)) | (refine Fit.draw1 ‹Fit _ _ _› ?_ ?_ ?_ <;> (simp only [lnE] <;> omega)) | (refine Fit.range0 ?_ ?_ <;> (simp only [lnE] <;> omega)) | fail)) only [syA, syB, argFr, D, E, T, C, undefv, eqF, aeq, sheqs, sheq, rdCells, cellsOf, fill, putAt, if_true, if_false, reduceIte, ↓reduceIte, reduceCtorEq, eq_self, Nat.reduceEqDiff, Nat.reduceAdd, Nat.reduceSub, Nat.reduceMul, Nat.reduceLT, Nat.reduceLeDiff, Nat.reducePow, Nat.reduceDiv, Nat.reduceMod, Int.reduceLT, Int.reduceLE, Int.reduceGT, Int.reduceGE, Int.reduceToNat, Int.reducePow, Int.reduceNeg, Int.reduceBEq, Int.reduceBNe, Int.reduceEq, Int.reduceAdd, Int.reduceSub, Int.reduceMul, cellv, sc, flatv, refs, refsF, refsC, hF.not0, hF.not1, hF.up0, hF.up1, ac19, tsC_refs, tsC_cellv, tsC_sc, lc, tc, ty, tb, tn, tw, e1, e2, e3, e4, zs_eq, z0q, lz, f1, g1, g3, hc0, f0', f15', q8, q4, q2, r8, r4, r2, r1, sm4, sm1', b1, b2, k1, k2, k3, k4, k5, l258, h5, j1, t3, t4, q, tsC_take t2, tsC_length t2, hbb, hb4, a1, a2, a3])
      · have hd : decide (Vld c) = false := by rw [decide_eq_false_iff_not, hvp, t1]; simp
        rw [hd]
        rcases hbits with ⟨hbb, hb4⟩ | ⟨hbb, hb4⟩ <;> rcases hcase with ⟨a1, a2, a3, a4⟩ | ⟨a1, a2, a3, a4⟩ | ⟨a1, a2, a3, rfl⟩ | ⟨a1, a2, a3, rfl⟩ <;> first | omega | (simp (disch := (first | omega | (simp only [lnE] <;> omega) | (refine Fit.mono ‹Fit _ _ _› ?_ <;> (simp only [lnE] <;> omega)) | (refine Fit.draw ‹Fit _ _ _› ?_ ?_ <;> (simp only [lnE] <;> omega)) | (refine Fit.hid1 ‹Fit _ _ _› ?_ ?_ <;> (simp only [lnE] <;> omega)) | (refine Fit.hidc1 ‹Fit _ _ _› ?_ ?_ <;> (simp only [lnE] <;> omega)) | (refine Fit.hidc2 ‹Fit _ _ _› ?_ ?_ ?_ <;> (simp only [lnE] <;> omega)) | (refine Fit.draw1 ‹Fit _ _ _› ?_ ?_ ?_ <;> (simp only [lnE] <;> omega)) | (refine Fit.range0 ?_ ?_ <;> (simp only [lnE] <;> omega)) | fail)) only [syA, syB, argFr, D, E, T, C, undefv, eqF, aeq, sheqs, sheq, rdCells, cellsOf, fill, putAt, if_true, if_false, reduceIte, ↓reduceIte, reduceCtorEq, eq_self, Nat.reduceEqDiff, Nat.reduceAdd, Nat.reduceSub, Nat.reduceMul, Nat.reduceLT, Nat.reduceLeDiff, Nat.reducePow, Nat.reduceDiv, Nat.reduceMod, Int.reduceLT, Int.reduceLE, Int.reduceGT, Int.reduceGE, Int.reduceToNat, Int.reducePow, Int.reduceNeg, Int.reduceBEq, Int.reduceBNe, Int.reduceEq, Int.reduceAdd, Int.reduceSub, Int.reduceMul, cellv, sc, flatv, refs, refsF, refsC, hF.not0, hF.not1, hF.up0, hF.up1, ac19, tsC_refs, tsC_cellv, tsC_sc, lc, tc, ty, tb, tn, tw, e1, e2, e3, e4, zs_eq, z0q, lz, f1, g1, g3, hc0, f0', f15', q8, q4, q2, r8, r4, r2, r1, sm4, sm1', b1, b2, k1, k2, k3, k4, k5, l258, h5, j1, t2, hbb, hb4, a1, a2, a3])
    · by_cases hme : (mv lw nw).length = 0
      · have l258 : (m : Int) < 258 := by omega
        have hPt := fun d => ltput_walk (d := d) (hp := hp ++ [Blk.cells 0 true (tsC c), Blk.cells 0 true (tsC z0), Blk.cells g2 true (is RR)]) (L := L) (H := H) (was := lw) (now := nw) (by omega) (by omega) (hF.mono (by simp))
        have hcl : (chg lw nw).length = (mv lw nw).length + 1 := by rw [chg_mv, List.length_append]; rfl
        simp only [List.length_append, List.length_cons, List.length_nil, Nat.zero_add, Nat.reduceAdd, List.append_assoc, List.cons_append, List.nil_append, hcl] at hPt
        have hmvl := chg_length (was := lw) (now := nw) (by omega) (by omega)
        have hci : (is (chg lw nw)).length = (mv lw nw).length + 1 := by rw [is_length, hcl]
        have hct : (is (chg lw nw)).take (mv lw nw).length = is (mv lw nw) := by rw [chg_mv]; unfold is; rw [List.map_append, List.take_append_of_le_length (by simp), List.take_of_length_le (by simp)]
        have hsub : (((mv lw nw).length + 1 : Nat) : Int) - 1 = ((mv lw nw).length : Nat) := by omega
        have hle1 : ((mv lw nw).length ≤ (mv lw nw).length + 1) = True := eq_true (by omega)
        have hle2 : (((mv lw nw).length : Int) ≤ ((mv lw nw).length + 1 : Nat)) = True := eq_true (by omega)
        have hle3 : (((mv lw nw).length : Int) ≤ ((mv lw nw).length : Int) + 1) = True := eq_true (by omega)
        have hsub2 : ((mv lw nw).length : Int) + 1 - 1 = ((mv lw nw).length : Nat) := by omega
        have hmb := mv_bits lw nw
        rw [if_pos (by omega)] at hpath
        have hnn : (0 : Int) ≤ ((mv lw nw).length : Nat) := by omega
        have hmv0 : mv lw nw = [] := List.eq_nil_of_length_eq_zero hme
        rw [hmv0, List.append_nil] at hpath
        have h00 : (mv lw nw).length = 0 := hme
        rw [h00] at hPt hci hct hsub hsub2 hle1 hle2 hle3 hnn hcl
        rw [if_neg h5, List.append_nil] at hpath
        have hlen : RR.length = RR.length := rfl
        obtain ⟨ex, fr3, st, j1, j2⟩ := run_loop (hp := hp) (L := L) (H := H) (A := RR) (g := g2) (Cb := .cells 0 true (tsC c)) (rest := [Blk.cells g2 true (is RR), .cells (0 + 1) true (is (chg lw nw))]) (by rw [← hpath]; exact hPb) rfl (by rw [hlen]; omega) hF RR.length 0 z0 (by omega) come0
        rw [List.drop_zero, ← hpath] at j2
        rw [hlen] at j1
        simp only [List.length_cons, List.length_nil, Nat.zero_add, Nat.reduceAdd, Int.natCast_zero] at j1
        rcases j2 with ⟨fin, t1, rfl, rfl, t2, t3, t4⟩ | ⟨t1, rfl, t2, nn, rfl⟩
        · have hd : decide (Vld c) = decide (fin = c) := by rw [decide_eq_decide, hvp, t1]; simp
          have q := tsC_eq t2 hl
          rw [hd]
          rcases hbits with ⟨hbb, hb4⟩ | ⟨hbb, hb4⟩ <;> rcases hcase with ⟨a1, a2, a3, a4⟩ | ⟨a1, a2, a3, a4⟩ | ⟨a1, a2, a3, rfl⟩ | ⟨a1, a2, a3, rfl⟩ <;> simp (disch := (first | omega | (simp only [lnE] <;> omega) | (refine Fit.mono ‹Fit _ _ _› ?_ <;> (simp only [lnE] <;> omega)) | (refine Fit.draw ‹Fit _ _ _› ?_ ?_ <;> (simp only [lnE] <;> omega)) | (refine Fit.hid1 ‹Fit _ _ _› ?_ ?_ <;> (simp only [lnE] <;> omega)) | (refine Fit.hidc1 ‹Fit _ _ _› ?_ ?_ <;> (simp only [lnE] <;> omega)) | (refine Fit.hidc2 ‹Fit _ _ _› ?_ ?_ ?_ <;> (simp only [lnE] <;> omega)) | (refine Fit.draw1 ‹Fit _ _ _› ?_ ?_ ?_ <;> (simp only [lnE] <;> omega)) | (refine Fit.range0 ?_ ?_ <;> (simp only [lnE] <;> omega)) | fail)) only [syA, syB, argFr, D, E, T, C, undefv, eqF, aeq, sheqs, sheq, rdCells, cellsOf, fill, putAt, if_true, if_false, reduceIte, ↓reduceIte, reduceCtorEq, eq_self, Nat.reduceEqDiff, Nat.reduceAdd, Nat.reduceSub, Nat.reduceMul, Nat.reduceLT, Nat.reduceLeDiff, Nat.reducePow, Nat.reduceDiv, Nat.reduceMod, Int.reduceLT, Int.reduceLE, Int.reduceGT, Int.reduceGE, Int.reduceToNat, Int.reducePow, Int.reduceNeg, Int.reduceBEq, Int.reduceBNe, Int.reduceEq, Int.reduceAdd, Int.reduceSub, Int.reduceMul, cellv, sc, flatv, refs, refsF, refsC, hF.not0, hF.not1, hF.up0, hF.up1, ac19, tsC_refs, tsC_cellv, tsC_sc, lc, tc, ty, tb, tn, tw, e1, e2, e3, e4, zs_eq, z0q, lz, f1, g1, g3, hc0, f0', f15', q8, q4, q2, r8, r4, r2, r1, sm4, sm1', b1, b2, k1, k2, k3, k4, k5, l258, hPt, hci, hct, hsub, hsub2, hle1, hle2, hle3, hnn, append_zero, h00, h5, j1, t3, t4, q, tsC_take t2, tsC_length t2, hbb, hb4, a1, a2, a3]
        · have hd : decide (Vld c) = false := by rw [decide_eq_false_iff_not, hvp, t1]; simp
          rw [hd]
          rcases hbits with ⟨hbb, hb4⟩ | ⟨hbb, hb4⟩ <;> rcases hcase with ⟨a1, a2, a3, a4⟩ | ⟨a1, a2, a3, a4⟩ | ⟨a1, a2, a3, rfl⟩ | ⟨a1, a2, a3, rfl⟩ <;> simp (disch := (first | omega | (simp only [lnE] <;> omega) | (refine Fit.mono ‹Fit _ _ _› ?_ <;> (simp only [lnE] <;> omega)) | (refine Fit.draw ‹Fit _ _ _› ?_ ?_ <;> (simp only [lnE] <;> omega)) | (refine Fit.hid1 ‹Fit _ _ _› ?_ ?_ <;> (simp only [lnE] <;> omega)) | (refine Fit.hidc1 ‹Fit _ _ _› ?_ ?_ <;> (simp only [lnE] <;> omega)) | (refine Fit.hidc2 ‹Fit _ _ _› ?_ ?_ ?_ <;> (simp only [lnE] <;> omega)) | (refine Fit.draw1 ‹Fit _ _ _› ?_ ?_ ?_ <;> (simp only [lnE] <;> omega)) | (refine Fit.range0 ?_ ?_ <;> (simp only [lnE] <;> omega)) | fail)) only [syA, syB, argFr, D, E, T, C, undefv, eqF, aeq, sheqs, sheq, rdCells, cellsOf, fill, putAt, if_true, if_false, reduceIte, ↓reduceIte, reduceCtorEq, eq_self, Nat.reduceEqDiff, Nat.reduceAdd, Nat.reduceSub, Nat.reduceMul, Nat.reduceLT, Nat.reduceLeDiff, Nat.reducePow, Nat.reduceDiv, Nat.reduceMod, Int.reduceLT, Int.reduceLE, Int.reduceGT, Int.reduceGE, Int.reduceToNat, Int.reducePow, Int.reduceNeg, Int.reduceBEq, Int.reduceBNe, Int.reduceEq, Int.reduceAdd, Int.reduceSub, Int.reduceMul, cellv, sc, flatv, refs, refsF, refsC, hF.not0, hF.not1, hF.up0, hF.up1, ac19, tsC_refs, tsC_cellv, tsC_sc, lc, tc, ty, tb, tn, tw, e1, e2, e3, e4, zs_eq, z0q, lz, f1, g1, g3, hc0, f0', f15', q8, q4, q2, r8, r4, r2, r1, sm4, sm1', b1, b2, k1, k2, k3, k4, k5, l258, hPt, hci, hct, hsub, hsub2, hle1, hle2, hle3, hnn, append_zero, h00, h5, j1, t2, hbb, hb4, a1, a2, a3]
      · have l258 : (m : Int) < 258 := by omega
        have hPt := fun d => ltput_walk (d := d) (hp := hp ++ [Blk.cells 0 true (tsC c), Blk.cells 0 true (tsC z0), Blk.cells g2 true (is RR)]) (L := L) (H := H) (was := lw) (now := nw) (by omega) (by omega) (hF.mono (by simp))
        have hcl : (chg lw nw).length = (mv lw nw).length + 1 := by rw [chg_mv, List.length_append]; rfl
        simp only [List.length_append, List.length_cons, List.length_nil, Nat.zero_add, Nat.reduceAdd, List.append_assoc, List.cons_append, List.nil_append, hcl] at hPt
        have hmvl := chg_length (was := lw) (now := nw) (by omega) (by omega)
        have hci : (is (chg lw nw)).length = (mv lw nw).length + 1 := by rw [is_length, hcl]
        have hct : (is (chg lw nw)).take (mv lw nw).length = is (mv lw nw) := by rw [chg_mv]; unfold is; rw [List.map_append, List.take_append_of_le_length (by simp), List.take_of_length_le (by simp)]
        have hsub : (((mv lw nw).length + 1 : Nat) : Int) - 1 = ((mv lw nw).length : Nat) := by omega
        have hle1 : ((mv lw nw).length ≤ (mv lw nw).length + 1) = True := eq_true (by omega)
        have hle2 : (((mv lw nw).length : Int) ≤ ((mv lw nw).length + 1 : Nat)) = True := eq_true (by omega)
        have hle3 : (((mv lw nw).length : Int) ≤ ((mv lw nw).length : Int) + 1) = True := eq_true (by omega)
        have hsub2 : ((mv lw nw).length : Int) + 1 - 1 = ((mv lw nw).length : Nat) := by omega
        have hmb := mv_bits lw nw
        rw [if_pos (by omega)] at hpath
        have hnn : (0 : Int) ≤ ((mv lw nw).length : Nat) := by omega
        have happ := append_isg (hp := hp ++ [.cells 0 true (tsC c), .cells 0 true (tsC z0), .cells g2 true (is RR), .cells ((mv lw nw).length + 1) true (is (chg lw nw))]) (L := L) (H := H) (d := []) (b := hp.length + 2) (g := g2) (l := RR) (m := mv lw nw) (by rw [get_new]; rfl) (by have := hF.1; omega) (hF.not1 2) hme (by omega)
        rw [set_new] at happ
        simp only [List.set_cons_succ, List.set_cons_zero] at happ
        rw [if_neg h5, List.append_nil] at hpath
        have hlen : (RR ++ mv lw nw).length = (RR.length + (mv lw nw).length) := by simp only [List.length_append, List.length_cons, List.length_nil, Nat.zero_add]
        obtain ⟨ex, fr3, st, j1, j2⟩ := run_loop (hp := hp) (L := L) (H := H) (A := (RR ++ mv lw nw)) (g := (RR.length + (mv lw nw).length)) (Cb := .cells 0 true (tsC c)) (rest := [Blk.cells (RR.length + (mv lw nw).length) true (is (RR ++ mv lw nw)), .cells ((mv lw nw).length + 1) true (is (chg lw nw))]) (by rw [← hpath]; exact hPb) rfl (by rw [hlen]; omega) hF (RR ++ mv lw nw).length 0 z0 (by omega) come0
        rw [List.drop_zero, ← hpath] at j2
        rw [hlen] at j1
        simp only [List.length_cons, List.length_nil, Nat.zero_add, Nat.reduceAdd, Int.natCast_zero] at j1
        rcases j2 with ⟨fin, t1, rfl, rfl, t2, t3, t4⟩ | ⟨t1, rfl, t2, nn, rfl⟩
        · have hd : decide (Vld c) = decide (fin = c) := by rw [decide_eq_decide, hvp, t1]; simp
          have q := tsC_eq t2 hl
          rw [hd]
          rcases hbits with ⟨hbb, hb4⟩ | ⟨hbb, hb4⟩ <;> rcases hcase with ⟨a1, a2, a3, a4⟩ | ⟨a1, a2, a3, a4⟩ | ⟨a1, a2, a3, rfl⟩ | ⟨a1, a2, a3, rfl⟩ <;> simp (disch := (first | omega | (simp only [lnE] <;> omega) | (refine Fit.mono ‹Fit _ _ _› ?_ <;> (simp only [lnE] <;> omega)) | (refine Fit.draw ‹Fit _ _ _› ?_ ?_ <;> (simp only [lnE] <;> omega)) | (refine Fit.hid1 ‹Fit _ _ _› ?_ ?_ <;> (simp only [lnE] <;> omega)) | (refine Fit.hidc1 ‹Fit _ _ _› ?_ ?_ <;> (simp only [lnE] <;> omega)) | (refine Fit.hidc2 ‹Fit _ _ _› ?_ ?_ ?_ <;> (simp only [lnE] <;> omega)) | (refine Fit.draw1 ‹Fit _ _ _› ?_ ?_ ?_ <;> (simp only [lnE] <;> omega)) | (refine Fit.range0 ?_ ?_ <;> (simp only [lnE] <;> omega)) | fail)) only [syA, syB, argFr, D, E, T, C, undefv, eqF, aeq, sheqs, sheq, rdCells, cellsOf, fill, putAt, if_true, if_false, reduceIte, ↓reduceIte, reduceCtorEq, eq_self, Nat.reduceEqDiff, Nat.reduceAdd, Nat.reduceSub, Nat.reduceMul, Nat.reduceLT, Nat.reduceLeDiff, Nat.reducePow, Nat.reduceDiv, Nat.reduceMod, Int.reduceLT, Int.reduceLE, Int.reduceGT, Int.reduceGE, Int.reduceToNat, Int.reducePow, Int.reduceNeg, Int.reduceBEq, Int.reduceBNe, Int.reduceEq, Int.reduceAdd, Int.reduceSub, Int.reduceMul, cellv, sc, flatv, refs, refsF, refsC, hF.not0, hF.not1, hF.up0, hF.up1, ac19, tsC_refs, tsC_cellv, tsC_sc, lc, tc, ty, tb, tn, tw, e1, e2, e3, e4, zs_eq, z0q, lz, f1, g1, g3, hc0, f0', f15', q8, q4, q2, r8, r4, r2, r1, sm4, sm1', b1, b2, k1, k2, k3, k4, k5, l258, hPt, hci, hct, hsub, hsub2, hle1, hle2, hle3, hnn, happ, h5, j1, t3, t4, q, tsC_take t2, tsC_length t2, hbb, hb4, a1, a2, a3]
        · have hd : decide (Vld c) = false := by rw [decide_eq_false_iff_not, hvp, t1]; simp
          rw [hd]
          rcases hbits with ⟨hbb, hb4⟩ | ⟨hbb, hb4⟩ <;> rcases hcase with ⟨a1, a2, a3, a4⟩ | ⟨a1, a2, a3, a4⟩ | ⟨a1, a2, a3, rfl⟩ | ⟨a1, a2, a3, rfl⟩ <;> simp (disch := (first | omega | (simp only [lnE] <;> omega) | (refine Fit.mono ‹Fit _ _ _› ?_ <;> (simp only [lnE] <;> omega)) | (refine Fit.draw ‹Fit _ _ _› ?_ ?_ <;> (simp only [lnE] <;> omega)) | (refine Fit.hid1 ‹Fit _ _ _› ?_ ?_ <;> (simp only [lnE] <;> omega)) | (refine Fit.hidc1 ‹Fit _ _ _› ?_ ?_ <;> (simp only [lnE] <;> omega)) | (refine Fit.hidc2 ‹Fit _ _ _› ?_ ?_ ?_ <;> (simp only [lnE] <;> omega)) | (refine Fit.draw1 ‹Fit _ _ _› ?_ ?_ ?_ <;> (simp only [lnE] <;> omega)) | (refine Fit.range0 ?_ ?_ <;> (simp only [lnE] <;> omega)) | fail)) only [syA, syB, argFr, D, E, T, C, undefv, eqF, aeq, sheqs, sheq, rdCells, cellsOf, fill, putAt, if_true, if_false, reduceIte, ↓reduceIte, reduceCtorEq, eq_self, Nat.reduceEqDiff, Nat.reduceAdd, Nat.reduceSub, Nat.reduceMul, Nat.reduceLT, Nat.reduceLeDiff, Nat.reducePow, Nat.reduceDiv, Nat.reduceMod, Int.reduceLT, Int.reduceLE, Int.reduceGT, Int.reduceGE, Int.reduceToNat, Int.reducePow, Int.reduceNeg, Int.reduceBEq, Int.reduceBNe, Int.reduceEq, Int.reduceAdd, Int.reduceSub, Int.reduceMul, cellv, sc, flatv, refs, refsF, refsC, hF.not0, hF.not1, hF.up0, hF.up1, ac19, tsC_refs, tsC_cellv, tsC_sc, lc, tc, ty, tb, tn, tw, e1, e2, e3, e4, zs_eq, z0q, lz, f1, g1, g3, hc0, f0', f15', q8, q4, q2, r8, r4, r2, r1, sm4, sm1', b1, b2, k1, k2, k3, k4, k5, l258, hPt, hci, hct, hsub, hsub2, hle1, hle2, hle3, hnn, happ, h5, j1, t2, hbb, hb4, a1, a2, a3]
set_option maxHeartbeats 16000000 in
theorem ltvalid_walk {c : Ts} (hG : Gs c) (hF : Fit hp.length L H) :
    Lrun env (.func 19) [.agg (tsC c).toArray] ⟨hp, L, H, d⟩ = some (.bool (decide (Vld c)), ⟨hp, L, H, d⟩) := by
  rw [Lrun_sym 19 _ _ fn19]
  have hl := hG.len
  have ty := tsC_sym hl
  have tb := tsC_bits hl
  have tn := tsC_now hl
  have tw := tsC_way hl
  have lc := tsC_length hl
  have tc := tsC_take hl
  have hz := zs_length
  have lz : (tsC z0).length = 262 := tsC_length (c := z0) hz
  have z0q : u8s zs ++ [.int .i64 0, .int .i64 0, .int .i64 0, .int .i64 0] = tsC z0 := rfl
  by_cases c1 : c.now < 0
  · rw [decide_eq_false fun h => by have := Vld.small h; omega]
    simp (disch := (first | omega | (simp only [lnE] <;> omega) | (refine Fit.mono ‹Fit _ _ _› ?_ <;> (simp only [lnE] <;> omega)) | (refine Fit.draw ‹Fit _ _ _› ?_ ?_ <;> (simp only [lnE] <;> omega)) | (refine Fit.hid1 ‹Fit _ _ _› ?_ ?_ <;> (simp only [lnE] <;> omega)) | (refine Fit.hidc1 ‹Fit _ _ _› ?_ ?_ <;> (simp only [lnE] <;> omega)) | (refine Fit.hidc2 ‹Fit _ _ _› ?_ ?_ ?_ <;> (simp only [lnE] <;> omega)) | (refine Fit.draw1 ‹Fit _ _ _› ?_ ?_ ?_ <;> (simp only [lnE] <;> omega)) | (refine Fit.range0 ?_ ?_ <;> (simp only [lnE] <;> omega)) | fail)) only [syA, syB, argFr, D, E, T, C, undefv, eqF, aeq, sheqs, sheq, rdCells, cellsOf, fill, putAt, if_true, if_false, reduceIte, ↓reduceIte, reduceCtorEq, eq_self, Nat.reduceEqDiff, Nat.reduceAdd, Nat.reduceSub, Nat.reduceMul, Nat.reduceLT, Nat.reduceLeDiff, Nat.reducePow, Nat.reduceDiv, Nat.reduceMod, Int.reduceLT, Int.reduceLE, Int.reduceGT, Int.reduceGE, Int.reduceToNat, Int.reducePow, Int.reduceNeg, Int.reduceBEq, Int.reduceBNe, Int.reduceEq, Int.reduceAdd, Int.reduceSub, Int.reduceMul, cellv, sc, flatv, refs, refsF, refsC, hF.not0, hF.not1, hF.up0, hF.up1, ac19, tsC_refs, tsC_cellv, tsC_sc, lc, tc, tn, c1]
  by_cases c2 : c.now > 15
  · rw [decide_eq_false fun h => by have := Vld.small h; omega]
    simp (disch := (first | omega | (simp only [lnE] <;> omega) | (refine Fit.mono ‹Fit _ _ _› ?_ <;> (simp only [lnE] <;> omega)) | (refine Fit.draw ‹Fit _ _ _› ?_ ?_ <;> (simp only [lnE] <;> omega)) | (refine Fit.hid1 ‹Fit _ _ _› ?_ ?_ <;> (simp only [lnE] <;> omega)) | (refine Fit.hidc1 ‹Fit _ _ _› ?_ ?_ <;> (simp only [lnE] <;> omega)) | (refine Fit.hidc2 ‹Fit _ _ _› ?_ ?_ ?_ <;> (simp only [lnE] <;> omega)) | (refine Fit.draw1 ‹Fit _ _ _› ?_ ?_ ?_ <;> (simp only [lnE] <;> omega)) | (refine Fit.range0 ?_ ?_ <;> (simp only [lnE] <;> omega)) | fail)) only [syA, syB, argFr, D, E, T, C, undefv, eqF, aeq, sheqs, sheq, rdCells, cellsOf, fill, putAt, if_true, if_false, reduceIte, ↓reduceIte, reduceCtorEq, eq_self, Nat.reduceEqDiff, Nat.reduceAdd, Nat.reduceSub, Nat.reduceMul, Nat.reduceLT, Nat.reduceLeDiff, Nat.reducePow, Nat.reduceDiv, Nat.reduceMod, Int.reduceLT, Int.reduceLE, Int.reduceGT, Int.reduceGE, Int.reduceToNat, Int.reducePow, Int.reduceNeg, Int.reduceBEq, Int.reduceBNe, Int.reduceEq, Int.reduceAdd, Int.reduceSub, Int.reduceMul, cellv, sc, flatv, refs, refsF, refsC, hF.not0, hF.not1, hF.up0, hF.up1, ac19, tsC_refs, tsC_cellv, tsC_sc, lc, tc, tn, c1, c2]
  by_cases c3 : c.sym < 0
  · rw [decide_eq_false fun h => by have := Vld.small h; omega]
    simp (disch := (first | omega | (simp only [lnE] <;> omega) | (refine Fit.mono ‹Fit _ _ _› ?_ <;> (simp only [lnE] <;> omega)) | (refine Fit.draw ‹Fit _ _ _› ?_ ?_ <;> (simp only [lnE] <;> omega)) | (refine Fit.hid1 ‹Fit _ _ _› ?_ ?_ <;> (simp only [lnE] <;> omega)) | (refine Fit.hidc1 ‹Fit _ _ _› ?_ ?_ <;> (simp only [lnE] <;> omega)) | (refine Fit.hidc2 ‹Fit _ _ _› ?_ ?_ ?_ <;> (simp only [lnE] <;> omega)) | (refine Fit.draw1 ‹Fit _ _ _› ?_ ?_ ?_ <;> (simp only [lnE] <;> omega)) | (refine Fit.range0 ?_ ?_ <;> (simp only [lnE] <;> omega)) | fail)) only [syA, syB, argFr, D, E, T, C, undefv, eqF, aeq, sheqs, sheq, rdCells, cellsOf, fill, putAt, if_true, if_false, reduceIte, ↓reduceIte, reduceCtorEq, eq_self, Nat.reduceEqDiff, Nat.reduceAdd, Nat.reduceSub, Nat.reduceMul, Nat.reduceLT, Nat.reduceLeDiff, Nat.reducePow, Nat.reduceDiv, Nat.reduceMod, Int.reduceLT, Int.reduceLE, Int.reduceGT, Int.reduceGE, Int.reduceToNat, Int.reducePow, Int.reduceNeg, Int.reduceBEq, Int.reduceBNe, Int.reduceEq, Int.reduceAdd, Int.reduceSub, Int.reduceMul, cellv, sc, flatv, refs, refsF, refsC, hF.not0, hF.not1, hF.up0, hF.up1, ac19, tsC_refs, tsC_cellv, tsC_sc, lc, tc, tn, ty, c1, c2, c3]
  by_cases c4 : c.sym > 258
  · rw [decide_eq_false fun h => by have := Vld.small h; omega]
    simp (disch := (first | omega | (simp only [lnE] <;> omega) | (refine Fit.mono ‹Fit _ _ _› ?_ <;> (simp only [lnE] <;> omega)) | (refine Fit.draw ‹Fit _ _ _› ?_ ?_ <;> (simp only [lnE] <;> omega)) | (refine Fit.hid1 ‹Fit _ _ _› ?_ ?_ <;> (simp only [lnE] <;> omega)) | (refine Fit.hidc1 ‹Fit _ _ _› ?_ ?_ <;> (simp only [lnE] <;> omega)) | (refine Fit.hidc2 ‹Fit _ _ _› ?_ ?_ ?_ <;> (simp only [lnE] <;> omega)) | (refine Fit.draw1 ‹Fit _ _ _› ?_ ?_ ?_ <;> (simp only [lnE] <;> omega)) | (refine Fit.range0 ?_ ?_ <;> (simp only [lnE] <;> omega)) | fail)) only [syA, syB, argFr, D, E, T, C, undefv, eqF, aeq, sheqs, sheq, rdCells, cellsOf, fill, putAt, if_true, if_false, reduceIte, ↓reduceIte, reduceCtorEq, eq_self, Nat.reduceEqDiff, Nat.reduceAdd, Nat.reduceSub, Nat.reduceMul, Nat.reduceLT, Nat.reduceLeDiff, Nat.reducePow, Nat.reduceDiv, Nat.reduceMod, Int.reduceLT, Int.reduceLE, Int.reduceGT, Int.reduceGE, Int.reduceToNat, Int.reducePow, Int.reduceNeg, Int.reduceBEq, Int.reduceBNe, Int.reduceEq, Int.reduceAdd, Int.reduceSub, Int.reduceMul, cellv, sc, flatv, refs, refsF, refsC, hF.not0, hF.not1, hF.up0, hF.up1, ac19, tsC_refs, tsC_cellv, tsC_sc, lc, tc, tn, ty, c1, c2, c3, c4]
  by_cases c5 : 0 ≤ c.bits ∧ c.bits < 4
  · have ht := trail_fb (k := c.bits.toNat) (now := c.now.toNat) (by omega)
    obtain ⟨fin, hfin⟩ : ∃ fin : Ts, fin = ⟨zs, 0, (c.bits.toNat : Nat), (c.now.toNat % 2 ^ c.bits.toNat : Nat), 0⟩ := ⟨_, rfl⟩
    have hv := vld_few c5 (by omega)
    rw [← hfin] at ht hv
    obtain ⟨f0, fr, f1, f2, f3⟩ := nums_loop (hp := hp) (L := L) (H := H) (c := c) (now := c.now.toNat) hl (by omega) (by omega) hF c.bits.toNat z0 fin (by omega) (by show (0 : Int) + _ ≤ 3; omega) z0_ok ht
    rw [show ((c.bits.toNat : Nat) : Int) - 1 = c.bits - 1 by omega] at f1
    have q := tsC_eq f0 hl
    have hd : decide (Vld c) = decide (fin = c) := by rw [decide_eq_decide]; exact hv
    have b0 : c.bits ≥ 0 := c5.1
    rw [hd]
    simp (disch := (first | omega | (simp only [lnE] <;> omega) | (refine Fit.mono ‹Fit _ _ _› ?_ <;> (simp only [lnE] <;> omega)) | (refine Fit.draw ‹Fit _ _ _› ?_ ?_ <;> (simp only [lnE] <;> omega)) | (refine Fit.hid1 ‹Fit _ _ _› ?_ ?_ <;> (simp only [lnE] <;> omega)) | (refine Fit.hidc1 ‹Fit _ _ _› ?_ ?_ <;> (simp only [lnE] <;> omega)) | (refine Fit.hidc2 ‹Fit _ _ _› ?_ ?_ ?_ <;> (simp only [lnE] <;> omega)) | (refine Fit.draw1 ‹Fit _ _ _› ?_ ?_ ?_ <;> (simp only [lnE] <;> omega)) | (refine Fit.range0 ?_ ?_ <;> (simp only [lnE] <;> omega)) | fail)) only [syA, syB, argFr, D, E, T, C, undefv, eqF, aeq, sheqs, sheq, rdCells, cellsOf, fill, putAt, if_true, if_false, reduceIte, ↓reduceIte, reduceCtorEq, eq_self, Nat.reduceEqDiff, Nat.reduceAdd, Nat.reduceSub, Nat.reduceMul, Nat.reduceLT, Nat.reduceLeDiff, Nat.reducePow, Nat.reduceDiv, Nat.reduceMod, Int.reduceLT, Int.reduceLE, Int.reduceGT, Int.reduceGE, Int.reduceToNat, Int.reducePow, Int.reduceNeg, Int.reduceBEq, Int.reduceBNe, Int.reduceEq, Int.reduceAdd, Int.reduceSub, Int.reduceMul, cellv, sc, flatv, refs, refsF, refsC, hF.not0, hF.not1, hF.up0, hF.up1, ac19, tsC_refs, tsC_cellv, tsC_sc, lc, tc, tn, ty, tb, c1, c2, c3, c4, c5, b0, zs_eq, z0q, lz, f1, f2, f3, tsC_take f0, tsC_length f0, q]
  have hcb : ¬ (c.bits ≥ 0 ∧ c.bits < 4) := c5
  obtain ⟨m, hm⟩ : ∃ m : Nat, c.sym = (m : Nat) := ⟨c.sym.toNat, by omega⟩
  obtain ⟨nw, hnw⟩ : ∃ nw : Nat, c.now = (nw : Nat) := ⟨c.now.toNat, by omega⟩
  have hm2 : m ≤ 258 := by omega
  have hnw2 : nw ≤ 15 := by omega
  have e3 : ¬ (m : Int) < 0 := by omega
  have e4 : ¬ (m : Int) > 258 := by omega
  have e1 : ¬ (nw : Int) < 0 := by omega
  have e2 : ¬ (nw : Int) > 15 := by omega
  rw [hm] at ty
  rw [hnw] at tn
  obtain ⟨ex, fr, f1, f2⟩ := lens_loop (hp := hp) (L := L) (H := H) (Ob := .cells 0 true (tsC z0)) hG hm hm2 hF m 0 (by omega) (fun s hs => by omega)
  simp only [Int.natCast_zero] at f1
  have hbits : ((c.bits ≥ 0) = False ∧ (0 : Int) = 0) ∨ ((c.bits ≥ 0) = True ∧ (c.bits < 4) = False) := by
    by_cases h0 : c.bits ≥ 0
    · exact .inr ⟨eq_true h0, eq_false fun h => hcb ⟨h0, h⟩⟩
    · exact .inl ⟨eq_false h0, rfl⟩
  rcases f2 with ⟨rfl, h15, g1, g3⟩ | ⟨rfl, g2, hbad⟩
  rotate_left
  · rw [decide_eq_false (vld_lens c5 hm hm2 hbad)]
    rcases hbits with ⟨hbb, hb4⟩ | ⟨hbb, hb4⟩ <;> simp (disch := (first | omega | (simp only [lnE] <;> omega) | (refine Fit.mono ‹Fit _ _ _› ?_ <;> (simp only [lnE] <;> omega)) | (refine Fit.draw ‹Fit _ _ _› ?_ ?_ <;> (simp only [lnE] <;> omega)) | (refine Fit.hid1 ‹Fit _ _ _› ?_ ?_ <;> (simp only [lnE] <;> omega)) | (refine Fit.hidc1 ‹Fit _ _ _› ?_ ?_ <;> (simp only [lnE] <;> omega)) | (refine Fit.hidc2 ‹Fit _ _ _› ?_ ?_ ?_ <;> (simp only [lnE] <;> omega)) | (refine Fit.draw1 ‹Fit _ _ _› ?_ ?_ ?_ <;> (simp only [lnE] <;> omega)) | (refine Fit.range0 ?_ ?_ <;> (simp only [lnE] <;> omega)) | fail)) only [syA, syB, argFr, D, E, T, C, undefv, eqF, aeq, sheqs, sheq, rdCells, cellsOf, fill, putAt, if_true, if_false, reduceIte, ↓reduceIte, reduceCtorEq, eq_self, Nat.reduceEqDiff, Nat.reduceAdd, Nat.reduceSub, Nat.reduceMul, Nat.reduceLT, Nat.reduceLeDiff, Nat.reducePow, Nat.reduceDiv, Nat.reduceMod, Int.reduceLT, Int.reduceLE, Int.reduceGT, Int.reduceGE, Int.reduceToNat, Int.reducePow, Int.reduceNeg, Int.reduceBEq, Int.reduceBNe, Int.reduceEq, Int.reduceAdd, Int.reduceSub, Int.reduceMul, cellv, sc, flatv, refs, refsF, refsC, hF.not0, hF.not1, hF.up0, hF.up1, ac19, tsC_refs, tsC_cellv, tsC_sc, lc, tc, tn, ty, tb, e1, e2, e3, e4, hbb, hb4, zs_eq, z0q, lz, f1, g2]
  exact ltvalid_tail hG c5 hm hm2 hnw hnw2 h15 hF hbits f1 g1 g3 ty tb tn tw e1 e2 e3 e4
end LtA
end Go.Proofs.Ytlphmnhkkhcjfaa
end
