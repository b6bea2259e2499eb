/-
  THE BIT WRITER's laws: parts. Conditions: none.
-/
import Derived.Test.YtceecoagooalpaaBtF
set_option linter.all false
section
namespace Go.Proofs.Ytceecoagooalpaa
namespace Bt
open Go Go.RowKit AM ArEnv
variable {hp : List Blk} {L : Nat} {H : List Nat} {a k a2 k2 : Nat} {l l2 : List Nat}

theorem wakes_walk (σ : St) : Lrun env (.func 22) [] σ = some (.bool true, σ) := by
  obtain ⟨hp, L, H, d⟩ := σ
  rw [Lrun_sym 22 _ _ fn22]
  simp (disch := (first | omega | (simp only [lnE] <;> omega) | (refine Fit.mono ‹Fit _ _ _› ?_ <;> (simp only [lnE] <;> omega)) | (refine Fit.draw ‹Fit _ _ _› ?_ ?_ <;> (simp only [lnE] <;> omega)) | (refine Fit.hid1 ‹Fit _ _ _› ?_ ?_ <;> (simp only [lnE] <;> omega)) | (refine Fit.draw1 ‹Fit _ _ _› ?_ ?_ ?_ <;> (simp only [lnE] <;> omega)) | (refine Fit.range0 ?_ ?_ <;> (simp only [lnE] <;> omega)) | fail)) only [syA, syB, argFr, D, E, T, C, undefv, eqF, aeq, sheqs, sheq, rdCells, cellsOf, fill, putAt, if_true, if_false, reduceIte, ↓reduceIte, reduceCtorEq, eq_self, Nat.reduceEqDiff, Nat.reduceAdd, Nat.reduceSub, Nat.reduceMul, Nat.reduceLT, Nat.reduceLeDiff, Nat.reducePow, Nat.reduceDiv, Nat.reduceMod, Int.reduceLT, Int.reduceLE, Int.reduceGT, Int.reduceGE, Int.reduceToNat, Int.reducePow, Int.reduceNeg, Int.reduceBEq, Int.reduceBNe, Int.reduceEq, Int.reduceAdd, Int.reduceSub, Int.reduceMul, cellv, sc, flatv, refs, refsF, refsC, constFn]
theorem wu32n {x : Nat} (h : x < 4294967296) : IntKind.u32.wrap (x : Int) = x := wu32 (by omega) (by omega)
theorem wu64n {x : Nat} (h : x ≤ 4294967296) : IntKind.u64.wrap (x : Int) = x := wu64 (by omega) (by omega)
/-- Another writer stays as it is. -/
theorem Ws.frame {m : List Nat} (w : Ws hp L H a k l) (w2 : Ws hp L H a2 k2 l2) (ha : a ≠ a2) (hk : l.length ≠ 0 → l2.length ≠ 0 → k ≠ k2) (hF : Fit hp.length L H) : Ws (Bt.wset hp a k m) L H a2 (if l2.length = 0 then (Bt.wset hp a k m).length else k2) l2 := by
  have hka : a2 ≠ k := fun e => by
    subst e
    by_cases h0 : l.length = 0
    · have := w.k0 h0; have := w2.lt; omega
    · have := (w2.w.symm.trans (w.b h0)); simp [Wr, Wb] at this
  have g2 := wset_other (m := m) w w2.lt (Ne.symm ha) hka
  by_cases h2 : l2.length = 0
  · rw [if_pos h2]
    have hn : l2 = [] := List.eq_nil_of_length_eq_zero h2
    subst hn
    have hle := wset_length_le (hp := hp) (a := a) (k := k) (m := m)
    have := w2.lt
    exact ⟨by rw [g2, w2.w]; rfl, fun h => absurd h2 h, fun _ => rfl, w2.aL, Nat.le_trans hF.1 hle, w2.aH, hF.2.not hle, by omega, w2.bits⟩
  · rw [if_neg h2]
    have hk2a : k2 ≠ a := fun e => by
      subst e
      have := (w.w.symm.trans (w2.b h2)); simp [Wr, Wb] at this
    have hk2k : k2 ≠ k := fun e => by
      by_cases h0 : l.length = 0
      · have := w.k0 h0; have := w2.klt h2; omega
      · exact hk h0 h2 e.symm
    exact ⟨by rw [g2, w2.w], fun _ => by rw [wset_other w (w2.klt h2) hk2a hk2k, w2.b h2], fun h => absurd h h2, w2.aL, w2.kL, w2.aH, w2.kH, w2.ne, w2.bits⟩
theorem parts_bad {v : Nat} {width low : Int} (hv : v < 4294967296) (hw0 : -9223372036854775808 ≤ width) (hw1 : width ≤ 9223372036854775807) (hl0 : -9223372036854775808 ≤ low) (hl1 : low ≤ 9223372036854775807) (hf : fitsV v width = false) (bs : List Blk) :
    Lrun env (.func 10) [.int .u32 v, .int .i64 width, .int .i64 low] ⟨bs, bs.length, [], []⟩ = some (.bool true, ⟨bs, bs.length, [], []⟩) := by
  rw [Lrun_sym 10 _ _ fn10]
  have hF : Fit bs.length bs.length [] := ⟨Nat.le_refl _, Low.nil _⟩
  have hnew := fun hp L H d hF => new_walk (hp := hp) (L := L) (H := H) hF d
  have hput := fun hp L H d hF => put_bad (hp := hp) (L := L) (H := H) (a := bs.length) hv hF hf d
  have V : Wv (bs ++ [Wr 0 [], Wr 0 []]) [] bs.length 0 [] := ⟨get_new0 _, fun h => absurd rfl h, rfl, fun _ => rfl, Bits.nil⟩
  have hlen := fun L d hF => len_walk (L := L) V hF d
  have hby := fun L d hF => bytes_walk (L := L) V (by simp) hF d
  have e1 : sl (bs ++ [Wr 0 [], Wr 0 []]).length (nb []) (ob []) = .slice none 0 0 := rfl
  have e2 : slB (nb []) (ob []) = [] := rfl
  rw [e1, e2] at hby
  simp only [List.append_nil] at hby
  unfold fitsV at hf
  rw [decide_eq_false_iff_not] at hf
  by_cases h1 : width < 0
  · simp (disch := (first | omega | (simp only [lnE] <;> omega) | (refine Fit.mono ‹Fit _ _ _› ?_ <;> (simp only [lnE] <;> omega)) | (refine Fit.draw ‹Fit _ _ _› ?_ ?_ <;> (simp only [lnE] <;> omega)) | (refine Fit.hid1 ‹Fit _ _ _› ?_ ?_ <;> (simp only [lnE] <;> omega)) | (refine Fit.draw1 ‹Fit _ _ _› ?_ ?_ ?_ <;> (simp only [lnE] <;> omega)) | (refine Fit.range0 ?_ ?_ <;> (simp only [lnE] <;> omega)) | fail)) only [syA, syB, argFr, D, E, T, C, undefv, eqF, aeq, sheqs, sheq, rdCells, cellsOf, fill, putAt, if_true, if_false, reduceIte, ↓reduceIte, reduceCtorEq, eq_self, Nat.reduceEqDiff, Nat.reduceAdd, Nat.reduceSub, Nat.reduceMul, Nat.reduceLT, Nat.reduceLeDiff, Nat.reducePow, Nat.reduceDiv, Nat.reduceMod, Int.reduceLT, Int.reduceLE, Int.reduceGT, Int.reduceGE, Int.reduceToNat, Int.reducePow, Int.reduceNeg, Int.reduceBEq, Int.reduceBNe, Int.reduceEq, Int.reduceAdd, Int.reduceSub, Int.reduceMul, cellv, sc, flatv, refs, refsF, refsC, hF.not0, hF.not1, hF.up0, hF.up1, ac10, hnew, hput, hlen, hby, wakes_walk, h1]
  by_cases h2 : width > 32
  · simp (disch := (first | omega | (simp only [lnE] <;> omega) | (refine Fit.mono ‹Fit _ _ _› ?_ <;> (simp only [lnE] <;> omega)) | (refine Fit.draw ‹Fit _ _ _› ?_ ?_ <;> (simp only [lnE] <;> omega)) | (refine Fit.hid1 ‹Fit _ _ _› ?_ ?_ <;> (simp only [lnE] <;> omega)) | (refine Fit.draw1 ‹Fit _ _ _› ?_ ?_ ?_ <;> (simp only [lnE] <;> omega)) | (refine Fit.range0 ?_ ?_ <;> (simp only [lnE] <;> omega)) | fail)) only [syA, syB, argFr, D, E, T, C, undefv, eqF, aeq, sheqs, sheq, rdCells, cellsOf, fill, putAt, if_true, if_false, reduceIte, ↓reduceIte, reduceCtorEq, eq_self, Nat.reduceEqDiff, Nat.reduceAdd, Nat.reduceSub, Nat.reduceMul, Nat.reduceLT, Nat.reduceLeDiff, Nat.reducePow, Nat.reduceDiv, Nat.reduceMod, Int.reduceLT, Int.reduceLE, Int.reduceGT, Int.reduceGE, Int.reduceToNat, Int.reducePow, Int.reduceNeg, Int.reduceBEq, Int.reduceBNe, Int.reduceEq, Int.reduceAdd, Int.reduceSub, Int.reduceMul, cellv, sc, flatv, refs, refsF, refsC, hF.not0, hF.not1, hF.up0, hF.up1, ac10, hnew, hput, hlen, hby, wakes_walk, h1, h2]
  obtain ⟨n, rfl⟩ := Int.eq_ofNat_of_zero_le (by omega : 0 ≤ width)
  have m1 : ¬ (0 : Int) > n := by omega
  have m2 : ¬ (32 : Int) < n := by omega
  have hmin : min ((n : Int)).toNat 64 = n := by omega
  have hmx : max (n : Int) 0 = n := by omega
  have hmn : min (n : Int) 32 = n := by omega
  have hn0 : ¬ (n : Int) < 0 := by omega
  have hp32 : 2 ^ n ≤ 4294967296 := Nat.le_trans (Nat.pow_le_pow_right (by decide) (by omega)) (show 2 ^ 32 ≤ 4294967296 by decide)
  have hpc : (2 : Int) ^ n = ((2 ^ n : Nat) : Int) := by rw [Int.natCast_pow]; rfl
  have hwr : IntKind.u64.wrap ((2 : Int) ^ n) = ((2 ^ n : Nat) : Int) := by rw [hpc, wu64n hp32]
  have hge : ((2 ^ n : Nat) : Int) ≤ (v : Int) := by
    have : ¬ v / 2 ^ n = 0 := fun h => hf ⟨by omega, by omega, by rw [Int.toNat_natCast]; exact h⟩
    rw [Nat.div_eq_zero_iff] at this
    have h3 : 2 ^ n ≠ 0 := by have := Nat.pow_pos (n := n) (show 0 < 2 by decide); omega
    omega
  simp (disch := (first | omega | (simp only [lnE] <;> omega) | (refine Fit.mono ‹Fit _ _ _› ?_ <;> (simp only [lnE] <;> omega)) | (refine Fit.draw ‹Fit _ _ _› ?_ ?_ <;> (simp only [lnE] <;> omega)) | (refine Fit.hid1 ‹Fit _ _ _› ?_ ?_ <;> (simp only [lnE] <;> omega)) | (refine Fit.draw1 ‹Fit _ _ _› ?_ ?_ ?_ <;> (simp only [lnE] <;> omega)) | (refine Fit.range0 ?_ ?_ <;> (simp only [lnE] <;> omega)) | fail)) only [syA, syB, argFr, D, E, T, C, undefv, eqF, aeq, sheqs, sheq, rdCells, cellsOf, fill, putAt, if_true, if_false, reduceIte, ↓reduceIte, reduceCtorEq, eq_self, Nat.reduceEqDiff, Nat.reduceAdd, Nat.reduceSub, Nat.reduceMul, Nat.reduceLT, Nat.reduceLeDiff, Nat.reducePow, Nat.reduceDiv, Nat.reduceMod, Int.reduceLT, Int.reduceLE, Int.reduceGT, Int.reduceGE, Int.reduceToNat, Int.reducePow, Int.reduceNeg, Int.reduceBEq, Int.reduceBNe, Int.reduceEq, Int.reduceAdd, Int.reduceSub, Int.reduceMul, cellv, sc, flatv, refs, refsF, refsC, hF.not0, hF.not1, hF.up0, hF.up1, ac10, hnew, hput, hlen, hby, wakes_walk, h1, h2, m1, m2, hmin, hmx, hmn, hn0, hwr, hge]
theorem mem_join : ∀ (l a : List Nat) (t : Nat), t ∈ joinDirty a l → t ∈ a ∨ t ∈ l
  | [], a, t, h => .inl h
  | x :: l, a, t, h => by
    unfold joinDirty at h
    split at h
    · rcases mem_join l a t h with h1 | h1
      · exact .inl h1
      · exact .inr (by simp [h1])
    · rcases mem_join l _ t h with h1 | h1
      · rcases List.mem_cons.1 h1 with rfl | h2
        · exact .inr (by simp)
        · exact .inl h2
      · exact .inr (by simp [h1])
theorem mem_dirt {t : Nat} (h : t ∈ dirt a l l2) : t = a := by
  unfold dirt at h
  split at h
  · cases h
  · simpa using h
theorem gc_end {base : Nat} {D : List Nat} (hD : ∀ t ∈ D, base ≤ t) (σ : St) (b : Bool) (hq : List Blk) : ∃ τ, gcX σ (gc base [.bool b] ⟨hq, L, H, D⟩) = some (.bool b, τ) := by
  have hf : D.filter (· < base) = [] := by
    rw [List.filter_eq_nil_iff]
    intro t ht
    have := hD t ht
    simpa using this
  unfold gc
  by_cases h : hq.length ≤ base
  · rw [if_pos h]; exact ⟨_, rfl⟩
  · rw [if_neg h]
    simp only [hf]
    exact ⟨_, rfl⟩
theorem str_sl {hq : List Blk} {g : Nat} {bs : List Nat} {L : Nat} {H d : List Nat} (hh : H.contains hq.length = false) (hb : By bs) : St.str ⟨hq ++ slB g (some bs), L, H, d⟩ (sl hq.length g (some bs)) = some (b8 bs) :=
  (sl_rd (o := some bs) hh hb).str
theorem parts_good {v n : Nat} {low : Int} (hv : v < 4294967296) (hn : n ≤ 32) (hf : v / 2 ^ n = 0) (bs : List Blk) :
    ∃ σ', Lrun env (.func 10) [.int .u32 v, .int .i64 n, .int .i64 low] ⟨bs, bs.length, [], []⟩ = some (.bool true, σ') := by
  rw [Lrun_sym 10 _ _ fn10]
  have hF : Fit bs.length bs.length [] := ⟨Nat.le_refl _, Low.nil _⟩
  have hF0 : Fit (bs ++ [Wr 0 [], Wr 0 []]).length bs.length [] := hF.mono (by simp)
  have n1 := fun d => new_walk hF d
  have n2 := fun d => new_walk (hp := bs ++ [Wr 0 []]) (L := bs.length) (H := []) (hF.mono (by simp)) d
  simp only [List.length_append, List.length_cons, List.length_nil, List.append_assoc, List.cons_append, List.nil_append, Nat.zero_add] at n2
  have w1 : Ws (bs ++ [Wr 0 [], Wr 0 []]) bs.length [] bs.length (bs ++ [Wr 0 [], Wr 0 []]).length [] :=
    ⟨get_new0 _, fun h => absurd rfl h, fun _ => rfl, Nat.le_refl _, by simp, rfl, rfl, by simp, Bits.nil⟩
  have w2 : Ws (bs ++ [Wr 0 [], Wr 0 []]) bs.length [] (bs.length + 1) (bs ++ [Wr 0 [], Wr 0 []]).length [] :=
    ⟨by rw [get_new]; rfl, fun h => absurd rfl h, fun _ => rfl, by omega, by simp, rfl, rfl, by simp, Bits.nil⟩
  generalize hq0 : bs ++ [Wr 0 [], Wr 0 []] = q0 at hF0 w1 w2 n2
  have hA : (bitsAt v n).length = n := bitsAt_length v n
  have p1 := fun d => put_walk w1 hv hn (by simp) hF0 hf d
  rw [List.nil_append] at p1
  have v1 := w1.wset (m := bitsAt v n) (fun _ => rfl) (bitsAt_bits v n)
  have v2 := w1.frame (m := bitsAt v n) w2 (by omega) (fun h => absurd rfl h) hF0
  rw [if_pos (show ([] : List Nat).length = 0 from rfl)] at v2
  have hF1 : Fit (wset q0 bs.length q0.length (bitsAt v n)).length bs.length [] := fit_wset hF0
  have hq1l : n ≠ 0 → (wset q0 bs.length q0.length (bitsAt v n)).length = q0.length + 1 := fun h => by rw [wset_new (by omega)]; simp
  generalize hq1 : wset q0 bs.length q0.length (bitsAt v n) = q1 at *
  obtain ⟨lo, hlo⟩ : ∃ lo : Nat, min (max low 0) (n : Int) = lo := ⟨(min (max low 0) (n : Int)).toNat, by omega⟩
  have hlon : lo ≤ n := by omega
  have hpow : 2 ^ n = 2 ^ (n - lo) * 2 ^ lo := by rw [← Nat.pow_add]; congr 1; omega
  have hplo : 0 < 2 ^ lo := Nat.pow_pos (by decide)
  have hvn : v < 2 ^ n := by
    rw [Nat.div_eq_zero_iff] at hf
    have := Nat.pow_pos (n := n) (show 0 < 2 by decide)
    omega
  have f2 : v / 2 ^ lo / 2 ^ (n - lo) = 0 := by
    rw [Nat.div_div_eq_div_mul, Nat.mul_comm, ← hpow]; exact hf
  have f3 : v % 2 ^ lo / 2 ^ lo = 0 := Nat.div_eq_of_lt (Nat.mod_lt _ hplo)
  have hv2 : v / 2 ^ lo < 4294967296 := Nat.lt_of_le_of_lt (Nat.div_le_self _ _) hv
  have hv3 : v % 2 ^ lo < 4294967296 := Nat.lt_of_le_of_lt (Nat.mod_le _ _) hv
  have p2 := fun d => put_walk v2 hv2 (by omega : n - lo ≤ 32) (by simp) hF1 f2 d
  rw [List.nil_append] at p2
  have hB1 : (bitsAt (v / 2 ^ lo) (n - lo)).length = n - lo := bitsAt_length ..
  have x2 := v2.wset (m := bitsAt (v / 2 ^ lo) (n - lo)) (fun _ => rfl) (bitsAt_bits _ _)
  have x1 := v2.frame (m := bitsAt (v / 2 ^ lo) (n - lo)) v1 (by omega) (fun h => absurd rfl h) hF1
  have hF2 : Fit (wset q1 (bs.length + 1) q1.length (bitsAt (v / 2 ^ lo) (n - lo))).length bs.length [] := fit_wset hF1
  generalize hq2 : wset q1 (bs.length + 1) q1.length (bitsAt (v / 2 ^ lo) (n - lo)) = q2 at *
  have p3 := fun d => put_walk x2 hv3 (by omega : lo ≤ 32) (by rw [hB1]; omega) hF2 f3 d
  have hcat : bitsAt (v / 2 ^ lo) (n - lo) ++ bitsAt (v % 2 ^ lo) lo = bitsAt v n := by
    rw [bitsAt_mod v lo lo (Nat.le_refl _), ← bitsAt_add, Nat.sub_add_cancel hlon]
  rw [hcat] at p3
  have y2 := x2.wset (m := bitsAt v n) (fun h => by rw [hB1]; omega) (bitsAt_bits _ _)
  have y1 := x2.frame (m := bitsAt v n) x1 (by omega) (fun h1 h2 => by
    rw [if_neg h2]
    have := hq1l (by omega)
    omega) hF2
  have hF3 : Fit (wset q2 (bs.length + 1) q1.length (bitsAt v n)).length bs.length [] := fit_wset hF2
  generalize hq3 : wset q2 (bs.length + 1) q1.length (bitsAt v n) = q3 at *
  have V1 := y1.v
  have V2 := y2.v
  have l1 := fun L d hF => len_walk (L := L) V1 hF d
  have l2 := fun L d hF => len_walk (L := L) V2 hF d
  have b1 := fun L d hF => bytes_walk (L := L) V1 (by omega) hF d
  rw [hA] at l1 l2
  have m1 : ¬ (n : Int) < 0 := by omega
  have m2 : ¬ (n : Int) > 32 := by omega
  have hmin : min ((n : Int)).toNat 64 = n := by omega
  have hmx : max (n : Int) 0 = n := by omega
  have hmn : min (n : Int) 32 = n := by omega
  have hp32 : 2 ^ n ≤ 4294967296 := Nat.le_trans (Nat.pow_le_pow_right (by decide) (by omega)) (show 2 ^ 32 ≤ 4294967296 by decide)
  have hwr : IntKind.u64.wrap ((2 : Int) ^ n) = ((2 ^ n : Nat) : Int) := by rw [show (2 : Int) ^ n = ((2 ^ n : Nat) : Int) by rw [Int.natCast_pow]; rfl, wu64n hp32]
  have hge : ¬ ((2 ^ n : Nat) : Int) ≤ (v : Int) := by omega
  have hlo32 : 2 ^ lo ≤ 4294967296 := Nat.le_trans (Nat.pow_le_pow_right (by decide) (by omega)) (show 2 ^ 32 ≤ 4294967296 by decide)
  have hmin2 : min ((lo : Int)).toNat 64 = lo := by omega
  have hlo0 : ¬ (lo : Int) < 0 := by omega
  have hwl : IntKind.u64.wrap ((2 : Int) ^ lo) = ((2 ^ lo : Nat) : Int) := by rw [show (2 : Int) ^ lo = ((2 ^ lo : Nat) : Int) by rw [Int.natCast_pow]; rfl, wu64n hlo32]
  have hsr : (v : Int).fdiv (2 ^ lo) = (v / 2 ^ lo : Nat) := by rw [fdiv_pos _ (Int.pow_nonneg (by decide)), Int.natCast_ediv, Int.natCast_pow]; rfl
  have hsub : (n : Int) - (lo : Int) = ((n - lo : Nat) : Int) := by omega
  have hand : andI 64 (v : Int) (((2 ^ lo : Nat) : Int) - 1) = (v % 2 ^ lo : Nat) := by
    have := mask 64 v lo (by omega) (by omega) (by omega)
    unfold andI
    rw [show ((2 ^ lo : Nat) : Int) - 1 = ((2 ^ lo - 1 : Nat) : Int) by omega, this, Int.natCast_emod]
  have hw1 : IntKind.u64.wrap (((2 ^ lo : Nat) : Int) - 1) = ((2 ^ lo : Nat) : Int) - 1 := by
    generalize 2 ^ lo = x at hplo hlo32; exact wu64 (by omega) (by omega)
  simp (disch := (first | omega | (simp only [lnE] <;> omega) | (refine Fit.mono ‹Fit _ _ _› ?_ <;> (simp only [lnE] <;> omega)) | (refine Fit.draw ‹Fit _ _ _› ?_ ?_ <;> (simp only [lnE] <;> omega)) | (refine Fit.hid1 ‹Fit _ _ _› ?_ ?_ <;> (simp only [lnE] <;> omega)) | (refine Fit.draw1 ‹Fit _ _ _› ?_ ?_ ?_ <;> (simp only [lnE] <;> omega)) | (refine Fit.range0 ?_ ?_ <;> (simp only [lnE] <;> omega)) | fail)) only [syA, syB, argFr, D, E, T, C, undefv, eqF, aeq, sheqs, sheq, rdCells, cellsOf, fill, putAt, if_true, if_false, reduceIte, ↓reduceIte, reduceCtorEq, eq_self, Nat.reduceEqDiff, Nat.reduceAdd, Nat.reduceSub, Nat.reduceMul, Nat.reduceLT, Nat.reduceLeDiff, Nat.reducePow, Nat.reduceDiv, Nat.reduceMod, Int.reduceLT, Int.reduceLE, Int.reduceGT, Int.reduceGE, Int.reduceToNat, Int.reducePow, Int.reduceNeg, Int.reduceBEq, Int.reduceBNe, Int.reduceEq, Int.reduceAdd, Int.reduceSub, Int.reduceMul, cellv, sc, flatv, refs, refsF, refsC, hF.not0, hF.not1, hF.up0, hF.up1, ac10, n1, n2, p1, p2, p3, wakes_walk, m1, m2, hmin, hmx, hmn, hwr, hge, hlo, hmin2, hlo0, hwl, hsr, hsub, hand, hw1, wu32n hv2, wu32n hv3, wu64n (Nat.le_of_lt hv3), l1, l2]
  trace_state
  have hD : ∀ t ∈ joinDirty (joinDirty (joinDirty [] (dirt bs.length [] (bitsAt v n))) (dirt (bs.length + 1) [] (bitsAt (v / 2 ^ lo) (n - lo)))) (dirt (bs.length + 1) (bitsAt (v / 2 ^ lo) (n - lo)) (bitsAt v n)), bs.length ≤ t := fun t ht => by
    rcases mem_join _ _ _ ht with ht | ht
    · rcases mem_join _ _ _ ht with ht | ht
      · rcases mem_join _ _ _ ht with ht | ht
        · cases ht
        · rw [mem_dirt ht]; omega
      · rw [mem_dirt ht]; omega
    · rw [mem_dirt ht]; omega
  have hFq : Fit q3.length q3.length [] := ⟨Nat.le_refl _, hF3.2⟩
  have l1' := fun d => len_walk V1 hFq d
  have l2' := fun d => len_walk V2 hFq d
  rw [hA] at l1' l2'
  have b1' := fun d => bytes_walk V1 (by omega) hF3 d
  by_cases h0 : n = 0
  · have b2 := fun d => bytes_walk V2 (by omega) hFq d
    have o0 : ob (bitsAt v n) = none := by unfold ob; rw [if_pos (by omega)]
    rw [o0] at b1' b2
    simp only [sl_none, slB_none, List.append_nil] at b1' b2
    simp (disch := (first | omega | (simp only [lnE] <;> omega) | (refine Fit.mono ‹Fit _ _ _› ?_ <;> (simp only [lnE] <;> omega)) | (refine Fit.draw ‹Fit _ _ _› ?_ ?_ <;> (simp only [lnE] <;> omega)) | (refine Fit.hid1 ‹Fit _ _ _› ?_ ?_ <;> (simp only [lnE] <;> omega)) | (refine Fit.draw1 ‹Fit _ _ _› ?_ ?_ ?_ <;> (simp only [lnE] <;> omega)) | (refine Fit.range0 ?_ ?_ <;> (simp only [lnE] <;> omega)) | fail)) only [syA, syB, argFr, D, E, T, C, undefv, eqF, aeq, sheqs, sheq, rdCells, cellsOf, fill, putAt, if_true, if_false, reduceIte, ↓reduceIte, reduceCtorEq, eq_self, Nat.reduceEqDiff, Nat.reduceAdd, Nat.reduceSub, Nat.reduceMul, Nat.reduceLT, Nat.reduceLeDiff, Nat.reducePow, Nat.reduceDiv, Nat.reduceMod, Int.reduceLT, Int.reduceLE, Int.reduceGT, Int.reduceGE, Int.reduceToNat, Int.reducePow, Int.reduceNeg, Int.reduceBEq, Int.reduceBNe, Int.reduceEq, Int.reduceAdd, Int.reduceSub, Int.reduceMul, cellv, sc, flatv, refs, refsF, refsC, l1, l2, b1', b2, wakes_walk]
    exact gc_end hD _ _ _
  · have o0 : ob (bitsAt v n) = some (byts (bitsAt v n)) := by unfold ob; rw [if_neg (by omega)]
    have hFq2 : Fit (q3 ++ [Blk.cells (nb (bitsAt v n)) true (u8s (byts (bitsAt v n)))]).length (q3 ++ [Blk.cells (nb (bitsAt v n)) true (u8s (byts (bitsAt v n)))]).length [] := ⟨Nat.le_refl _, Low.nil _⟩
    have b2 := fun d => bytes_walk (V2.app [Blk.cells (nb (bitsAt v n)) true (u8s (byts (bitsAt v n)))]) (by omega) hFq2 d
    rw [o0] at b1' b2
    simp only [sl_some, slB_some, List.length_append, List.length_cons, List.length_nil, List.append_assoc, List.cons_append, List.nil_append, Nat.zero_add] at b1' b2
    simp (disch := (first | omega | (simp only [lnE] <;> omega) | (refine Fit.mono ‹Fit _ _ _› ?_ <;> (simp only [lnE] <;> omega)) | (refine Fit.draw ‹Fit _ _ _› ?_ ?_ <;> (simp only [lnE] <;> omega)) | (refine Fit.hid1 ‹Fit _ _ _› ?_ ?_ <;> (simp only [lnE] <;> omega)) | (refine Fit.draw1 ‹Fit _ _ _› ?_ ?_ ?_ <;> (simp only [lnE] <;> omega)) | (refine Fit.range0 ?_ ?_ <;> (simp only [lnE] <;> omega)) | fail)) only [syA, syB, argFr, D, E, T, C, undefv, eqF, aeq, sheqs, sheq, rdCells, cellsOf, fill, putAt, if_true, if_false, reduceIte, ↓reduceIte, reduceCtorEq, eq_self, Nat.reduceEqDiff, Nat.reduceAdd, Nat.reduceSub, Nat.reduceMul, Nat.reduceLT, Nat.reduceLeDiff, Nat.reducePow, Nat.reduceDiv, Nat.reduceMod, Int.reduceLT, Int.reduceLE, Int.reduceGT, Int.reduceGE, Int.reduceToNat, Int.reducePow, Int.reduceNeg, Int.reduceBEq, Int.reduceBNe, Int.reduceEq, Int.reduceAdd, Int.reduceSub, Int.reduceMul, cellv, sc, flatv, refs, refsF, refsC, l1, l2, b1', b2, wakes_walk]
    exact gc_end hD _ _ _
theorem parts_run (v : Nat) (hv : v < 4294967296) (width : Int) (hw0 : -9223372036854775808 ≤ width) (hw1 : width ≤ 9223372036854775807) (low : Int) (hl0 : -9223372036854775808 ≤ low) (hl1 : low ≤ 9223372036854775807) {bs : List Blk} :
    ∃ σ', Lrun env (.func 10) [.int .u32 v, .int .i64 width, .int .i64 low] ⟨bs, bs.length, [], []⟩ = some (.bool true, σ') := by
  cases hf : fitsV v width with
  | false => exact ⟨_, parts_bad hv hw0 hw1 hl0 hl1 hf bs⟩
  | true =>
    unfold fitsV at hf
    rw [decide_eq_true_eq] at hf
    obtain ⟨n, rfl⟩ := Int.eq_ofNat_of_zero_le hf.1
    exact parts_good hv (by omega) (by have := hf.2.2; rwa [Int.toNat_natCast] at this) bs
end Bt
end Go.Proofs.Ytceecoagooalpaa
end
