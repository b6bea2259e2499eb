/-
  THE BIT WRITER's functions on the abstract machine: Put's loop. Conditions: none.
-/
import Derived.Test.YtlphmnhkkhcjfaaBtB
set_option linter.all false
section
namespace Go.Proofs.Ytlphmnhkkhcjfaa
namespace Bt
open Go Go.RowKit AM ArEnv

def putBA : ACode := .region [D 7 (.mv (T 19))]
def putB : ACode := .block 1 (.region [D 20 (.load none (T 3)), D 21 (.mv (T 7)), D 22 (.call 80 [(T 20), (T 21)])])
section
variable {hq : List Blk} {L : Nat} {H : List Nat} {a k : Nat} {l m : List Nat}
theorem wset_other (w : Ws hq L H a k l) {i : Nat} (hi : i < hq.length) (ha : i ≠ a) (hk : i ≠ k) : (wset hq a k m)[i]? = hq[i]? := by
  by_cases h0 : m.length = 0
  · rw [wset_nil h0]
  · by_cases hkl : k < hq.length
    · rw [wset_old h0 hkl, List.getElem?_set_ne (Ne.symm hk), List.getElem?_set_ne (Ne.symm ha)]
    · have hk' : k = hq.length := by have := w.kle; omega
      subst hk'
      rw [wset_new h0, List.getElem?_append_left (by simpa using hi), List.getElem?_set_ne (Ne.symm ha)]
theorem zip_self (fr : Fr) : (fr.map (·.1)).zip (fr.map (·.2)) = fr := by
  induction fr with
  | nil => rfl
  | cons x fr ih => simp only [List.map_cons, List.zip_cons_cons, ih]
theorem gcFr_wset (w : Ws hq L H a k l) {base : Nat} (hb : hq.length = base) {d : List Nat} {fr : Fr} (hv : ∀ p ∈ fr, ∀ r ∈ refs p.2, r < base) (hd : l.length = 0 → m.length ≠ 0 → d = [a]) :
    gcFr base fr ⟨wset hq a k m, L, H, d⟩ = some (fr, ⟨wset hq a k m, L, H, d⟩) := by
  unfold gcFr
  rw [gc_wset w hb (fun v hv' r hr => by
    obtain ⟨p, hp', rfl⟩ := List.mem_map.1 hv'
    exact hv p hp' r hr) hd]
  simp only [Option.map_some, zip_self]
theorem dirt_new {a : Nat} (hl : l.length = 0) (hm : m.length ≠ 0) : dirt a l m = [a] := by
  unfold dirt
  rw [if_neg (by simp only [nb]; omega)]
theorem fit_wset {hq : List Blk} (h : Fit hq.length L H) : Fit (Bt.wset hq a k m).length L H := h.mono wset_length_le
theorem put_round (w : Ws hq L H a k l) {b3 b : Nat} {d : List Nat} {fr : Fr} (hb : b < 2) (hs : l.length ≤ 8388000) (hF : Fit hq.length L H) (h3 : fr.get 3 = some (.pointer (some ⟨b3, 0, some 0⟩))) (hb3 : hq[b3]? = some (.cells 0 false [.pointer (some ⟨a, 0, some 0⟩)])) (hH3 : H.contains b3 = false) :
    Lrun (.yl env [19] putBA putB fr) (.yield 0) [.int .u8 b] ⟨hq, L, H, d⟩ = some (.bool true, ⟨Bt.wset hq a k (l ++ [b]), L, H, joinDirty d (dirt1 a l)⟩) := by
  rw [round_sym _ _ _ _ _ _ _ ⟨rfl, rfl⟩]
  have hadd := w.add (d := []) hb hs hF
  have hg := gc_wset (m := l ++ [b]) (vs := []) w rfl (d := joinDirty [] (dirt1 a l)) (by simp) (fun h1 h2 => by simp [dirt1, h1, joinDirty])
  have hj : joinDirty [] (dirt1 a l) = dirt1 a l := by unfold dirt1; split <;> simp [joinDirty]
  simp (disch := (first | omega | (simp only [lnE] <;> omega) | (refine Fit.mono ‹Fit _ _ _› ?_ <;> (simp only [lnE] <;> omega)) | (refine Fit.draw ‹Fit _ _ _› ?_ ?_ <;> (simp only [lnE] <;> omega)) | (refine Fit.hid1 ‹Fit _ _ _› ?_ ?_ <;> (simp only [lnE] <;> omega)) | (refine Fit.hidc1 ‹Fit _ _ _› ?_ ?_ <;> (simp only [lnE] <;> omega)) | (refine Fit.hidc2 ‹Fit _ _ _› ?_ ?_ ?_ <;> (simp only [lnE] <;> omega)) | (refine Fit.draw1 ‹Fit _ _ _› ?_ ?_ ?_ <;> (simp only [lnE] <;> omega)) | (refine Fit.range0 ?_ ?_ <;> (simp only [lnE] <;> omega)) | fail)) only [syA, syB, argFr, D, E, T, C, undefv, eqF, aeq, sheqs, sheq, rdCells, cellsOf, fill, putAt, if_true, if_false, reduceIte, ↓reduceIte, reduceCtorEq, eq_self, Nat.reduceEqDiff, Nat.reduceAdd, Nat.reduceSub, Nat.reduceMul, Nat.reduceLT, Nat.reduceLeDiff, Nat.reducePow, Nat.reduceDiv, Nat.reduceMod, Int.reduceLT, Int.reduceLE, Int.reduceGT, Int.reduceGE, Int.reduceToNat, Int.reducePow, Int.reduceNeg, Int.reduceBEq, Int.reduceBNe, Int.reduceEq, Int.reduceAdd, Int.reduceSub, Int.reduceMul, cellv, sc, flatv, refs, refsF, refsC, hF.not0, hF.not1, hF.up0, hF.up1, putBA, putB, List.zip_cons_cons, List.zip_nil_left, h3, hb3, hH3, hadd, hj]
  rw [hj] at hg
  rw [hg]
  rfl
theorem and1_8 (n : Nat) : andI 8 (IntKind.u8.wrap (n : Int)) 1 = (n % 2 : Nat) := by
  rw [wu8m]
  have := mask 8 ((n : Int) % 256) 1 (by omega) (by omega) (by omega)
  unfold andI
  rw [show (1 : Int) = ((2 ^ 1 - 1 : Nat) : Int) by decide, this]
  omega
theorem nb_mono_snoc (l : List Nat) (b : Nat) : nb l ≤ nb (l ++ [b]) := by rw [nb_snoc]; omega
def endFr (bv : Nat) : Fr := [(8, .bool false), (7, .int .i64 (-1)), (2, .pointer (some ⟨bv, 0, some 0⟩)), (0, .func (.yield 0) #[] #[]), (4, .int .i64 (-1))]
theorem put_loop {l0 : List Nat} (w : Ws hq L H a k l0) {b3 bv v : Nat} {fr : Fr} (hv : v < 4294967296) (hF : Fit hq.length L H) (h3 : fr.get 3 = some (.pointer (some ⟨b3, 0, some 0⟩))) (hb3 : hq[b3]? = some (.cells 0 false [.pointer (some ⟨a, 0, some 0⟩)])) (hH3 : H.contains b3 = false)
    (h3a : b3 ≠ a) (h3k : b3 ≠ k) (hbv : hq[bv]? = some (.cells 0 true [.int .u32 v])) (hHv : H.contains bv = false) (hva : bv ≠ a) (hvk : bv ≠ k) : ∀ (m : Nat) (l' : List Nat), m ≤ 32 → (l'.length = 0 → l0.length = 0) → nb l0 ≤ nb l' → Bits l' → l'.length + m ≤ 8388000 →
    Liter (.yl env [19] putBA putB fr) lb58_0 [2, 0, 4] hq.length [(2, .pointer (some ⟨bv, 0, some 0⟩)), (0, .func (.yield 0) #[] #[]), (4, .int .i64 ((m : Int) - 1))] ⟨Bt.wset hq a k l', L, H, dirt a l0 l'⟩
      = some (.exit 0, endFr bv, ⟨Bt.wset hq a k (l' ++ bitsAt v m), L, H, dirt a l0 (l' ++ bitsAt v m)⟩)
  | 0, l', _, _, _, _, _ => by
    rw [iter_by lb58_0.eq_1]
    rw [bitsAt, List.append_nil]
    have h1 : ((0 : Nat) : Int) - 1 = -1 := rfl
    rw [h1]
    have h2 : ¬ (0 : Int) ≤ -1 := by decide
    simp (disch := (first | omega | (simp only [lnE] <;> omega) | (refine Fit.mono ‹Fit _ _ _› ?_ <;> (simp only [lnE] <;> omega)) | (refine Fit.draw ‹Fit _ _ _› ?_ ?_ <;> (simp only [lnE] <;> omega)) | (refine Fit.hid1 ‹Fit _ _ _› ?_ ?_ <;> (simp only [lnE] <;> omega)) | (refine Fit.hidc1 ‹Fit _ _ _› ?_ ?_ <;> (simp only [lnE] <;> omega)) | (refine Fit.hidc2 ‹Fit _ _ _› ?_ ?_ ?_ <;> (simp only [lnE] <;> omega)) | (refine Fit.draw1 ‹Fit _ _ _› ?_ ?_ ?_ <;> (simp only [lnE] <;> omega)) | (refine Fit.range0 ?_ ?_ <;> (simp only [lnE] <;> omega)) | fail)) only [syA, syB, argFr, D, E, T, C, undefv, eqF, aeq, sheqs, sheq, rdCells, cellsOf, fill, putAt, if_true, if_false, reduceIte, ↓reduceIte, reduceCtorEq, eq_self, Nat.reduceEqDiff, Nat.reduceAdd, Nat.reduceSub, Nat.reduceMul, Nat.reduceLT, Nat.reduceLeDiff, Nat.reducePow, Nat.reduceDiv, Nat.reduceMod, Int.reduceLT, Int.reduceLE, Int.reduceGT, Int.reduceGE, Int.reduceToNat, Int.reducePow, Int.reduceNeg, Int.reduceBEq, Int.reduceBNe, Int.reduceEq, Int.reduceAdd, Int.reduceSub, Int.reduceMul, cellv, sc, flatv, refs, refsF, refsC, h2]
    rfl
  | m + 1, l', hm, h0, hn, hbt, hs => by
    have hb : v / 2 ^ m % 2 < 2 := Nat.mod_lt _ (by decide)
    have w' := w.wset h0 hbt
    have hvl := (List.getElem?_eq_some_iff.1 hbv).1
    have h3l := (List.getElem?_eq_some_iff.1 hb3).1
    have hr := fun d => put_round (d := d) w' hb (by omega) (fit_wset hF) h3 (by rw [wset_other w h3l h3a h3k]; exact hb3) hH3
    have ih := put_loop w hv hF h3 hb3 hH3 h3a h3k hbv hHv hva hvk m (l' ++ [v / 2 ^ m % 2]) (by omega) (fun h => by simp at h) (Nat.le_trans hn (nb_mono_snoc ..)) (hbt.append (Bits.one hb)) (by simp; omega)
    rw [List.append_assoc] at ih
    have hbits : bitsAt v (m + 1) = [v / 2 ^ m % 2] ++ bitsAt v m := rfl
    rw [hbits]
    rw [iter_by lb58_0.eq_1]
    have e1 : ((m + 1 : Nat) : Int) - 1 = (m : Int) := by omega
    rw [e1]
    have hgv : (Bt.wset hq a k l')[bv]? = some (.cells 0 true [.int .u32 v]) := by rw [wset_other w hvl hva hvk]; exact hbv
    have hneg : ((m : Int) < 0) = False := eq_false (by omega)
    have hge : (0 : Int) ≤ (m : Int) := by omega
    have hmin : min ((m : Int)).toNat 32 = m := by omega
    have hfd : (v : Int).fdiv (2 ^ m) = (v / 2 ^ m : Nat) := by
      rw [fdiv_pos _ (Int.pow_nonneg (by decide))]; push_cast; rfl
    have hand := and1_8 (v / 2 ^ m)
    have hww := wset_wset (m := l') w (n := l' ++ [v / 2 ^ m % 2]) (by simp)
    have hdd := dirt_snoc hn a (v / 2 ^ m % 2)
    have hgc := gcFr_wset (m := l' ++ [v / 2 ^ m % 2]) w rfl (d := dirt a l0 (l' ++ [v / 2 ^ m % 2])) (fr := [(2, .pointer (some ⟨bv, 0, some 0⟩)), (0, .func (.yield 0) #[] #[]), (4, .int .i64 ((m : Int) - 1))]) (by
      intro p hp r hr
      simp only [List.mem_cons, List.not_mem_nil, or_false] at hp
      rcases hp with rfl | rfl | rfl
      · simp [refs, refsF, refsC] at hr; omega
      · simp [refs, refsF] at hr
      · simp [refs, refsF, refsC] at hr) (fun h1 h2 => dirt_new h1 h2)
    simp (disch := (first | omega | (simp only [lnE] <;> omega) | (refine Fit.mono ‹Fit _ _ _› ?_ <;> (simp only [lnE] <;> omega)) | (refine Fit.draw ‹Fit _ _ _› ?_ ?_ <;> (simp only [lnE] <;> omega)) | (refine Fit.hid1 ‹Fit _ _ _› ?_ ?_ <;> (simp only [lnE] <;> omega)) | (refine Fit.hidc1 ‹Fit _ _ _› ?_ ?_ <;> (simp only [lnE] <;> omega)) | (refine Fit.hidc2 ‹Fit _ _ _› ?_ ?_ ?_ <;> (simp only [lnE] <;> omega)) | (refine Fit.draw1 ‹Fit _ _ _› ?_ ?_ ?_ <;> (simp only [lnE] <;> omega)) | (refine Fit.range0 ?_ ?_ <;> (simp only [lnE] <;> omega)) | fail)) only [syA, syB, argFr, D, E, T, C, undefv, eqF, aeq, sheqs, sheq, rdCells, cellsOf, fill, putAt, if_true, if_false, reduceIte, ↓reduceIte, reduceCtorEq, eq_self, Nat.reduceEqDiff, Nat.reduceAdd, Nat.reduceSub, Nat.reduceMul, Nat.reduceLT, Nat.reduceLeDiff, Nat.reducePow, Nat.reduceDiv, Nat.reduceMod, Int.reduceLT, Int.reduceLE, Int.reduceGT, Int.reduceGE, Int.reduceToNat, Int.reducePow, Int.reduceNeg, Int.reduceBEq, Int.reduceBNe, Int.reduceEq, Int.reduceAdd, Int.reduceSub, Int.reduceMul, cellv, sc, flatv, refs, refsF, refsC, hge, hgv, hHv, hneg, hmin, hfd, hand, hr, hww, hdd, hgc]
    simp only [List.cons_append, List.nil_append] at ih
    exact ih
end
end Bt
end Go.Proofs.Ytlphmnhkkhcjfaa
end
