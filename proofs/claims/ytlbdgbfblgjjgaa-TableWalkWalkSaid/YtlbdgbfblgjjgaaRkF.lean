/-
  RANKS: Make, and the chapter's examples, on the abstract machine. Conditions: none.
-/
import Derived.Test.YtlbdgbfblgjjgaaRkE
set_option linter.all false
namespace Go.Proofs.Ytlbdgbfblgjjgaa
namespace ArA
open Go Go.RowKit AM ArEnv

theorem rValid_live {A B : Arn} (h : B.live = A.live) (s m t z k : Int) : rValid B s m t z k = rValid A s m t z k := by
  unfold rValid; rw [has_live h, has_live h]
theorem rl_live (l : List Nat) (sz : Nat) : (rl l sz).live = ((l.length + sz + 1 : Nat) : Int) := by
  simp [rl, Arn.laid]; omega
theorem rl_len (l : List Nat) (sz : Nat) : (rl l sz).bs.length = l.length + sz + 1 := laid_len (by simp; omega)
theorem rl_holds (l : List Nat) (sz : Nat) : Holds (rl l sz) 0 l := ⟨by rw [rl_live]; omega, fun i hi => by
  unfold rl Arn.laid
  simp only [Nat.zero_add]
  rw [List.append_assoc, List.getElem?_append_left hi, List.getElem?_eq_getElem hi]⟩
theorem rl_by {l : List Nat} (h : By l) (sz : Nat) : By (rl l sz).bs := by
  unfold rl Arn.laid
  exact (h.append fun x hx => by rw [List.mem_replicate] at hx; omega).append fun x hx => by rw [List.mem_replicate] at hx; omega
theorem rl_valid {l : List Nat} {sz : Nat} {kk : Int} (h1 : 1 ≤ l.length) (h2 : l.length ≤ 65536) (h3 : 1 ≤ kk ∧ kk ≤ 65536) (hs : rSize l.length kk = sz) : rValid (rl l sz) (0 : Nat) l.length l.length sz kk = true := by
  have a1 : (rl l sz).has (0 : Nat) l.length = true := by rw [Arn.has_iff, rl_live]; omega
  have a2 : (rl l sz).has l.length sz = true := by rw [Arn.has_iff, rl_live]; omega
  unfold rValid rApart
  rw [a1, a2, hs]
  simp
  omega
theorem rl_has9 {l : List Nat} {sz e : Nat} : (rl l (sz + e)).has (0 : Nat) l.length = true ∧ (rl l (sz + e)).has l.length sz = true := by
  constructor <;> (rw [Arn.has_iff, rl_live]; omega)
theorem rl_ok {n r q : Nat} {H : List Nat} {l : List Nat} {sz : Nat} (hr : r < n) (hq : q < n) (hne : r ≠ q) (h1 : H.contains r = false) (h2 : H.contains q = false) (hl : By l) (hs : l.length + sz + 1 ≤ 1048576) : ArOk n r q H (rl l sz) :=
  ArOk.laid hr hq hne (hl.append fun x hx => by rw [List.mem_replicate] at hx; omega) (by simp; omega) (by omega) h1 h2
section
variable {hp : List Blk} {L : Nat} {H d : List Nat} {r q : Nat} {A : Arn}
theorem rValid_parts {s m t z k : Int} (h : rValid A s m t z k = true) : A.has s m = true ∧ A.has t z = true ∧ (1 ≤ m ∧ m ≤ 65536) ∧ (1 ≤ k ∧ k ≤ 65536) ∧ (m = 0 ∨ z = 0 ∨ s + m ≤ t ∨ t + z ≤ s) ∧ rSize m k ≤ z := by
  unfold rValid rApart at h
  simp only [Bool.and_eq_true, decide_eq_true_eq] at h
  exact ⟨h.1.1.1.1.1, h.1.1.1.1.2, h.1.1.1.2, h.1.1.2, h.1.2, h.2⟩
theorem rSize_nat {m k : Nat} (h1 : 1 ≤ m ∧ m ≤ 65536) (h2 : 1 ≤ k ∧ k ≤ 65536) : rSize m k = ((4 * (256 * (m / k)) : Nat) : Int) := by
  unfold rSize
  rw [if_pos (by omega), Int.tdiv_eq_ediv_of_nonneg (by omega)]
  have : ((m / k : Nat) : Int) = (m : Int) / (k : Int) := rfl
  rw [← this]
  generalize m / k = y
  omega
theorem make_walk (hF : Fit hp.length L H) (k : ArOk hp.length r q H A) (hw : L ≤ r ∧ L ≤ q) {s t z kk : Nat} {x : List Nat} (hx : Holds A s x) (hv : rValid A s x.length t z kk = true) : ∃ B,
    (∀ d, Lrun env (.func 57) [arP r, .agg #[.int .i64 s, .int .i64 x.length], .agg #[.int .i64 t, .int .i64 z], .int .i64 kk] ⟨put hp r q A, L, H, d⟩ = some (.int .i64 0, ⟨put hp r q B, L, H, d⟩)) ∧ Marked A B t x kk (256 * (x.length / kk)) := by
  obtain ⟨v1, v2, v3, v4, v5, v6⟩ := rValid_parts hv
  have hrl := k.r_lt
  have hql := k.q_lt
  have b2 := Arn.has_iff.1 v2
  rw [rSize_nat (by omega) (by omega)] at v6
  have v7 : 4 * (256 * (x.length / kk)) ≤ z := Int.ofNat_le.1 v6
  have hap : ∀ i, i < x.length → ∀ n, 4 * n ≤ z → s + i < t ∨ t + 4 * n ≤ s + i := fun i hi n hn => by
    clear v6 v7
    omega
  have hdl : x.length / kk * kk ≤ x.length := Nat.div_mul_le_self _ _
  obtain ⟨fr, B, e1, hM⟩ := make_loop (hp := hp) hF k hw (z := z) hx (by clear v6 v7; omega) (by clear v6 v7; omega) (by clear v6 v7; omega) v7 hap (x.length / kk * kk) 0 (by omega) A (by rw [Nat.zero_div]; exact Marked.zero k.by_ _ _ _)
  refine ⟨B, fun d => ?_, hM⟩
  have hk0 : ¬ (kk : Int) = 0 := by omega
  have hq : Int.tdiv (x.length : Int) (kk : Int) = ((x.length / kk : Nat) : Int) := by rw [Int.tdiv_eq_ediv_of_nonneg (by omega)]; rfl
  have hmul : ((x.length / kk : Nat) : Int) * (kk : Int) = ((x.length / kk * kk : Nat) : Int) := by simp
  have hdle : x.length / kk ≤ x.length := Nat.div_le_self _ _
  have vw := fun nw => rvalid_walk (d := []) (L := L) (H := H) (hp := hp ++ nw) (r := r) (q := q) (hF.mono (by simp)) (k.mono (by simp)) s x.length t z kk
  simp only [hv] at vw
  clear hM v6 v7
  generalize x.length / kk * kk = tt at *
  generalize x.length / kk = dd at *
  simp only [List.take_zero, Int.natCast_zero] at e1
  rw [Lrun_sym 57 _ _ fn57]
  simp (disch := (first | omega | (simp only [lnE, put_length] <;> omega) | (refine Fit.mono ‹Fit _ _ _› ?_ <;> (simp only [lnE, put_length] <;> omega)) | (refine Fit.draw ‹Fit _ _ _› ?_ ?_ <;> (simp only [lnE, put_length] <;> omega)) | (refine Fit.hid1 ‹Fit _ _ _› ?_ ?_ <;> (simp only [lnE, put_length] <;> omega)) | (refine Fit.draw1 ‹Fit _ _ _› ?_ ?_ ?_ <;> (simp only [lnE, put_length] <;> omega)) | (refine Fit.range0 ?_ ?_ <;> (simp only [lnE, put_length] <;> omega)) | (refine ArOk.mono ‹ArOk _ _ _ _ _› ?_ <;> (simp only [lnE, put_length] <;> omega)) | (refine ArOk.hid ‹ArOk _ _ _ _ _› ?_ ?_ <;> (simp only [lnE, put_length] <;> omega)) | (refine ArOk.hid0 ‹ArOk _ _ _ _ _› ?_ ?_ <;> (simp only [lnE, put_length] <;> omega)) | ((intro xr hxr; simp [AM.refs, refsF, refsC] at hxr) <;> (simp only [lnE, put_length] <;> omega)) | fail)) only [syA, syB, argFr, D, E, T, C, undefv, eqF, aeq, sheqs, sheq, rdCells, cellsOf, fill, putAt, if_true, if_false, reduceIte, ↓reduceIte, reduceCtorEq, eq_self, Nat.reduceEqDiff, Nat.reduceAdd, Nat.reduceSub, Nat.reduceMul, Nat.reduceLT, Nat.reduceLeDiff, Nat.reducePow, Nat.reduceDiv, Nat.reduceMod, Int.reduceLT, Int.reduceLE, Int.reduceGT, Int.reduceGE, Int.reduceToNat, Int.reducePow, Int.reduceNeg, Int.reduceBEq, Int.reduceBNe, Int.reduceEq, Int.reduceAdd, Int.reduceSub, Int.reduceMul, cellv, sc, flatv, refs, refsF, refsC, syR, Int.le_refl, hF.not0, hF.not1, hF.up0, hF.up1, k.hr, k.hq, ac57, vw, c256_nil, hk0, hq, hmul, e1]
theorem rank_bad (hF : Fit hp.length L H) (k : ArOk hp.length r q H A) {s m t z kk p : Int} {c : Nat} (hc : c < 256) (h : rValid A s m t z kk = false ∨ ¬ (0 ≤ p ∧ p ≤ m)) :
    Lrun env (.func 58) [arP r, .agg #[.int .i64 s, .int .i64 m], .agg #[.int .i64 t, .int .i64 z], .int .i64 kk, .int .u8 c, .int .i64 p] ⟨put hp r q A, L, H, d⟩ =
      some (.tuple #[.int .i64 0, .int .i64 0, .bool false], ⟨put hp r q A, L, H, d⟩) := by
  have h1 := k.r_lt
  have h2 := k.q_lt
  rw [Lrun_sym 58 _ _ fn58]
  cases hv : rValid A s m t z kk with
  | false => simp (disch := (first | omega | (simp only [lnE, put_length] <;> omega) | (refine Fit.mono ‹Fit _ _ _› ?_ <;> (simp only [lnE, put_length] <;> omega)) | (refine Fit.draw ‹Fit _ _ _› ?_ ?_ <;> (simp only [lnE, put_length] <;> omega)) | (refine Fit.hid1 ‹Fit _ _ _› ?_ ?_ <;> (simp only [lnE, put_length] <;> omega)) | (refine Fit.draw1 ‹Fit _ _ _› ?_ ?_ ?_ <;> (simp only [lnE, put_length] <;> omega)) | (refine Fit.range0 ?_ ?_ <;> (simp only [lnE, put_length] <;> omega)) | (refine ArOk.mono ‹ArOk _ _ _ _ _› ?_ <;> (simp only [lnE, put_length] <;> omega)) | (refine ArOk.hid ‹ArOk _ _ _ _ _› ?_ ?_ <;> (simp only [lnE, put_length] <;> omega)) | (refine ArOk.hid0 ‹ArOk _ _ _ _ _› ?_ ?_ <;> (simp only [lnE, put_length] <;> omega)) | ((intro xr hxr; simp [AM.refs, refsF, refsC] at hxr) <;> (simp only [lnE, put_length] <;> omega)) | fail)) only [syA, syB, argFr, D, E, T, C, undefv, eqF, aeq, sheqs, sheq, rdCells, cellsOf, fill, putAt, if_true, if_false, reduceIte, ↓reduceIte, reduceCtorEq, eq_self, Nat.reduceEqDiff, Nat.reduceAdd, Nat.reduceSub, Nat.reduceMul, Nat.reduceLT, Nat.reduceLeDiff, Nat.reducePow, Nat.reduceDiv, Nat.reduceMod, Int.reduceLT, Int.reduceLE, Int.reduceGT, Int.reduceGE, Int.reduceToNat, Int.reducePow, Int.reduceNeg, Int.reduceBEq, Int.reduceBNe, Int.reduceEq, Int.reduceAdd, Int.reduceSub, Int.reduceMul, cellv, sc, flatv, refs, refsF, refsC, syR, Int.le_refl, hF.not0, hF.not1, hF.up0, hF.up1, k.hr, k.hq, ac58, rvalid_walk, hv]
  | true =>
    have hp : ¬ (0 ≤ p ∧ p ≤ m) := by
      rcases h with h | h
      · rw [hv] at h; cases h
      · exact h
    have d1 : decide (0 ≤ p ∧ p ≤ m) = false := by simpa using hp
    simp (disch := (first | omega | (simp only [lnE, put_length] <;> omega) | (refine Fit.mono ‹Fit _ _ _› ?_ <;> (simp only [lnE, put_length] <;> omega)) | (refine Fit.draw ‹Fit _ _ _› ?_ ?_ <;> (simp only [lnE, put_length] <;> omega)) | (refine Fit.hid1 ‹Fit _ _ _› ?_ ?_ <;> (simp only [lnE, put_length] <;> omega)) | (refine Fit.draw1 ‹Fit _ _ _› ?_ ?_ ?_ <;> (simp only [lnE, put_length] <;> omega)) | (refine Fit.range0 ?_ ?_ <;> (simp only [lnE, put_length] <;> omega)) | (refine ArOk.mono ‹ArOk _ _ _ _ _› ?_ <;> (simp only [lnE, put_length] <;> omega)) | (refine ArOk.hid ‹ArOk _ _ _ _ _› ?_ ?_ <;> (simp only [lnE, put_length] <;> omega)) | (refine ArOk.hid0 ‹ArOk _ _ _ _ _› ?_ ?_ <;> (simp only [lnE, put_length] <;> omega)) | ((intro xr hxr; simp [AM.refs, refsF, refsC] at hxr) <;> (simp only [lnE, put_length] <;> omega)) | fail)) only [syA, syB, argFr, D, E, T, C, undefv, eqF, aeq, sheqs, sheq, rdCells, cellsOf, fill, putAt, if_true, if_false, reduceIte, ↓reduceIte, reduceCtorEq, eq_self, Nat.reduceEqDiff, Nat.reduceAdd, Nat.reduceSub, Nat.reduceMul, Nat.reduceLT, Nat.reduceLeDiff, Nat.reducePow, Nat.reduceDiv, Nat.reduceMod, Int.reduceLT, Int.reduceLE, Int.reduceGT, Int.reduceGE, Int.reduceToNat, Int.reducePow, Int.reduceNeg, Int.reduceBEq, Int.reduceBNe, Int.reduceEq, Int.reduceAdd, Int.reduceSub, Int.reduceMul, cellv, sc, flatv, refs, refsF, refsC, syR, Int.le_refl, hF.not0, hF.not1, hF.up0, hF.up1, k.hr, k.hq, ac58, rvalid_walk, hv, within_walk, d1]
end
theorem Holds.load {A : Arn} {s : Nat} {x : List Nat} (h : Holds A s x) : A.loadO s x.length = some x := by
  unfold Arn.loadO
  rw [if_pos h.has]
  congr 1
  simp only [Int.toNat_natCast]
  apply List.ext_getElem?
  intro i
  by_cases hi : i < x.length
  · rw [List.getElem?_take_of_lt hi, List.getElem?_drop, h.get i hi, List.getElem?_eq_getElem hi]
  · rw [List.getElem?_eq_none (by simp; omega), List.getElem?_eq_none (by omega)]
theorem gc_bool_new {h nw : List Blk} {L r q : Nat} {H : List Nat} {b : Bool} {A : Arn} (hr : h.length ≤ r) (hq : h.length ≤ q) (hn : 0 < nw.length) : gc h.length [.bool b] ⟨put (h ++ nw) r q A, L, H, []⟩ = some ([.bool b], ⟨h, L, H, []⟩) := by
  have htake : (put (h ++ nw) r q A).take h.length = h := by
    apply List.ext_getElem?
    intro i
    rw [List.getElem?_take]
    split
    · rename_i hi
      rw [put_o (by omega) (by omega), List.getElem?_append_left hi]
    · rename_i hi
      rw [List.getElem?_eq_none (by omega)]
  unfold gc
  rw [if_neg (by show ¬ (put (h ++ nw) r q A).length ≤ h.length; rw [put_length, List.length_append]; omega)]
  simp only [htake]
  rfl
/-! ### The examples -/
def ann : List Nat := [97, 110, 110, 98, 97, 97]
end ArA
end Go.Proofs.Ytlbdgbfblgjjgaa
