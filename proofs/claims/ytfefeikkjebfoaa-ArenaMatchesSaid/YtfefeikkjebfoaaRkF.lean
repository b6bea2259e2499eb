/-
  RANKS: Make, and the chapter's examples, on the abstract machine. Conditions: none.
-/
import Derived.Test.YtfefeikkjebfoaaRkE
set_option linter.all false
namespace Go.Proofs.Ytfefeikkjebfoaa
namespace ArA
open Go Go.RowKit AM ArEnv

theorem rValid_live {A B : Arn} (h : B.live = A.live) (s m t z k : Int) : rValid B s m t z k = rValid A s m t z k := by
  unfold rValid; rw [has_live h, has_live h]
theorem rl_live (l : List Nat) (sz : Nat) : (rl l sz).live = ((l.length + sz + 1 : Nat) : Int) := by
  simp [rl, Arn.laid]; omega
theorem rl_len (l : List Nat) (sz : Nat) : (rl l sz).bs.length = l.length + sz + 1 := laid_len (by simp; omega)
theorem rl_holds (l : List Nat) (sz : Nat) : Holds (rl l sz) 0 l := ⟨by rw [rl_live]; omega, fun i hi => by
  unfold rl Arn.laid
  simp only [Nat.zero_add]
  rw [List.append_assoc, List.getElem?_append_left hi, List.getElem?_eq_getElem hi]⟩
theorem rl_by {l : List Nat} (h : By l) (sz : Nat) : By (rl l sz).bs := by
  unfold rl Arn.laid
  exact (h.append fun x hx => by rw [List.mem_replicate] at hx; omega).append fun x hx => by rw [List.mem_replicate] at hx; omega
theorem rl_valid {l : List Nat} {sz : Nat} {kk : Int} (h1 : 1 ≤ l.length) (h2 : l.length ≤ 65536) (h3 : 1 ≤ kk ∧ kk ≤ 65536) (hs : rSize l.length kk = sz) : rValid (rl l sz) (0 : Nat) l.length l.length sz kk = true := by
  have a1 : (rl l sz).has (0 : Nat) l.length = true := by rw [Arn.has_iff, rl_live]; omega
  have a2 : (rl l sz).has l.length sz = true := by rw [Arn.has_iff, rl_live]; omega
  unfold rValid rApart
  rw [a1, a2, hs]
  simp
  omega
theorem rl_has9 {l : List Nat} {sz e : Nat} : (rl l (sz + e)).has (0 : Nat) l.length = true ∧ (rl l (sz + e)).has l.length sz = true := by
  constructor <;> (rw [Arn.has_iff, rl_live]; omega)
theorem rl_ok {n r q : Nat} {H : List Nat} {l : List Nat} {sz : Nat} (hr : r < n) (hq : q < n) (hne : r ≠ q) (h1 : H.contains r = false) (h2 : H.contains q = false) (hl : By l) (hs : l.length + sz + 1 ≤ 1048576) : ArOk n r q H (rl l sz) :=
  ArOk.laid hr hq hne (hl.append fun x hx => by rw [List.mem_replicate] at hx; omega) (by simp; omega) (by omega) h1 h2
section
variable {hp : List Blk} {L : Nat} {H d : List Nat} {r q : Nat} {A : Arn}
theorem rValid_parts {s m t z k : Int} (h : rValid A s m t z k = true) : A.has s m = true ∧ A.has t z = true ∧ (1 ≤ m ∧ m ≤ 65536) ∧ (1 ≤ k ∧ k ≤ 65536) ∧ (m = 0 ∨ z = 0 ∨ s + m ≤ t ∨ t + z ≤ s) ∧ rSize m k ≤ z := by
  unfold rValid rApart at h
  simp only [Bool.and_eq_true, decide_eq_true_eq] at h
  exact ⟨h.1.1.1.1.1, h.1.1.1.1.2, h.1.1.1.2, h.1.1.2, h.1.2, h.2⟩
theorem rSize_nat {m k : Nat} (h1 : 1 ≤ m ∧ m ≤ 65536) (h2 : 1 ≤ k ∧ k ≤ 65536) : rSize m k = ((4 * (256 * (m / k)) : Nat) : Int) := by
  unfold rSize
  rw [if_pos (by omega), Int.tdiv_eq_ediv_of_nonneg (by omega)]
  have : ((m / k : Nat) : Int) = (m : Int) / (k : Int) := rfl
  rw [← this]
  generalize m / k = y
  omega
theorem make_walk (hF : Fit hp.length L H) (k : ArOk hp.length r q H A) (hw : L ≤ r ∧ L ≤ q) {s t z kk : Nat} {x : List Nat} (hx : Holds A s x) (hv : rValid A s x.length t z kk = true) : ∃ B,
    (∀ d, Lrun env (.func 56) [arP r, .agg #[.int .i64 s, .int .i64 x.length], .agg #[.int .i64 t, .int .i64 z], .int .i64 kk] ⟨put hp r q A, L, H, d⟩ = some (.int .i64 0, ⟨put hp r q B, L, H, d⟩)) ∧ Marked A B t x kk (256 * (x.length / kk)) := by
  obtain ⟨v1, v2, v3, v4, v5, v6⟩ := rValid_parts hv
  have hrl := k.r_lt
  have hql := k.q_lt
  have b2 := Arn.has_iff.1 v2
  rw [rSize_nat (by omega) (by omega)] at v6
  have v7 : 4 * (256 * (x.length / kk)) ≤ z := Int.ofNat_le.1 v6
  have hap : ∀ i, i < x.length → ∀ n, 4 * n ≤ z → s + i < t ∨ t + 4 * n ≤ s + i := fun i hi n hn => by
    clear v6 v7
    omega
  have hdl : x.length / kk * kk ≤ x.length := Nat.div_mul_le_self _ _
  obtain ⟨fr, B, e1, hM⟩ := make_loop (hp := hp) hF k hw (z := z) hx (by clear v6 v7; omega) (by clear v6 v7; omega) (by clear v6 v7; omega) v7 hap (x.length / kk * kk) 0 (by omega) A (by rw [Nat.zero_div]; exact Marked.zero k.by_ _ _ _)
  refine ⟨B, fun d => ?_, hM⟩
  have hk0 : ¬ (kk : Int) = 0 := by omega
  have hq : Int.tdiv (x.length : Int) (kk : Int) = ((x.length / kk : Nat) : Int) := by rw [Int.tdiv_eq_ediv_of_nonneg (by omega)]; rfl
  have hmul : ((x.length / kk : Nat) : Int) * (kk : Int) = ((x.length / kk * kk : Nat) : Int) := by simp
  have hdle : x.length / kk ≤ x.length := Nat.div_le_self _ _
  have vw := fun nw => rvalid_walk (d := []) (L := L) (H := H) (hp := hp ++ nw) (r := r) (q := q) (hF.mono (by simp)) (k.mono (by simp)) s x.length t z kk
  simp only [hv] at vw
  clear hM v6 v7
  generalize x.length / kk * kk = tt at *
  generalize x.length / kk = dd at *
  simp only [List.take_zero, Int.natCast_zero] at e1
  rw [Lrun_sym 56 _ _ fn56]
  simp (disch := (first | omega | (simp only [lnE, put_length] <;> omega) | (refine Fit.mono ‹Fit _ _ _› ?_ <;> (simp only [lnE, put_length] <;> omega)) | (refine Fit.draw ‹Fit _ _ _› ?_ ?_ <;> (simp only [lnE, put_length] <;> omega)) | (refine Fit.hid1 ‹Fit _ _ _› ?_ ?_ <;> (simp only [lnE, put_length] <;> omega)) | (refine Fit.hidc1 ‹Fit _ _ _› ?_ ?_ <;> (simp only [lnE, put_length] <;> omega)) | (refine Fit.hidc2 ‹Fit _ _ _› ?_ ?_ ?_ <;> (simp only [lnE, put_length] <;> omega)) | (refine Fit.draw1 ‹Fit _ _ _› ?_ ?_ ?_ <;> (simp only [lnE, put_length] <;> omega)) | (refine Fit.range0 ?_ ?_ <;> (simp only [lnE, put_length] <;> omega)) | (refine ArOk.mono ‹ArOk _ _ _ _ _› ?_ <;> (simp only [lnE, put_length] <;> omega)) | (refine ArOk.hid ‹ArOk _ _ _ _ _› ?_ ?_ <;> (simp only [lnE, put_length] <;> omega)) | (refine ArOk.hid0 ‹ArOk _ _ _ _ _› ?_ ?_ <;> (simp only [lnE, put_length] <;> omega)) | ((intro xr hxr; simp [AM.refs, refsF, refsC] at hxr) <;> (simp only [lnE, put_length] <;> omega)) | fail)) only [syA, syB, argFr, D, E, T, C, undefv, eqF, aeq, sheqs, sheq, rdCells, cellsOf, fill, putAt, if_true, if_false, reduceIte, ↓reduceIte, reduceCtorEq, eq_self, Nat.reduceEqDiff, Nat.reduceAdd, Nat.reduceSub, Nat.reduceMul, Nat.reduceLT, Nat.reduceLeDiff, Nat.reducePow, Nat.reduceDiv, Nat.reduceMod, Int.reduceLT, Int.reduceLE, Int.reduceGT, Int.reduceGE, Int.reduceToNat, Int.reducePow, Int.reduceNeg, Int.reduceBEq, Int.reduceBNe, Int.reduceEq, Int.reduceAdd, Int.reduceSub, Int.reduceMul, cellv, sc, flatv, refs, refsF, refsC, syR, Int.le_refl, hF.not0, hF.not1, hF.up0, hF.up1, k.hr, k.hq, ac56, vw, c256_nil, hk0, hq, hmul, e1]
theorem rank_bad (hF : Fit hp.length L H) (k : ArOk hp.length r q H A) {s m t z kk p : Int} {c : Nat} (hc : c < 256) (h : rValid A s m t z kk = false ∨ ¬ (0 ≤ p ∧ p ≤ m)) :
    Lrun env (.func 48) [arP r, .agg #[.int .i64 s, .int .i64 m], .agg #[.int .i64 t, .int .i64 z], .int .i64 kk, .int .u8 c, .int .i64 p] ⟨put hp r q A, L, H, d⟩ =
      some (.tuple #[.int .i64 0, .int .i64 0, .bool false], ⟨put hp r q A, L, H, d⟩) := by
  have h1 := k.r_lt
  have h2 := k.q_lt
  rw [Lrun_sym 48 _ _ fn48]
  cases hv : rValid A s m t z kk with
  | false => simp (disch := (first | omega | (simp only [lnE, put_length] <;> omega) | (refine Fit.mono ‹Fit _ _ _› ?_ <;> (simp only [lnE, put_length] <;> omega)) | (refine Fit.draw ‹Fit _ _ _› ?_ ?_ <;> (simp only [lnE, put_length] <;> omega)) | (refine Fit.hid1 ‹Fit _ _ _› ?_ ?_ <;> (simp only [lnE, put_length] <;> omega)) | (refine Fit.hidc1 ‹Fit _ _ _› ?_ ?_ <;> (simp only [lnE, put_length] <;> omega)) | (refine Fit.hidc2 ‹Fit _ _ _› ?_ ?_ ?_ <;> (simp only [lnE, put_length] <;> omega)) | (refine Fit.draw1 ‹Fit _ _ _› ?_ ?_ ?_ <;> (simp only [lnE, put_length] <;> omega)) | (refine Fit.range0 ?_ ?_ <;> (simp only [lnE, put_length] <;> omega)) | (refine ArOk.mono ‹ArOk _ _ _ _ _› ?_ <;> (simp only [lnE, put_length] <;> omega)) | (refine ArOk.hid ‹ArOk _ _ _ _ _› ?_ ?_ <;> (simp only [lnE, put_length] <;> omega)) | (refine ArOk.hid0 ‹ArOk _ _ _ _ _› ?_ ?_ <;> (simp only [lnE, put_length] <;> omega)) | ((intro xr hxr; simp [AM.refs, refsF, refsC] at hxr) <;> (simp only [lnE, put_length] <;> omega)) | fail)) only [syA, syB, argFr, D, E, T, C, undefv, eqF, aeq, sheqs, sheq, rdCells, cellsOf, fill, putAt, if_true, if_false, reduceIte, ↓reduceIte, reduceCtorEq, eq_self, Nat.reduceEqDiff, Nat.reduceAdd, Nat.reduceSub, Nat.reduceMul, Nat.reduceLT, Nat.reduceLeDiff, Nat.reducePow, Nat.reduceDiv, Nat.reduceMod, Int.reduceLT, Int.reduceLE, Int.reduceGT, Int.reduceGE, Int.reduceToNat, Int.reducePow, Int.reduceNeg, Int.reduceBEq, Int.reduceBNe, Int.reduceEq, Int.reduceAdd, Int.reduceSub, Int.reduceMul, cellv, sc, flatv, refs, refsF, refsC, syR, Int.le_refl, hF.not0, hF.not1, hF.up0, hF.up1, k.hr, k.hq, ac48, rvalid_walk, hv]
  | true =>
    have hp : ¬ (0 ≤ p ∧ p ≤ m) := by
      rcases h with h | h
      · rw [hv] at h; cases h
      · exact h
    have d1 : decide (0 ≤ p ∧ p ≤ m) = false := by simpa using hp
    simp (disch := (first | omega | (simp only [lnE, put_length] <;> omega) | (refine Fit.mono ‹Fit _ _ _› ?_ <;> (simp only [lnE, put_length] <;> omega)) | (refine Fit.draw ‹Fit _ _ _› ?_ ?_ <;> (simp only [lnE, put_length] <;> omega)) | (refine Fit.hid1 ‹Fit _ _ _› ?_ ?_ <;> (simp only [lnE, put_length] <;> omega)) | (refine Fit.hidc1 ‹Fit _ _ _› ?_ ?_ <;> (simp only [lnE, put_length] <;> omega)) | (refine Fit.hidc2 ‹Fit _ _ _› ?_ ?_ ?_ <;> (simp only [lnE, put_length] <;> omega)) | (refine Fit.draw1 ‹Fit _ _ _› ?_ ?_ ?_ <;> (simp only [lnE, put_length] <;> omega)) | (refine Fit.range0 ?_ ?_ <;> (simp only [lnE, put_length] <;> omega)) | (refine ArOk.mono ‹ArOk _ _ _ _ _› ?_ <;> (simp only [lnE, put_length] <;> omega)) | (refine ArOk.hid ‹ArOk _ _ _ _ _› ?_ ?_ <;> (simp only [lnE, put_length] <;> omega)) | (refine ArOk.hid0 ‹ArOk _ _ _ _ _› ?_ ?_ <;> (simp only [lnE, put_length] <;> omega)) | ((intro xr hxr; simp [AM.refs, refsF, refsC] at hxr) <;> (simp only [lnE, put_length] <;> omega)) | fail)) only [syA, syB, argFr, D, E, T, C, undefv, eqF, aeq, sheqs, sheq, rdCells, cellsOf, fill, putAt, if_true, if_false, reduceIte, ↓reduceIte, reduceCtorEq, eq_self, Nat.reduceEqDiff, Nat.reduceAdd, Nat.reduceSub, Nat.reduceMul, Nat.reduceLT, Nat.reduceLeDiff, Nat.reducePow, Nat.reduceDiv, Nat.reduceMod, Int.reduceLT, Int.reduceLE, Int.reduceGT, Int.reduceGE, Int.reduceToNat, Int.reducePow, Int.reduceNeg, Int.reduceBEq, Int.reduceBNe, Int.reduceEq, Int.reduceAdd, Int.reduceSub, Int.reduceMul, cellv, sc, flatv, refs, refsF, refsC, syR, Int.le_refl, hF.not0, hF.not1, hF.up0, hF.up1, k.hr, k.hq, ac48, rvalid_walk, hv, within_walk, d1]
end
theorem Holds.load {A : Arn} {s : Nat} {x : List Nat} (h : Holds A s x) : A.loadO s x.length = some x := by
  unfold Arn.loadO
  rw [if_pos h.has]
  congr 1
  simp only [Int.toNat_natCast]
  apply List.ext_getElem?
  intro i
  by_cases hi : i < x.length
  · rw [List.getElem?_take_of_lt hi, List.getElem?_drop, h.get i hi, List.getElem?_eq_getElem hi]
  · rw [List.getElem?_eq_none (by simp; omega), List.getElem?_eq_none (by omega)]
theorem gc_bool_new {h nw : List Blk} {L r q : Nat} {H : List Nat} {b : Bool} {A : Arn} (hr : h.length ≤ r) (hq : h.length ≤ q) (hn : 0 < nw.length) : gc h.length [.bool b] ⟨put (h ++ nw) r q A, L, H, []⟩ = some ([.bool b], ⟨h, L, H, []⟩) := by
  have htake : (put (h ++ nw) r q A).take h.length = h := by
    apply List.ext_getElem?
    intro i
    rw [List.getElem?_take]
    split
    · rename_i hi
      rw [put_o (by omega) (by omega), List.getElem?_append_left hi]
    · rename_i hi
      rw [List.getElem?_eq_none (by omega)]
  unfold gc
  rw [if_neg (by show ¬ (put (h ++ nw) r q A).length ≤ h.length; rw [put_length, List.length_append]; omega)]
  simp only [htake]
  rfl
/-! ### The examples -/
def ann : List Nat := [97, 110, 110, 98, 97, 97]
set_option maxRecDepth 100000 in
theorem wakes20_walk {hp : List Blk} {L : Nat} {H d : List Nat} (hF : Fit hp.length L H) : Lrun env (.func 46) [] ⟨hp, L, H, d⟩ = some (.bool true, ⟨hp, L, H, d⟩) := by
  have hby : By ann := by unfold By; decide
  have hs : rSize ann.length 4 = (1024 : Nat) := by decide
  have hw : L ≤ hp.length + 1 ∧ L ≤ hp.length + 1 + 1 := by have := hF.1; omega
  have hh1 := hF.not1 1
  have hh2 : H.contains (hp.length + 1 + 1) = false := hF.not1 2
  have hrd : ∀ d, Rd ⟨hp ++ [.cells 0 true (u8s ann)], L, H, d⟩ (.slice (some ⟨hp.length, 0, some 0⟩) 6 1) ann := fun d => Rd.whole (hp := hp ++ [.cells 0 true (u8s ann)]) (b := hp.length) (g := 0) (e := 1) (l := ann) (by rw [get_new0]) hF.not0 hby (.inr rfl)
  have ld := laid20_walk (d := []) (hp := hp ++ [.cells 0 true (u8s ann)]) (L := L) (H := H) (hF.mono (by simp)) (hrd []) (by decide) hs (by omega)
  have e4 : ∀ (B0 : Blk) (nw : List Blk), hp.length + 3 ≤ (hp ++ (B0 :: default :: default :: nw)).length := fun _ _ => by simp
  have k0 : ArOk (hp.length + 3) (hp.length + 1) (hp.length + 1 + 1) H (rl ann 1024) := rl_ok (by omega) (by omega) (by omega) hh1 hh2 hby (by decide)
  have hv0 : rValid (rl ann 1024) (0 : Nat) ann.length ann.length (1024 : Nat) (4 : Nat) = true := rl_valid (by decide) (by decide) (by decide) hs
  obtain ⟨B, mk, hM⟩ := make_walk (hp := hp ++ [.cells 0 true (u8s ann), default, default, .cells 0 true [.int .i64 0, .int .i64 6], .cells 0 true [.int .i64 6, .int .i64 1024]]) (L := L) (H := H) (r := hp.length + 1) (q := hp.length + 1 + 1) (hF.mono (by simp)) (k0.mono (e4 _ _)) hw (rl_holds ann 1024) hv0
  have hmm : 256 * (ann.length / 4) = 256 := by decide
  rw [hmm] at hM
  have kB : ArOk (hp.length + 3) (hp.length + 1) (hp.length + 1 + 1) H B := hM.ok k0
  have hHB := hM.holds (rl_holds ann 1024) fun i hi => by left; simpa using hi
  have hvB : rValid B (0 : Nat) ann.length ann.length (1024 : Nat) (4 : Nat) = true := by rw [rValid_live hM.live]; exact hv0
  have hlive : B.live = 1031 := by rw [hM.live, rl_live]; rfl
  have hwv : ∀ w : Nat, w < 256 → B.wordV (ann.length : Int) ((1024 : Nat) : Int) w = wval ann 4 w := fun w hw => hM.wordV (z := 1024) (by rw [rl_live]; decide) (by omega) (by omega) hw (by decide)
  have hb1 : B.wordV (ann.length : Int) ((1024 : Nat) : Int) (((1 : Nat) : Int) * 256 - 256 + (97 : Nat)) = 1 := hwv 97 (by omega)
  have nrk5 : base B (ann.length : Int) ((1024 : Nat) : Int) 4 97 5 + tail ann 4 97 5 = 2 := by
    rw [show base B (ann.length : Int) ((1024 : Nat) : Int) 4 97 5 = B.wordV (ann.length : Int) ((1024 : Nat) : Int) (((1 : Nat) : Int) * 256 - 256 + (97 : Nat)) from if_pos (by decide), hb1]; decide
  have nrk4 : base B (ann.length : Int) ((1024 : Nat) : Int) 4 97 4 + tail ann 4 97 4 = 1 := by
    rw [show base B (ann.length : Int) ((1024 : Nat) : Int) 4 97 4 = B.wordV (ann.length : Int) ((1024 : Nat) : Int) (((1 : Nat) : Int) * 256 - 256 + (97 : Nat)) from if_pos (by decide), hb1]; decide
  have nrk3 : base B (ann.length : Int) ((1024 : Nat) : Int) 4 97 3 + tail ann 4 97 3 = 1 := by
    rw [show base B (ann.length : Int) ((1024 : Nat) : Int) 4 97 3 = 0 from if_neg (by decide)]; decide
  have rk5 : ∀ (B0 : Blk) (nw : List Blk) (d : List Nat), Lrun env (.func 48) [arP (hp.length + 1), .agg #[.int .i64 0, .int .i64 6], .agg #[.int .i64 6, .int .i64 1024], .int .i64 4, .int .u8 97, .int .i64 5] ⟨put (hp ++ (B0 :: default :: default :: nw)) (hp.length + 1) (hp.length + 1 + 1) B, L, H, d⟩ = some (.tuple #[.int .i64 2, .int .i64 1, .bool true], ⟨put (hp ++ (B0 :: default :: default :: nw)) (hp.length + 1) (hp.length + 1 + 1) B, L, H, d⟩) := fun B0 nw d => by
    have h := rank_walk (d := d) (L := L) (H := H) (hp := hp ++ (B0 :: default :: default :: nw)) (r := hp.length + 1) (q := hp.length + 1 + 1) (c := 97) (p := 5) (hF.mono (by simp)) (kB.mono (e4 B0 nw)) hHB (by decide) hvB (by omega) (by decide) (by omega)
    rw [nrk5] at h
    exact h
  have rk4 : ∀ (B0 : Blk) (nw : List Blk) (d : List Nat), Lrun env (.func 48) [arP (hp.length + 1), .agg #[.int .i64 0, .int .i64 6], .agg #[.int .i64 6, .int .i64 1024], .int .i64 4, .int .u8 97, .int .i64 4] ⟨put (hp ++ (B0 :: default :: default :: nw)) (hp.length + 1) (hp.length + 1 + 1) B, L, H, d⟩ = some (.tuple #[.int .i64 1, .int .i64 0, .bool true], ⟨put (hp ++ (B0 :: default :: default :: nw)) (hp.length + 1) (hp.length + 1 + 1) B, L, H, d⟩) := fun B0 nw d => by
    have h := rank_walk (d := d) (L := L) (H := H) (hp := hp ++ (B0 :: default :: default :: nw)) (r := hp.length + 1) (q := hp.length + 1 + 1) (c := 97) (p := 4) (hF.mono (by simp)) (kB.mono (e4 B0 nw)) hHB (by decide) hvB (by omega) (by decide) (by omega)
    rw [nrk4] at h
    exact h
  have rk3 : ∀ (B0 : Blk) (nw : List Blk) (d : List Nat), Lrun env (.func 48) [arP (hp.length + 1), .agg #[.int .i64 0, .int .i64 6], .agg #[.int .i64 6, .int .i64 1024], .int .i64 4, .int .u8 97, .int .i64 3] ⟨put (hp ++ (B0 :: default :: default :: nw)) (hp.length + 1) (hp.length + 1 + 1) B, L, H, d⟩ = some (.tuple #[.int .i64 1, .int .i64 3, .bool true], ⟨put (hp ++ (B0 :: default :: default :: nw)) (hp.length + 1) (hp.length + 1 + 1) B, L, H, d⟩) := fun B0 nw d => by
    have h := rank_walk (d := d) (L := L) (H := H) (hp := hp ++ (B0 :: default :: default :: nw)) (r := hp.length + 1) (q := hp.length + 1 + 1) (c := 97) (p := 3) (hF.mono (by simp)) (kB.mono (e4 B0 nw)) hHB (by decide) hvB (by omega) (by decide) (by omega)
    rw [nrk3] at h
    exact h
  have rk7 := fun (B0 : Blk) (nw : List Blk) => rank_bad (d := []) (L := L) (H := H) (hp := hp ++ (B0 :: default :: default :: nw)) (r := hp.length + 1) (q := hp.length + 1 + 1) (hF.mono (by simp)) (kB.mono (e4 B0 nw)) (s := 0) (m := 6) (t := 6) (z := 1024) (kk := 4) (p := 7) (c := 97) (by omega) (.inr (by decide))
  simp only [Int.cast_ofNat_Int] at rk7
  have lw := fun (B0 : Blk) (nw : List Blk) => less_walk (d := []) (L := L) (H := H) (hp := hp ++ (B0 :: default :: default :: nw)) (r := hp.length + 1) (q := hp.length + 1 + 1) (hF.mono (by simp)) (kB.mono (e4 B0 nw)) (s := 0) (m := 6) (x := ann) hby (by decide) hHB.load
  have wd : ∀ (B0 : Blk) (nw : List Blk) (d : List Nat), ∃ b, Lrun env (.func 20) [arP (hp.length + 1), .agg #[.int .i64 6, .int .i64 1024], .int .i64 110] ⟨put (hp ++ (B0 :: default :: default :: nw)) (hp.length + 1) (hp.length + 1 + 1) B, L, H, d⟩ = some (.tuple #[.int .u32 2, .bool b], ⟨put (hp ++ (B0 :: default :: default :: nw)) (hp.length + 1) (hp.length + 1 + 1) B, L, H, d⟩) := fun B0 nw d => by
    have h := word_walk (d := d) (L := L) (H := H) (hp := hp ++ (B0 :: default :: default :: nw)) (r := hp.length + 1) (q := hp.length + 1 + 1) (hF.mono (by simp)) (kB.mono (e4 B0 nw)) 6 1024 110
    rw [show B.wordV 6 1024 110 = 2 from (hwv 110 (by omega)).trans (by decide)] at h
    exact ⟨_, h⟩
  have vw1 : ∀ (B0 : Blk) (nw : List Blk) (d : List Nat), Lrun env (.func 52) [arP (hp.length + 1), .agg #[.int .i64 0, .int .i64 6], .agg #[.int .i64 6, .int .i64 1024], .int .i64 4] ⟨put (hp ++ (B0 :: default :: default :: nw)) (hp.length + 1) (hp.length + 1 + 1) B, L, H, d⟩ = some (.bool true, ⟨put (hp ++ (B0 :: default :: default :: nw)) (hp.length + 1) (hp.length + 1 + 1) B, L, H, d⟩) := fun B0 nw d => by
    have h := rvalid_walk (d := d) (L := L) (H := H) (hp := hp ++ (B0 :: default :: default :: nw)) (r := hp.length + 1) (q := hp.length + 1 + 1) (hF.mono (by simp)) (kB.mono (e4 B0 nw)) 0 6 6 1024 4
    rw [show rValid B 0 6 6 1024 4 = true from hvB] at h
    exact h
  have vw2 : ∀ (B0 : Blk) (nw : List Blk) (d : List Nat), Lrun env (.func 52) [arP (hp.length + 1), .agg #[.int .i64 0, .int .i64 6], .agg #[.int .i64 0, .int .i64 6], .int .i64 4] ⟨put (hp ++ (B0 :: default :: default :: nw)) (hp.length + 1) (hp.length + 1 + 1) B, L, H, d⟩ = some (.bool false, ⟨put (hp ++ (B0 :: default :: default :: nw)) (hp.length + 1) (hp.length + 1 + 1) B, L, H, d⟩) := fun B0 nw d => by
    have h := rvalid_walk (d := d) (L := L) (H := H) (hp := hp ++ (B0 :: default :: default :: nw)) (r := hp.length + 1) (q := hp.length + 1 + 1) (hF.mono (by simp)) (kB.mono (e4 B0 nw)) 0 6 0 6 4
    rw [show rValid B 0 6 0 6 4 = false by unfold rValid; rw [show rApart 0 6 0 6 = false by decide]; simp] at h
    exact h
  have z1 : rSize 65536 8192 = 8192 := by decide
  have z2 : rSize 6 4 = 1024 := by decide
  have z3 : rSize 3 4 = 0 := by decide
  have z4 : rSize (-1) 4 = 0 := by decide
  have l1 : (lP ann 256)[97]? = some (.int .i64 0) := by rw [lP_get _ _ (by omega), show (if 97 < 256 then csm ann 97 else 0) = 0 by decide +kernel]; rfl
  have l2 : (lP ann 256)[98]? = some (.int .i64 3) := by rw [lP_get _ _ (by omega), show (if 98 < 256 then csm ann 98 else 0) = 3 by decide +kernel]; rfl
  have l3 : (lP ann 256)[110]? = some (.int .i64 4) := by rw [lP_get _ _ (by omega), show (if 110 < 256 then csm ann 110 else 0) = 4 by decide +kernel]; rfl
  have l4 : (lP ann 256)[255]? = some (.int .i64 6) := by rw [lP_get _ _ (by omega), show (if 255 < 256 then csm ann 255 else 0) = 6 by decide +kernel]; rfl
  have hput : putAt (c256 []) 0 (lP ann 256) = lP ann 256 := putAt_own (by rw [lP_len, c256_len])
  have ld' : Lrun env (.func 58) [.slice (some ⟨hp.length, 0, some 0⟩) 6 1, .int .i64 4] ⟨hp ++ [.cells 0 true (u8s ann)], L, H, []⟩ = some (.tuple #[arP (hp.length + 1), .agg #[.int .i64 0, .int .i64 6], .agg #[.int .i64 6, .int .i64 1024]], ⟨put (hp ++ [.cells 0 true (u8s ann), default, default]) (hp.length + 1) (hp.length + 1 + 1) (rl ann 1024), L, H, []⟩) := by
    simp only [List.length_append, List.length_cons, List.length_nil, Nat.zero_add, List.append_assoc, List.cons_append, List.nil_append] at ld
    exact ld
  have mk' : ∀ d, Lrun env (.func 56) [arP (hp.length + 1), .agg #[.int .i64 0, .int .i64 6], .agg #[.int .i64 6, .int .i64 1024], .int .i64 4] ⟨put (hp ++ [.cells 0 true (u8s ann), default, default, .cells 0 true [.int .i64 0, .int .i64 6], .cells 0 true [.int .i64 6, .int .i64 1024]]) (hp.length + 1) (hp.length + 1 + 1) (rl ann 1024), L, H, d⟩ = some (.int .i64 0, ⟨put (hp ++ [.cells 0 true (u8s ann), default, default, .cells 0 true [.int .i64 0, .int .i64 6], .cells 0 true [.int .i64 6, .int .i64 1024]]) (hp.length + 1) (hp.length + 1 + 1) B, L, H, d⟩) := mk
  have hann : [Value.int .u8 97, .int .u8 110, .int .u8 110, .int .u8 98, .int .u8 97, .int .u8 97] = u8s ann := rfl
  obtain ⟨bw, wd'⟩ := wd (.cells 0 true (u8s ann)) [.cells 0 true [.int .i64 0, .int .i64 6], .cells 0 true [.int .i64 6, .int .i64 1024], .cells 0 true (lP ann 256)] []
  have up := hF.up1
  have sm6 : small 6 = true := by decide
  have hal : ann.length = 6 := rfl
  have mkx := markX_some (σ := ⟨hp ++ [.cells 0 true (u8s ann)], L, H, []⟩) hp.length 0 0 6 1 hF.up0 (by simp)
  have hr6 : List.replicate 6 (Value.int .u8 0) = [.int .u8 0, .int .u8 0, .int .u8 0, .int .u8 0, .int .u8 0, .int .u8 0] := rfl
  rw [Lrun_sym 46 _ _ fn46]
  simp (disch := (first | omega | (simp only [lnE, put_length] <;> omega) | (refine Fit.mono ‹Fit _ _ _› ?_ <;> (simp only [lnE, put_length] <;> omega)) | (refine Fit.draw ‹Fit _ _ _› ?_ ?_ <;> (simp only [lnE, put_length] <;> omega)) | (refine Fit.hid1 ‹Fit _ _ _› ?_ ?_ <;> (simp only [lnE, put_length] <;> omega)) | (refine Fit.hidc1 ‹Fit _ _ _› ?_ ?_ <;> (simp only [lnE, put_length] <;> omega)) | (refine Fit.hidc2 ‹Fit _ _ _› ?_ ?_ ?_ <;> (simp only [lnE, put_length] <;> omega)) | (refine Fit.draw1 ‹Fit _ _ _› ?_ ?_ ?_ <;> (simp only [lnE, put_length] <;> omega)) | (refine Fit.range0 ?_ ?_ <;> (simp only [lnE, put_length] <;> omega)) | (refine ArOk.mono ‹ArOk _ _ _ _ _› ?_ <;> (simp only [lnE, put_length] <;> omega)) | (refine ArOk.hid ‹ArOk _ _ _ _ _› ?_ ?_ <;> (simp only [lnE, put_length] <;> omega)) | (refine ArOk.hid0 ‹ArOk _ _ _ _ _› ?_ ?_ <;> (simp only [lnE, put_length] <;> omega)) | ((intro xr hxr; simp [AM.refs, refsF, refsC] at hxr) <;> (simp only [lnE, put_length] <;> omega)) | fail)) only [syA, syB, argFr, D, E, T, C, undefv, eqF, aeq, sheqs, sheq, rdCells, cellsOf, fill, putAt, if_true, if_false, reduceIte, ↓reduceIte, reduceCtorEq, eq_self, Nat.reduceEqDiff, Nat.reduceAdd, Nat.reduceSub, Nat.reduceMul, Nat.reduceLT, Nat.reduceLeDiff, Nat.reducePow, Nat.reduceDiv, Nat.reduceMod, Int.reduceLT, Int.reduceLE, Int.reduceGT, Int.reduceGE, Int.reduceToNat, Int.reducePow, Int.reduceNeg, Int.reduceBEq, Int.reduceBNe, Int.reduceEq, Int.reduceAdd, Int.reduceSub, Int.reduceMul, cellv, sc, flatv, refs, refsF, refsC, syR, Int.le_refl, hF.not0, hF.not1, hF.up0, hF.up1, ac46, hr6, hal, u8s_sc, mkx, sm6, hann, ld', mk', rk5, rk4, rk3, rk7, lw, wd', vw1, vw2, rvalid_nil, rmake_nil, size_walk, z1, z2, z3, z4, l1, l2, l3, l4, c256_nil, lP_len, c256_len, lP_cellv, lP_scs, hput]
  rw [gc_bool_new (by omega) (by omega) (by simp)]
  simp (disch := (first | omega | (simp only [lnE, put_length] <;> omega) | (refine Fit.mono ‹Fit _ _ _› ?_ <;> (simp only [lnE, put_length] <;> omega)) | (refine Fit.draw ‹Fit _ _ _› ?_ ?_ <;> (simp only [lnE, put_length] <;> omega)) | (refine Fit.hid1 ‹Fit _ _ _› ?_ ?_ <;> (simp only [lnE, put_length] <;> omega)) | (refine Fit.hidc1 ‹Fit _ _ _› ?_ ?_ <;> (simp only [lnE, put_length] <;> omega)) | (refine Fit.hidc2 ‹Fit _ _ _› ?_ ?_ ?_ <;> (simp only [lnE, put_length] <;> omega)) | (refine Fit.draw1 ‹Fit _ _ _› ?_ ?_ ?_ <;> (simp only [lnE, put_length] <;> omega)) | (refine Fit.range0 ?_ ?_ <;> (simp only [lnE, put_length] <;> omega)) | (refine ArOk.mono ‹ArOk _ _ _ _ _› ?_ <;> (simp only [lnE, put_length] <;> omega)) | (refine ArOk.hid ‹ArOk _ _ _ _ _› ?_ ?_ <;> (simp only [lnE, put_length] <;> omega)) | (refine ArOk.hid0 ‹ArOk _ _ _ _ _› ?_ ?_ <;> (simp only [lnE, put_length] <;> omega)) | ((intro xr hxr; simp [AM.refs, refsF, refsC] at hxr) <;> (simp only [lnE, put_length] <;> omega)) | fail)) only [syA, syB, argFr, D, E, T, C, undefv, eqF, aeq, sheqs, sheq, rdCells, cellsOf, fill, putAt, if_true, if_false, reduceIte, ↓reduceIte, reduceCtorEq, eq_self, Nat.reduceEqDiff, Nat.reduceAdd, Nat.reduceSub, Nat.reduceMul, Nat.reduceLT, Nat.reduceLeDiff, Nat.reducePow, Nat.reduceDiv, Nat.reduceMod, Int.reduceLT, Int.reduceLE, Int.reduceGT, Int.reduceGE, Int.reduceToNat, Int.reducePow, Int.reduceNeg, Int.reduceBEq, Int.reduceBNe, Int.reduceEq, Int.reduceAdd, Int.reduceSub, Int.reduceMul, cellv, sc, flatv, refs, refsF, refsC, syR, Int.le_refl]
end ArA
end Go.Proofs.Ytfefeikkjebfoaa
