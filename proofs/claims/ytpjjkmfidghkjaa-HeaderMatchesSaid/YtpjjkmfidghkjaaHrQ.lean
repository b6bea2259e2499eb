/-
  HEADERS: the reference's answers of markers are the program's; walks of its StepMark and TakeMark. Conditions: none.
-/
import Derived.Test.YtpjjkmfidghkjaaHrP
set_option linter.all false
namespace Go.Proofs.Ytpjjkmfidghkjaa
namespace VarA
open Go Go.RowKit AM ArEnv

theorem mal_1 {n v k m p y : Int} {s c : Nat} : mAl n ⟨1, v, k, m, p, s, y⟩ c = (if ((gStep v k c n).2.2.1 && (gStep v k c n).2.2.2) = true then ⟨2, 0, 0, (gStep v k c n).1, p, s, y⟩ else ⟨1, (gStep v k c n).1, (gStep v k c n).2.1, m, p, s, y⟩, (gStep v k c n).2.2.2) := by
  unfold mAl; rw [if_neg (by simp), if_pos rfl]
theorem mal_2 {n v k m p y : Int} {s c : Nat} : mAl n ⟨2, v, k, m, p, s, y⟩ c = (if ((gStep v k c m).2.2.1 && (gStep v k c m).2.2.2) = true then ⟨3, 0, 0, m, (gStep v k c m).1, s, y⟩ else ⟨2, (gStep v k c m).1, (gStep v k c m).2.1, m, p, s, y⟩, (gStep v k c m).2.2.2) := by
  unfold mAl; rw [if_neg (by simp), if_neg (by simp), if_pos rfl]
theorem mal_3 {n a v k m p y : Int} {s c : Nat} (ha : a = 3 ∨ a = 5) : mAl n ⟨a, v, k, m, p, s, y⟩ c = (⟨if y + 1 = 4 then a + 1 else a, v, k, m, p, s * 256 + c, y + 1⟩, true) := by
  unfold mAl; rw [if_neg (by show ¬ a = 0; omega), if_neg (by show ¬ a = 1; omega), if_neg (by show ¬ a = 2; omega)]
theorem mf_0 (n : Int) (l : List Nat) : mFold n mNone (0 :: l) = mFold n ⟨5, 0, 0, 0, 0, 0, 0⟩ l := by
  rw [mFold, if_neg (by simp [mNone])]; rfl
theorem mf_1 (n : Int) (l : List Nat) : mFold n mNone (1 :: l) = mFold n ⟨1, 0, 0, 0, 0, 0, 0⟩ l := by
  rw [mFold, if_neg (by simp [mNone])]; rfl
theorem mf_tail1 {n : Nat} (hn : n ≤ 65536) : ∀ (v : Nat) (l : List Nat), v ≤ n → mFold n ⟨1, 0, 0, 0, 0, 0, 0⟩ ((leTail v).reverse ++ l) = mFold n ⟨1, v, (leTail v).length, 0, 0, 0, 0⟩ l := by
  intro v
  induction v using Nat.strongRecOn with
  | _ v ih =>
    intro l h
    by_cases h0 : v = 0
    · subst h0; rw [leTail_zero]; rfl
    · have e : (leTail v).reverse ++ l = (leTail (v / 128)).reverse ++ ((128 + v % 128) :: l) := by rw [leTail_pos h0]; simp
      rw [e, ih (v / 128) (by omega) _ (by omega), mFold, if_neg (by simp), mal_1, gstep_on h0 h hn]
      simp
theorem mf_enc1 {n m : Nat} (hn : n ≤ 65536) (h1 : 1 ≤ m) (h2 : m ≤ n) (l : List Nat) : mFold n ⟨1, 0, 0, 0, 0, 0, 0⟩ (enc m ++ l) = mFold n ⟨2, 0, 0, m, 0, 0, 0⟩ l := by
  have e : enc m ++ l = (leTail (m / 128)).reverse ++ ((m % 128) :: l) := by simp [enc]
  rw [e, mf_tail1 hn _ _ (by omega), mFold, if_neg (by simp), mal_1, gstep_last h1 h2 hn]
  simp
theorem mf_tail2 {n m : Nat} (hm : m ≤ 65536) : ∀ (v : Nat) (l : List Nat), v ≤ m → mFold n ⟨2, 0, 0, m, 0, 0, 0⟩ ((leTail v).reverse ++ l) = mFold n ⟨2, v, (leTail v).length, m, 0, 0, 0⟩ l := by
  intro v
  induction v using Nat.strongRecOn with
  | _ v ih =>
    intro l h
    by_cases h0 : v = 0
    · subst h0; rw [leTail_zero]; rfl
    · have e : (leTail v).reverse ++ l = (leTail (v / 128)).reverse ++ ((128 + v % 128) :: l) := by rw [leTail_pos h0]; simp
      rw [e, ih (v / 128) (by omega) _ (by omega), mFold, if_neg (by simp), mal_2, gstep_on h0 h hm]
      simp
theorem mf_enc2 {n m p : Nat} (hm : m ≤ 65536) (h1 : 1 ≤ p) (h2 : p ≤ m) (l : List Nat) : mFold n ⟨2, 0, 0, m, 0, 0, 0⟩ (enc p ++ l) = mFold n ⟨3, 0, 0, m, p, 0, 0⟩ l := by
  have e : enc p ++ l = (leTail (p / 128)).reverse ++ ((p % 128) :: l) := by simp [enc]
  rw [e, mf_tail2 hm _ _ (by omega), mFold, if_neg (by simp), mal_2, gstep_last h1 h2 hm]
  simp
theorem mf_sum {n a m p y : Int} {s c : Nat} (ha : a = 3 ∨ a = 5) (l : List Nat) : mFold n ⟨a, 0, 0, m, p, s, y⟩ (c :: l) = mFold n ⟨if y + 1 = 4 then a + 1 else a, 0, 0, m, p, s * 256 + c, y + 1⟩ l := by
  rw [mFold, if_neg (by show ¬ (a = 4 ∨ a = 6); omega), mal_3 ha, if_pos rfl]
theorem mf_last {n a m p : Int} {s Y : Nat} (ha : a = 3 ∨ a = 5) (hY : Y ≤ 4) (hs : s < 256 ^ Y) : mFold n ⟨a, 0, 0, m, p, 0, 0⟩ ((be s).drop (4 - Y)) = some ⟨if Y = 4 then a + 1 else a, 0, 0, m, p, s, Y⟩ := by
  have h01234 : Y = 0 ∨ Y = 1 ∨ Y = 2 ∨ Y = 3 ∨ Y = 4 := by omega
  rcases h01234 with rfl | rfl | rfl | rfl | rfl
  · have : s = 0 := by simpa using hs
    subst this
    rfl
  · have e : (be s).drop (4 - 1) = [s % 256] := rfl
    rw [e, mf_sum ha]
    simp at hs
    simp [mFold]; omega
  · have e : (be s).drop (4 - 2) = [s / 256 % 256, s % 256] := rfl
    simp at hs
    rw [e, mf_sum ha, if_neg (by decide), mf_sum ha, if_neg (by decide)]
    simp [mFold]; omega
  · have e : (be s).drop (4 - 3) = [s / 65536 % 256, s / 256 % 256, s % 256] := rfl
    simp at hs
    rw [e, mf_sum ha, if_neg (by decide), mf_sum ha, if_neg (by decide), mf_sum ha, if_neg (by decide)]
    simp [mFold]; omega
  · have e : (be s).drop (4 - 4) = [s / 16777216 % 256, s / 65536 % 256, s / 256 % 256, s % 256] := rfl
    simp at hs
    rw [e, mf_sum ha, if_neg (by decide), mf_sum ha, if_neg (by decide), mf_sum ha, if_neg (by decide), mf_sum ha, if_pos (by decide)]
    simp [mFold]; omega
/-- Whatever is reached is valid. -/
theorem mFold_valid {n : Int} : ∀ (l : List Nat) (o o' : MS), By l → mValid n o = true → mFold n o l = some o' → mValid n o' = true
  | [], o, o', hb, hv, h => by
    simp only [mFold, Option.some.injEq] at h
    subst h; exact hv
  | c :: l, o, o', hb, hv, h => by
    rw [mFold] at h
    split at h
    · cases h
    rename_i h46
    split at h
    · rename_i hok
      obtain ⟨e1, e2⟩ := mal_ok (c := c) hv
      have hg := mgo_valid (c := c) hv (fun e => h46 (.inl e)) (fun e => h46 (.inr e)) hb.head (by rw [← e1]; exact hok)
      rw [← e2 hok] at hg
      exact mFold_valid l _ o' hb.tail hg h
    · cases h
theorem mBytes_by (t : MS) : By (mBytes t) := by
  have h1 : By [1] := by intro x hx; simp at hx; omega
  have h0 : By [0] := by intro x hx; simp at hx; omega
  unfold mBytes
  repeat' split
  · exact h0.append ((be_by _).drop _)
  · exact h1.append (grp_by _ _)
  · exact (h1.append (enc_by _)).append (grp_by _ _)
  · exact ((h1.append (enc_by _)).append (enc_by _)).append ((be_by _).drop _)
  · exact By.nil
theorem rvm_eq {n : Int} {t : MS} (hs : t.s < 4294967296) : rVM n t = mValid n t := by
  rw [Bool.eq_iff_iff]
  constructor
  · intro h
    unfold rVM at h
    split at h
    · cases h
    rename_i hb
    have hn : inR n 1 65536 = true := by
      unfold mBad at hb
      exact inR_true.2 (by omega)
    cases hf : mFold n mNone (mBytes t) with
    | none => rw [hf] at h; cases h
    | some o =>
      rw [hf] at h
      have hv := mFold_valid _ _ o (mBytes_by t) (mvalid_n0 hn) hf
      obtain ⟨o1, o2, o3, o4, o5, o6, o7⟩ := o
      obtain ⟨t1, t2, t3, t4, t5, t6, t7⟩ := t
      simp only [mSame, decide_eq_true_eq] at h
      obtain ⟨rfl, rfl, rfl, rfl, rfl, rfl, rfl⟩ := h
      exact hv
  · intro h
    obtain ⟨a, v, k, m, p, s, y⟩ := t
    have hs' : s < 4294967296 := hs
    simp only [mValid, Bool.and_eq_true] at h
    obtain ⟨hn, hr⟩ := h
    have hn' := inR_true.1 hn
    obtain ⟨N, rfl⟩ : ∃ N : Nat, n = N := ⟨n.toNat, by omega⟩
    have fin : ∀ (l : List Nat), ¬ mBad N ⟨a, v, k, m, p, s, y⟩ → mBytes ⟨a, v, k, m, p, s, y⟩ = l → mFold N mNone l = some ⟨a, v, k, m, p, s, y⟩ → rVM N ⟨a, v, k, m, p, s, y⟩ = true := fun l h1 h2 h3 => by
      unfold rVM
      rw [if_neg h1, h2, h3]
      simp [mSame]
    by_cases h0 : a = 0
    · subst h0
      simp [mRight] at hr
      obtain ⟨rfl, rfl, rfl, rfl, rfl, rfl⟩ := hr
      exact fin [] (by unfold mBad; simp only []; omega) (by simp [mBytes]) rfl
    by_cases h1 : a = 1
    · subst h1
      simp [mRight] at hr
      obtain ⟨hcm, rfl, rfl, rfl, rfl⟩ := hr
      have hcm' := hcm
      simp only [comes, Bool.and_eq_true, decide_eq_true_eq] at hcm'
      obtain ⟨r1, r2, r3, r4⟩ := vValid_range hcm'.1
      obtain ⟨x, rfl⟩ : ∃ x : Nat, v = x := ⟨v.toNat, by omega⟩
      obtain ⟨g1, g2⟩ := grp_valid hcm'.1
      refine fin (1 :: ((leTail x).reverse ++ [])) (by unfold mBad; simp only []; omega) ?_ ?_
      · unfold mBytes; rw [if_neg (by simp), if_pos rfl, List.append_nil, ← g1]; rfl
      · rw [mf_1, mf_tail1 (by omega) x [] (by omega), mFold, ← g2]
    by_cases h2 : a = 2
    · subst h2
      simp [mRight] at hr
      obtain ⟨⟨him, hcm⟩, rfl, rfl, rfl⟩ := hr
      have hcm' := hcm
      simp only [comes, Bool.and_eq_true, decide_eq_true_eq] at hcm'
      obtain ⟨r1, r2, r3, r4⟩ := vValid_range hcm'.1
      rw [inR_true] at him
      obtain ⟨x, rfl⟩ : ∃ x : Nat, v = x := ⟨v.toNat, by omega⟩
      obtain ⟨M, rfl⟩ : ∃ x : Nat, m = x := ⟨m.toNat, by omega⟩
      obtain ⟨g1, g2⟩ := grp_valid hcm'.1
      refine fin (1 :: (enc M ++ ((leTail x).reverse ++ []))) (by unfold mBad; simp only []; omega) ?_ ?_
      · unfold mBytes; rw [if_neg (by simp), if_neg (by simp), if_pos rfl, List.append_nil, ← g1]; rfl
      · rw [mf_1, mf_enc1 (by omega) (by omega) (by omega), mf_tail2 (by omega) x [] (by omega), mFold, ← g2]
    by_cases h34 : a = 3 ∨ a = 4
    · have hq : (1 ≤ m ∧ m ≤ N) ∧ (1 ≤ p ∧ p ≤ m) ∧ v = 0 ∧ k = 0 ∧ 0 ≤ y ∧ y ≤ 4 ∧ s < 256 ^ y.toNat ∧ a = (if y.toNat = 4 then (3 : Int) + 1 else 3) := by
        rcases h34 with rfl | rfl
        · simp [mRight] at hr
          obtain ⟨⟨⟨q1, q2⟩, q3⟩, q4, q5⟩ := hr
          simp only [sums, Bool.and_eq_true, inR_true, decide_eq_true_eq] at q3
          refine ⟨inR_true.1 q1, inR_true.1 q2, q4, q5, by omega, by omega, q3.2, ?_⟩
          rw [if_neg (by omega)]
        · simp [mRight] at hr
          obtain ⟨⟨q1, q2⟩, q4, q5, rfl⟩ := hr
          exact ⟨inR_true.1 q1, inR_true.1 q2, q4, q5, by omega, by omega, by simpa using hs', rfl⟩
      obtain ⟨q1, q2, rfl, rfl, q5, q6, q7, q8⟩ := hq
      obtain ⟨M, rfl⟩ : ∃ x : Nat, m = x := ⟨m.toNat, by omega⟩
      obtain ⟨P, rfl⟩ : ∃ x : Nat, p = x := ⟨p.toNat, by omega⟩
      obtain ⟨Y, rfl⟩ : ∃ x : Nat, y = x := ⟨y.toNat, by omega⟩
      refine fin (1 :: (enc M ++ (enc P ++ (be s).drop (4 - Y)))) (by unfold mBad; simp only []; omega) ?_ ?_
      · unfold mBytes; rw [if_neg (by simp only []; omega), if_neg h1, if_neg h2, if_pos h34]; simp
      · rw [mf_1, mf_enc1 (by omega) (by omega) (by omega), mf_enc2 (by omega) (by omega) (by omega), mf_last (Y := Y) (.inl rfl) (by omega) (by simpa using q7)]
        simp only [Int.toNat_natCast] at q8
        rw [q8]
    by_cases h56 : a = 5 ∨ a = 6
    · have hq : m = 0 ∧ p = 0 ∧ v = 0 ∧ k = 0 ∧ 0 ≤ y ∧ y ≤ 4 ∧ s < 256 ^ y.toNat ∧ a = (if y.toNat = 4 then (5 : Int) + 1 else 5) := by
        rcases h56 with rfl | rfl
        · simp [mRight] at hr
          obtain ⟨q3, q4, q5, q1, q2⟩ := hr
          simp only [sums, Bool.and_eq_true, inR_true, decide_eq_true_eq] at q3
          refine ⟨q1, q2, q4, q5, by omega, by omega, q3.2, ?_⟩
          rw [if_neg (by omega)]
        · simp [mRight] at hr
          obtain ⟨q4, q5, q1, q2, rfl⟩ := hr
          exact ⟨q1, q2, q4, q5, by omega, by omega, by simpa using hs', rfl⟩
      obtain ⟨rfl, rfl, rfl, rfl, q5, q6, q7, q8⟩ := hq
      obtain ⟨Y, rfl⟩ : ∃ x : Nat, y = x := ⟨y.toNat, by omega⟩
      refine fin (0 :: (be s).drop (4 - Y)) (by unfold mBad; simp only []; omega) ?_ ?_
      · unfold mBytes; rw [if_pos h56]; rfl
      · rw [mf_0, mf_last (Y := Y) (.inr rfl) (by omega) (by simpa using q7)]
        simp only [Int.toNat_natCast] at q8
        rw [q8]
    · simp only [mRight] at hr
      rw [if_neg h0, if_neg h1, if_neg h2, if_neg (fun e => h34 (.inl e)), if_neg (fun e => h34 (.inr e)), if_neg (fun e => h56 (.inl e)), if_neg (fun e => h56 (.inr e))] at hr
      cases hr
theorem rvmv_walk (n a v k m p y : Int) (s : Nat) (hv : v ≤ 9223372036854775807) (hs : s < 4294967296) {hp : List Blk} {L : Nat} {H d : List Nat} (hF : Fit hp.length L H) :
    Lrun env (.func 17) [.int .i64 n, .agg #[.int .i64 a, .int .i64 v, .int .i64 k, .int .i64 m, .int .i64 p, .int .u32 s, .int .i64 y]] ⟨hp, L, H, d⟩ = some (.bool (mValid n ⟨a, v, k, m, p, s, y⟩), ⟨hp, L, H, d⟩) := by
  rw [rvm_walk n a v k m p y s hv hs hF, rvm_eq hs]
theorem rstepmark_walk (n a v k m p y : Int) (s c : Nat) (hv' : v ≤ 9223372036854775807) (hs : s < 4294967296) (hc : c < 256) {hp : List Blk} {L : Nat} {H d : List Nat} (hF : Fit hp.length L H) :
    Lrun env (.func 21) [.int .i64 n, .agg #[.int .i64 a, .int .i64 v, .int .i64 k, .int .i64 m, .int .i64 p, .int .u32 s, .int .i64 y], .int .u8 c] ⟨hp, L, H, d⟩ = some (mV (mStep n ⟨a, v, k, m, p, s, y⟩ c), ⟨hp, L, H, d⟩) := by
  rw [Lrun_sym 21 _ _ fn21]
  have hvw := fun nw L' H' (hF : Fit (hp ++ nw).length L' H') => rvmv_walk n a v k m p y s hv' hs (hp := hp ++ nw) (L := L') (H := H') (d := []) hF
  cases hq : mValid n ⟨a, v, k, m, p, s, y⟩ with
  | false =>
    have e : mStep n ⟨a, v, k, m, p, s, y⟩ c = (mNone, false, 2) := by unfold mStep; rw [if_pos (.inl hq)]
    rw [e]
    simp (disch := (first | omega | (simp only [lnE] <;> omega) | (refine Fit.mono ‹Fit _ _ _› ?_ <;> (simp only [lnE] <;> omega)) | (refine Fit.draw ‹Fit _ _ _› ?_ ?_ <;> (simp only [lnE] <;> omega)) | (refine Fit.hid1 ‹Fit _ _ _› ?_ ?_ <;> (simp only [lnE] <;> omega)) | (refine Fit.hidc1 ‹Fit _ _ _› ?_ ?_ <;> (simp only [lnE] <;> omega)) | (refine Fit.hidc2 ‹Fit _ _ _› ?_ ?_ ?_ <;> (simp only [lnE] <;> omega)) | (refine Fit.draw1 ‹Fit _ _ _› ?_ ?_ ?_ <;> (simp only [lnE] <;> omega)) | (refine Fit.range0 ?_ ?_ <;> (simp only [lnE] <;> omega)) | fail)) only [syA, syB, argFr, D, E, T, C, undefv, eqF, aeq, sheqs, sheq, rdCells, cellsOf, fill, putAt, if_true, if_false, reduceIte, ↓reduceIte, reduceCtorEq, eq_self, Nat.reduceEqDiff, Nat.reduceAdd, Nat.reduceSub, Nat.reduceMul, Nat.reduceLT, Nat.reduceLeDiff, Nat.reducePow, Nat.reduceDiv, Nat.reduceMod, Int.reduceLT, Int.reduceLE, Int.reduceGT, Int.reduceGE, Int.reduceToNat, Int.reducePow, Int.reduceNeg, Int.reduceBEq, Int.reduceBNe, Int.reduceEq, Int.reduceAdd, Int.reduceSub, Int.reduceMul, cellv, sc, flatv, refs, refsF, refsC, hF.not0, hF.not1, hF.up0, hF.up1, ac21, hvw, hq, rep5, mV, mNone]
  | true =>
    by_cases h4 : a = 4
    · subst h4
      have e : mStep n ⟨4, v, k, m, p, s, y⟩ c = (mNone, false, 2) := by unfold mStep; rw [if_pos (.inr (.inl rfl))]
      rw [e]
      simp (disch := (first | omega | (simp only [lnE] <;> omega) | (refine Fit.mono ‹Fit _ _ _› ?_ <;> (simp only [lnE] <;> omega)) | (refine Fit.draw ‹Fit _ _ _› ?_ ?_ <;> (simp only [lnE] <;> omega)) | (refine Fit.hid1 ‹Fit _ _ _› ?_ ?_ <;> (simp only [lnE] <;> omega)) | (refine Fit.hidc1 ‹Fit _ _ _› ?_ ?_ <;> (simp only [lnE] <;> omega)) | (refine Fit.hidc2 ‹Fit _ _ _› ?_ ?_ ?_ <;> (simp only [lnE] <;> omega)) | (refine Fit.draw1 ‹Fit _ _ _› ?_ ?_ ?_ <;> (simp only [lnE] <;> omega)) | (refine Fit.range0 ?_ ?_ <;> (simp only [lnE] <;> omega)) | fail)) only [syA, syB, argFr, D, E, T, C, undefv, eqF, aeq, sheqs, sheq, rdCells, cellsOf, fill, putAt, if_true, if_false, reduceIte, ↓reduceIte, reduceCtorEq, eq_self, Nat.reduceEqDiff, Nat.reduceAdd, Nat.reduceSub, Nat.reduceMul, Nat.reduceLT, Nat.reduceLeDiff, Nat.reducePow, Nat.reduceDiv, Nat.reduceMod, Int.reduceLT, Int.reduceLE, Int.reduceGT, Int.reduceGE, Int.reduceToNat, Int.reducePow, Int.reduceNeg, Int.reduceBEq, Int.reduceBNe, Int.reduceEq, Int.reduceAdd, Int.reduceSub, Int.reduceMul, cellv, sc, flatv, refs, refsF, refsC, hF.not0, hF.not1, hF.up0, hF.up1, ac21, hvw, hq, rep5, mV, mNone]
    by_cases h6 : a = 6
    · subst h6
      have e : mStep n ⟨6, v, k, m, p, s, y⟩ c = (mNone, false, 2) := by unfold mStep; rw [if_pos (.inr (.inr rfl))]
      rw [e]
      simp (disch := (first | omega | (simp only [lnE] <;> omega) | (refine Fit.mono ‹Fit _ _ _› ?_ <;> (simp only [lnE] <;> omega)) | (refine Fit.draw ‹Fit _ _ _› ?_ ?_ <;> (simp only [lnE] <;> omega)) | (refine Fit.hid1 ‹Fit _ _ _› ?_ ?_ <;> (simp only [lnE] <;> omega)) | (refine Fit.hidc1 ‹Fit _ _ _› ?_ ?_ <;> (simp only [lnE] <;> omega)) | (refine Fit.hidc2 ‹Fit _ _ _› ?_ ?_ ?_ <;> (simp only [lnE] <;> omega)) | (refine Fit.draw1 ‹Fit _ _ _› ?_ ?_ ?_ <;> (simp only [lnE] <;> omega)) | (refine Fit.range0 ?_ ?_ <;> (simp only [lnE] <;> omega)) | fail)) only [syA, syB, argFr, D, E, T, C, undefv, eqF, aeq, sheqs, sheq, rdCells, cellsOf, fill, putAt, if_true, if_false, reduceIte, ↓reduceIte, reduceCtorEq, eq_self, Nat.reduceEqDiff, Nat.reduceAdd, Nat.reduceSub, Nat.reduceMul, Nat.reduceLT, Nat.reduceLeDiff, Nat.reducePow, Nat.reduceDiv, Nat.reduceMod, Int.reduceLT, Int.reduceLE, Int.reduceGT, Int.reduceGE, Int.reduceToNat, Int.reducePow, Int.reduceNeg, Int.reduceBEq, Int.reduceBNe, Int.reduceEq, Int.reduceAdd, Int.reduceSub, Int.reduceMul, cellv, sc, flatv, refs, refsF, refsC, hF.not0, hF.not1, hF.up0, hF.up1, ac21, hvw, hq, rep5, mV, mNone]
    have hst := fun nw L' H' (hF : Fit (hp ++ nw).length L' H') => along_walk n v k m p y s c a hq h4 h6 hc (hp := hp ++ nw) (L := L') (H := H') (d := []) hF
    obtain ⟨k1, k2⟩ := mal_ok (c := c) hq
    rw [mstep_go hq h4 h6, ← k1]
    generalize mGo n ⟨a, v, k, m, p, s, y⟩ c = go at k1 k2 ⊢
    generalize mAl n ⟨a, v, k, m, p, s, y⟩ c = al at hst k1 k2 ⊢
    obtain ⟨⟨x1, x2, x3, x4, x5, x6, x7⟩, ok⟩ := al
    simp only [pV] at hst
    cases ok with
    | false =>
      simp (disch := (first | omega | (simp only [lnE] <;> omega) | (refine Fit.mono ‹Fit _ _ _› ?_ <;> (simp only [lnE] <;> omega)) | (refine Fit.draw ‹Fit _ _ _› ?_ ?_ <;> (simp only [lnE] <;> omega)) | (refine Fit.hid1 ‹Fit _ _ _› ?_ ?_ <;> (simp only [lnE] <;> omega)) | (refine Fit.hidc1 ‹Fit _ _ _› ?_ ?_ <;> (simp only [lnE] <;> omega)) | (refine Fit.hidc2 ‹Fit _ _ _› ?_ ?_ ?_ <;> (simp only [lnE] <;> omega)) | (refine Fit.draw1 ‹Fit _ _ _› ?_ ?_ ?_ <;> (simp only [lnE] <;> omega)) | (refine Fit.range0 ?_ ?_ <;> (simp only [lnE] <;> omega)) | fail)) only [syA, syB, argFr, D, E, T, C, undefv, eqF, aeq, sheqs, sheq, rdCells, cellsOf, fill, putAt, if_true, if_false, reduceIte, ↓reduceIte, reduceCtorEq, eq_self, Nat.reduceEqDiff, Nat.reduceAdd, Nat.reduceSub, Nat.reduceMul, Nat.reduceLT, Nat.reduceLeDiff, Nat.reducePow, Nat.reduceDiv, Nat.reduceMod, Int.reduceLT, Int.reduceLE, Int.reduceGT, Int.reduceGE, Int.reduceToNat, Int.reducePow, Int.reduceNeg, Int.reduceBEq, Int.reduceBNe, Int.reduceEq, Int.reduceAdd, Int.reduceSub, Int.reduceMul, cellv, sc, flatv, refs, refsF, refsC, hF.not0, hF.not1, hF.up0, hF.up1, ac21, hvw, hq, h4, h6, rep5, mV, mNone, hst]
    | true =>
      rw [← k2 rfl]
      by_cases g4 : x1 = 4
      · simp (disch := (first | omega | (simp only [lnE] <;> omega) | (refine Fit.mono ‹Fit _ _ _› ?_ <;> (simp only [lnE] <;> omega)) | (refine Fit.draw ‹Fit _ _ _› ?_ ?_ <;> (simp only [lnE] <;> omega)) | (refine Fit.hid1 ‹Fit _ _ _› ?_ ?_ <;> (simp only [lnE] <;> omega)) | (refine Fit.hidc1 ‹Fit _ _ _› ?_ ?_ <;> (simp only [lnE] <;> omega)) | (refine Fit.hidc2 ‹Fit _ _ _› ?_ ?_ ?_ <;> (simp only [lnE] <;> omega)) | (refine Fit.draw1 ‹Fit _ _ _› ?_ ?_ ?_ <;> (simp only [lnE] <;> omega)) | (refine Fit.range0 ?_ ?_ <;> (simp only [lnE] <;> omega)) | fail)) only [syA, syB, argFr, D, E, T, C, undefv, eqF, aeq, sheqs, sheq, rdCells, cellsOf, fill, putAt, if_true, if_false, reduceIte, ↓reduceIte, reduceCtorEq, eq_self, Nat.reduceEqDiff, Nat.reduceAdd, Nat.reduceSub, Nat.reduceMul, Nat.reduceLT, Nat.reduceLeDiff, Nat.reducePow, Nat.reduceDiv, Nat.reduceMod, Int.reduceLT, Int.reduceLE, Int.reduceGT, Int.reduceGE, Int.reduceToNat, Int.reducePow, Int.reduceNeg, Int.reduceBEq, Int.reduceBNe, Int.reduceEq, Int.reduceAdd, Int.reduceSub, Int.reduceMul, cellv, sc, flatv, refs, refsF, refsC, hF.not0, hF.not1, hF.up0, hF.up1, ac21, hvw, hq, h4, h6, rep5, mV, mNone, hst, g4]
      · by_cases g6 : x1 = 6
        · simp (disch := (first | omega | (simp only [lnE] <;> omega) | (refine Fit.mono ‹Fit _ _ _› ?_ <;> (simp only [lnE] <;> omega)) | (refine Fit.draw ‹Fit _ _ _› ?_ ?_ <;> (simp only [lnE] <;> omega)) | (refine Fit.hid1 ‹Fit _ _ _› ?_ ?_ <;> (simp only [lnE] <;> omega)) | (refine Fit.hidc1 ‹Fit _ _ _› ?_ ?_ <;> (simp only [lnE] <;> omega)) | (refine Fit.hidc2 ‹Fit _ _ _› ?_ ?_ ?_ <;> (simp only [lnE] <;> omega)) | (refine Fit.draw1 ‹Fit _ _ _› ?_ ?_ ?_ <;> (simp only [lnE] <;> omega)) | (refine Fit.range0 ?_ ?_ <;> (simp only [lnE] <;> omega)) | fail)) only [syA, syB, argFr, D, E, T, C, undefv, eqF, aeq, sheqs, sheq, rdCells, cellsOf, fill, putAt, if_true, if_false, reduceIte, ↓reduceIte, reduceCtorEq, eq_self, Nat.reduceEqDiff, Nat.reduceAdd, Nat.reduceSub, Nat.reduceMul, Nat.reduceLT, Nat.reduceLeDiff, Nat.reducePow, Nat.reduceDiv, Nat.reduceMod, Int.reduceLT, Int.reduceLE, Int.reduceGT, Int.reduceGE, Int.reduceToNat, Int.reducePow, Int.reduceNeg, Int.reduceBEq, Int.reduceBNe, Int.reduceEq, Int.reduceAdd, Int.reduceSub, Int.reduceMul, cellv, sc, flatv, refs, refsF, refsC, hF.not0, hF.not1, hF.up0, hF.up1, ac21, hvw, hq, h4, h6, rep5, mV, mNone, hst, g4, g6]
        · simp (disch := (first | omega | (simp only [lnE] <;> omega) | (refine Fit.mono ‹Fit _ _ _› ?_ <;> (simp only [lnE] <;> omega)) | (refine Fit.draw ‹Fit _ _ _› ?_ ?_ <;> (simp only [lnE] <;> omega)) | (refine Fit.hid1 ‹Fit _ _ _› ?_ ?_ <;> (simp only [lnE] <;> omega)) | (refine Fit.hidc1 ‹Fit _ _ _› ?_ ?_ <;> (simp only [lnE] <;> omega)) | (refine Fit.hidc2 ‹Fit _ _ _› ?_ ?_ ?_ <;> (simp only [lnE] <;> omega)) | (refine Fit.draw1 ‹Fit _ _ _› ?_ ?_ ?_ <;> (simp only [lnE] <;> omega)) | (refine Fit.range0 ?_ ?_ <;> (simp only [lnE] <;> omega)) | fail)) only [syA, syB, argFr, D, E, T, C, undefv, eqF, aeq, sheqs, sheq, rdCells, cellsOf, fill, putAt, if_true, if_false, reduceIte, ↓reduceIte, reduceCtorEq, eq_self, Nat.reduceEqDiff, Nat.reduceAdd, Nat.reduceSub, Nat.reduceMul, Nat.reduceLT, Nat.reduceLeDiff, Nat.reducePow, Nat.reduceDiv, Nat.reduceMod, Int.reduceLT, Int.reduceLE, Int.reduceGT, Int.reduceGE, Int.reduceToNat, Int.reducePow, Int.reduceNeg, Int.reduceBEq, Int.reduceBNe, Int.reduceEq, Int.reduceAdd, Int.reduceSub, Int.reduceMul, cellv, sc, flatv, refs, refsF, refsC, hF.not0, hF.not1, hF.up0, hF.up1, ac21, hvw, hq, h4, h6, rep5, mV, mNone, hst, g4, g6, show (x1 == 6) = false from by simpa using g6]
/-- How the reference's loop ends. -/
def ROut (hp : List Blk) (L : Nat) (H : List Nat) (R : Option (Ex × Fr × St)) (t : MS × Option (List Nat) × Int) : Prop :=
  (∃ fr z nw, R = some (.exit 0, fr, ⟨hp ++ .cells 0 true (mC z) :: nw, L, H, []⟩) ∧ t = (mNone, none, 50) ∧ fr.get 4 = some (.pointer (some ⟨hp.length, 0, some 0⟩))) ∨
  (∃ fr nw x, R = some (.ret, fr, ⟨hp ++ .cells 0 true (mC mNone) :: nw, L, H, []⟩) ∧ t = (mNone, none, x) ∧ fr.get 4 = some (.pointer (some ⟨hp.length, 0, some 0⟩)) ∧ fr.get 5 = some (.slice none 0 0) ∧ fr.get 6 = some (.int .i64 x)) ∨
  (∃ fr nw x r k, R = some (.ret, fr, ⟨hp ++ .cells 0 true (mC x) :: nw, L, H, []⟩) ∧ t = (x, some r, 0) ∧ fr.get 4 = some (.pointer (some ⟨hp.length, 0, some 0⟩)) ∧ fr.get 5 = some (sl (hp.length + (k + 1)) r.length (some r)) ∧ fr.get 6 = some (.int .i64 0) ∧ nw[k]? = some (.cells r.length true (u8s r)))
theorem rtm_loop {hp : List Blk} {L : Nat} {H : List Nat} {a : Option Addr} {e : Nat} {l : List Nat} {n : Int} (hF : Fit hp.length L H) (hr : Rd ⟨hp, L, H, []⟩ (.slice a l.length e) l) (hn : l.length ≤ 1000) :
    ∀ (rest : List Nat) (i : Nat), l.drop i = rest → i ≤ l.length → ∀ (t1 t2 t3 t4 t5 : Int) (t6 : Nat) (t7 : Int), mValid n ⟨t1, t2, t3, t4, t5, t6, t7⟩ = true → ¬ t1 = 4 → ¬ t1 = 6 → ROut hp L H (Liter env lb25_0 [8, 1, 7, 0, 4] (hp.length + 2) [(8, .int .i64 i), (1, .slice a l.length e), (7, .pointer (some ⟨hp.length + 1, 0, some 0⟩)), (0, .int .i64 n), (4, .pointer (some ⟨hp.length, 0, some 0⟩))] ⟨hp ++ [.cells 0 true [.int .i64 0, .int .i64 0, .int .i64 0, .int .i64 0, .int .i64 0, .int .u32 0, .int .i64 0], .cells 0 true [.int .i64 t1, .int .i64 t2, .int .i64 t3, .int .i64 t4, .int .i64 t5, .int .u32 t6, .int .i64 t7]], L, H, []⟩) (mTake n ⟨t1, t2, t3, t4, t5, t6, t7⟩ rest)
  | [], i, hd, hi, t1, t2, t3, t4, t5, t6, t7, hv, h4, h6 => by
    have e1 : i = l.length := by have := congrArg List.length hd; simp at this; omega
    subst e1
    rw [iter_by lb25_0.eq_1]
    simp (disch := (first | omega | (simp only [lnE] <;> omega) | (refine Fit.mono ‹Fit _ _ _› ?_ <;> (simp only [lnE] <;> omega)) | (refine Fit.draw ‹Fit _ _ _› ?_ ?_ <;> (simp only [lnE] <;> omega)) | (refine Fit.hid1 ‹Fit _ _ _› ?_ ?_ <;> (simp only [lnE] <;> omega)) | (refine Fit.hidc1 ‹Fit _ _ _› ?_ ?_ <;> (simp only [lnE] <;> omega)) | (refine Fit.hidc2 ‹Fit _ _ _› ?_ ?_ ?_ <;> (simp only [lnE] <;> omega)) | (refine Fit.draw1 ‹Fit _ _ _› ?_ ?_ ?_ <;> (simp only [lnE] <;> omega)) | (refine Fit.range0 ?_ ?_ <;> (simp only [lnE] <;> omega)) | fail)) only [syA, syB, argFr, D, E, T, C, undefv, eqF, aeq, sheqs, sheq, rdCells, cellsOf, fill, putAt, if_true, if_false, reduceIte, ↓reduceIte, reduceCtorEq, eq_self, Nat.reduceEqDiff, Nat.reduceAdd, Nat.reduceSub, Nat.reduceMul, Nat.reduceLT, Nat.reduceLeDiff, Nat.reducePow, Nat.reduceDiv, Nat.reduceMod, Int.reduceLT, Int.reduceLE, Int.reduceGT, Int.reduceGE, Int.reduceToNat, Int.reducePow, Int.reduceNeg, Int.reduceBEq, Int.reduceBNe, Int.reduceEq, Int.reduceAdd, Int.reduceSub, Int.reduceMul, cellv, sc, flatv, refs, refsF, refsC, hF.not0, hF.not1, hF.up0, hF.up1]
    exact .inl ⟨_, mNone, _, rfl, rfl, rfl⟩
  | c :: rest, i, hd, hi, t1, t2, t3, t4, t5, t6, t7, hv, h4, h6 => by
    have hil : i < l.length := by have := congrArg List.length hd; simp at this; omega
    have hli : l[i] = c := by have := List.drop_eq_getElem_cons hil; rw [hd] at this; exact (List.cons.inj this).1.symm
    have hlr : l.drop (i + 1) = rest := by have := List.drop_eq_getElem_cons hil; rw [hd] at this; exact (List.cons.inj this).2.symm
    have hc : c < 256 := hli ▸ hr.by_.get hil
    obtain ⟨b, o, g, pl, cs, rfl, _, hh, hb, hcell⟩ := hr.at_ hil
    have hbl : b < hp.length := (List.getElem?_eq_some_iff.1 hb).1
    have h1 : (i : Int) < l.length := by omega
    have h2 : 0 ≤ (i : Int) ∧ (i : Int) < l.length := by omega
    rw [hli] at hcell
    simp only [] at hb hh
    have hst := fun nw L' H' (hF : Fit (hp ++ nw).length L' H') => along_walk n t2 t3 t4 t5 t7 t6 c t1 hv h4 h6 hc (hp := hp ++ nw) (L := L') (H := H') (d := []) hF
    obtain ⟨k1, k2⟩ := mal_ok (c := c) hv
    have hgv := mgo_valid (c := c) hv h4 h6 hc
    have hgo := mstep_go (c := c) hv h4 h6
    have ht0 : mTake n ⟨t1, t2, t3, t4, t5, t6, t7⟩ (c :: rest) = if (mStep n ⟨t1, t2, t3, t4, t5, t6, t7⟩ c).2.2 = 0 then (if (mStep n ⟨t1, t2, t3, t4, t5, t6, t7⟩ c).2.1 = true then ((mStep n ⟨t1, t2, t3, t4, t5, t6, t7⟩ c).1, some rest, 0) else mTake n (mStep n ⟨t1, t2, t3, t4, t5, t6, t7⟩ c).1 rest) else (mNone, none, (mStep n ⟨t1, t2, t3, t4, t5, t6, t7⟩ c).2.2) := rfl
    rw [ht0, hgo, ← k1]
    clear ht0 hgo
    rw [← k1] at hgv
    generalize mGo n ⟨t1, t2, t3, t4, t5, t6, t7⟩ c = go at k1 k2 hgv ⊢
    generalize mAl n ⟨t1, t2, t3, t4, t5, t6, t7⟩ c = al at hst k1 k2 hgv ⊢
    obtain ⟨⟨x1, x2, x3, x4, x5, x6, x7⟩, ok⟩ := al
    simp only [pV] at hst
    rw [iter_by lb25_0.eq_1]
    cases ok with
    | false =>
      simp (disch := (first | omega | (simp only [lnE] <;> omega) | (refine Fit.mono ‹Fit _ _ _› ?_ <;> (simp only [lnE] <;> omega)) | (refine Fit.draw ‹Fit _ _ _› ?_ ?_ <;> (simp only [lnE] <;> omega)) | (refine Fit.hid1 ‹Fit _ _ _› ?_ ?_ <;> (simp only [lnE] <;> omega)) | (refine Fit.hidc1 ‹Fit _ _ _› ?_ ?_ <;> (simp only [lnE] <;> omega)) | (refine Fit.hidc2 ‹Fit _ _ _› ?_ ?_ ?_ <;> (simp only [lnE] <;> omega)) | (refine Fit.draw1 ‹Fit _ _ _› ?_ ?_ ?_ <;> (simp only [lnE] <;> omega)) | (refine Fit.range0 ?_ ?_ <;> (simp only [lnE] <;> omega)) | fail)) only [syA, syB, argFr, D, E, T, C, undefv, eqF, aeq, sheqs, sheq, rdCells, cellsOf, fill, putAt, if_true, if_false, reduceIte, ↓reduceIte, reduceCtorEq, eq_self, Nat.reduceEqDiff, Nat.reduceAdd, Nat.reduceSub, Nat.reduceMul, Nat.reduceLT, Nat.reduceLeDiff, Nat.reducePow, Nat.reduceDiv, Nat.reduceMod, Int.reduceLT, Int.reduceLE, Int.reduceGT, Int.reduceGE, Int.reduceToNat, Int.reducePow, Int.reduceNeg, Int.reduceBEq, Int.reduceBNe, Int.reduceEq, Int.reduceAdd, Int.reduceSub, Int.reduceMul, cellv, sc, flatv, refs, refsF, refsC, hF.not0, hF.not1, hF.up0, hF.up1, h1, h2, hb, hh, hcell, hst, rep5]
      exact .inr (.inl ⟨_, _, 242, rfl, rfl, rfl, rfl, rfl⟩)
    | true =>
      have hval := hgv rfl
      rw [← k2 rfl] at hval ⊢
      by_cases g46 : x1 = 4 ∨ x1 = 6
      · have hm1 : (if (true = false) then ((mNone, false, 242) : MS × Bool × Int) else (⟨x1, x2, x3, x4, x5, x6, x7⟩, decide (x1 = 4 ∨ x1 = 6), 0)) = (⟨x1, x2, x3, x4, x5, x6, x7⟩, true, 0) := by
          rw [if_neg (by simp), decide_eq_true g46]
        simp only [hm1, if_true]
        have he1 := hr.esz
        have h3 : 0 ≤ (i : Int) + 1 ∧ (i : Int) + 1 ≤ l.length := by omega
        have hrr : Rd ⟨hp, L, H, []⟩ (.slice (some ⟨b, o + (i + 1), some g⟩) (l.length - (i + 1)) e) rest := by
          obtain ⟨w, hw, hw2⟩ := hr.from_ (i := i + 1) (by omega)
          rw [hlr] at hw2
          simp only [sliceF_lo, he1, if_true, Int.toNat_natCast, Nat.mul_one] at hw
          rw [if_pos (by omega)] at hw
          cases hw; exact hw2
        have hq0 : rest.length ≤ 1000 := by rw [← hlr]; simp; omega
        have hgx : x1 = 4 ∨ (¬ x1 = 4 ∧ x1 = 6) := by omega
        clear g46 hm1
        have hnw1 := (hrr.app (nw := [.cells 0 true [.int .i64 0, .int .i64 0, .int .i64 0, .int .i64 0, .int .i64 0, .int .u32 0, .int .i64 0], .cells 0 true [.int .i64 x1, .int .i64 x2, .int .i64 x3, .int .i64 x4, .int .i64 x5, .int .u32 x6, .int .i64 x7], .cells 0 true [.int .i64 x1, .int .i64 x2, .int .i64 x3, .int .i64 x4, .int .i64 x5, .int .u32 x6, .int .i64 x7], .cells 0 true []]) (L' := hp.length + 4) (d' := [])).news
        by_cases hr0 : rest = []
        · have hlen0 : rest.length = 0 := by rw [hr0]; rfl
          rw [hlen0] at hnw1
          rcases hgx with rfl | ⟨g4, rfl⟩
          · simp (disch := (first | omega | (simp only [lnE] <;> omega) | (refine Fit.mono ‹Fit _ _ _› ?_ <;> (simp only [lnE] <;> omega)) | (refine Fit.draw ‹Fit _ _ _› ?_ ?_ <;> (simp only [lnE] <;> omega)) | (refine Fit.hid1 ‹Fit _ _ _› ?_ ?_ <;> (simp only [lnE] <;> omega)) | (refine Fit.hidc1 ‹Fit _ _ _› ?_ ?_ <;> (simp only [lnE] <;> omega)) | (refine Fit.hidc2 ‹Fit _ _ _› ?_ ?_ ?_ <;> (simp only [lnE] <;> omega)) | (refine Fit.draw1 ‹Fit _ _ _› ?_ ?_ ?_ <;> (simp only [lnE] <;> omega)) | (refine Fit.range0 ?_ ?_ <;> (simp only [lnE] <;> omega)) | fail)) only [syA, syB, argFr, D, E, T, C, undefv, eqF, aeq, sheqs, sheq, rdCells, cellsOf, fill, putAt, if_true, if_false, reduceIte, ↓reduceIte, reduceCtorEq, eq_self, Nat.reduceEqDiff, Nat.reduceAdd, Nat.reduceSub, Nat.reduceMul, Nat.reduceLT, Nat.reduceLeDiff, Nat.reducePow, Nat.reduceDiv, Nat.reduceMod, Int.reduceLT, Int.reduceLE, Int.reduceGT, Int.reduceGE, Int.reduceToNat, Int.reducePow, Int.reduceNeg, Int.reduceBEq, Int.reduceBNe, Int.reduceEq, Int.reduceAdd, Int.reduceSub, Int.reduceMul, cellv, sc, flatv, refs, refsF, refsC, hF.not0, hF.not1, hF.up0, hF.up1, h1, h2, h3, he1, hb, hh, hcell, hst, hnw1, append_zero, small, List.length_nil, rep5]
            refine .inr (.inr ⟨_, _, ⟨4, x2, x3, x4, x5, x6, x7⟩, rest, 2, rfl, rfl, rfl, ?_, rfl, ?_⟩)
            · rw [hlen0, hr0]; rfl
            · rw [hlen0, hr0]; rfl
          · simp (disch := (first | omega | (simp only [lnE] <;> omega) | (refine Fit.mono ‹Fit _ _ _› ?_ <;> (simp only [lnE] <;> omega)) | (refine Fit.draw ‹Fit _ _ _› ?_ ?_ <;> (simp only [lnE] <;> omega)) | (refine Fit.hid1 ‹Fit _ _ _› ?_ ?_ <;> (simp only [lnE] <;> omega)) | (refine Fit.hidc1 ‹Fit _ _ _› ?_ ?_ <;> (simp only [lnE] <;> omega)) | (refine Fit.hidc2 ‹Fit _ _ _› ?_ ?_ ?_ <;> (simp only [lnE] <;> omega)) | (refine Fit.draw1 ‹Fit _ _ _› ?_ ?_ ?_ <;> (simp only [lnE] <;> omega)) | (refine Fit.range0 ?_ ?_ <;> (simp only [lnE] <;> omega)) | fail)) only [syA, syB, argFr, D, E, T, C, undefv, eqF, aeq, sheqs, sheq, rdCells, cellsOf, fill, putAt, if_true, if_false, reduceIte, ↓reduceIte, reduceCtorEq, eq_self, Nat.reduceEqDiff, Nat.reduceAdd, Nat.reduceSub, Nat.reduceMul, Nat.reduceLT, Nat.reduceLeDiff, Nat.reducePow, Nat.reduceDiv, Nat.reduceMod, Int.reduceLT, Int.reduceLE, Int.reduceGT, Int.reduceGE, Int.reduceToNat, Int.reducePow, Int.reduceNeg, Int.reduceBEq, Int.reduceBNe, Int.reduceEq, Int.reduceAdd, Int.reduceSub, Int.reduceMul, cellv, sc, flatv, refs, refsF, refsC, hF.not0, hF.not1, hF.up0, hF.up1, h1, h2, h3, he1, hb, hh, hcell, hst, hnw1, append_zero, small, List.length_nil, rep5, g4]
            refine .inr (.inr ⟨_, _, ⟨6, x2, x3, x4, x5, x6, x7⟩, rest, 2, rfl, rfl, rfl, ?_, rfl, ?_⟩)
            · rw [hlen0, hr0]; rfl
            · rw [hlen0, hr0]; rfl
        · have happ := append_bare (hp := hp ++ [.cells 0 true [.int .i64 0, .int .i64 0, .int .i64 0, .int .i64 0, .int .i64 0, .int .u32 0, .int .i64 0], .cells 0 true [.int .i64 x1, .int .i64 x2, .int .i64 x3, .int .i64 x4, .int .i64 x5, .int .u32 x6, .int .i64 x7], .cells 0 true [.int .i64 x1, .int .i64 x2, .int .i64 x3, .int .i64 x4, .int .i64 x5, .int .u32 x6, .int .i64 x7], .cells 0 true []]) (L := hp.length + 4) (H := H) (d := []) (b := hp.length + 3) (l := rest) (by rw [get_new]; rfl) (by omega) (hF.not1 3) hr0 (by omega)
          rcases hgx with rfl | ⟨g4, rfl⟩
          · simp (disch := (first | omega | (simp only [lnE] <;> omega) | (refine Fit.mono ‹Fit _ _ _› ?_ <;> (simp only [lnE] <;> omega)) | (refine Fit.draw ‹Fit _ _ _› ?_ ?_ <;> (simp only [lnE] <;> omega)) | (refine Fit.hid1 ‹Fit _ _ _› ?_ ?_ <;> (simp only [lnE] <;> omega)) | (refine Fit.hidc1 ‹Fit _ _ _› ?_ ?_ <;> (simp only [lnE] <;> omega)) | (refine Fit.hidc2 ‹Fit _ _ _› ?_ ?_ ?_ <;> (simp only [lnE] <;> omega)) | (refine Fit.draw1 ‹Fit _ _ _› ?_ ?_ ?_ <;> (simp only [lnE] <;> omega)) | (refine Fit.range0 ?_ ?_ <;> (simp only [lnE] <;> omega)) | fail)) only [syA, syB, argFr, D, E, T, C, undefv, eqF, aeq, sheqs, sheq, rdCells, cellsOf, fill, putAt, if_true, if_false, reduceIte, ↓reduceIte, reduceCtorEq, eq_self, Nat.reduceEqDiff, Nat.reduceAdd, Nat.reduceSub, Nat.reduceMul, Nat.reduceLT, Nat.reduceLeDiff, Nat.reducePow, Nat.reduceDiv, Nat.reduceMod, Int.reduceLT, Int.reduceLE, Int.reduceGT, Int.reduceGE, Int.reduceToNat, Int.reducePow, Int.reduceNeg, Int.reduceBEq, Int.reduceBNe, Int.reduceEq, Int.reduceAdd, Int.reduceSub, Int.reduceMul, cellv, sc, flatv, refs, refsF, refsC, hF.not0, hF.not1, hF.up0, hF.up1, h1, h2, h3, he1, hb, hh, hcell, hst, hnw1, happ, small, List.length_nil, rep5]
            exact .inr (.inr ⟨_, _, ⟨4, x2, x3, x4, x5, x6, x7⟩, rest, 3, rfl, rfl, rfl, rfl, rfl, rfl⟩)
          · simp (disch := (first | omega | (simp only [lnE] <;> omega) | (refine Fit.mono ‹Fit _ _ _› ?_ <;> (simp only [lnE] <;> omega)) | (refine Fit.draw ‹Fit _ _ _› ?_ ?_ <;> (simp only [lnE] <;> omega)) | (refine Fit.hid1 ‹Fit _ _ _› ?_ ?_ <;> (simp only [lnE] <;> omega)) | (refine Fit.hidc1 ‹Fit _ _ _› ?_ ?_ <;> (simp only [lnE] <;> omega)) | (refine Fit.hidc2 ‹Fit _ _ _› ?_ ?_ ?_ <;> (simp only [lnE] <;> omega)) | (refine Fit.draw1 ‹Fit _ _ _› ?_ ?_ ?_ <;> (simp only [lnE] <;> omega)) | (refine Fit.range0 ?_ ?_ <;> (simp only [lnE] <;> omega)) | fail)) only [syA, syB, argFr, D, E, T, C, undefv, eqF, aeq, sheqs, sheq, rdCells, cellsOf, fill, putAt, if_true, if_false, reduceIte, ↓reduceIte, reduceCtorEq, eq_self, Nat.reduceEqDiff, Nat.reduceAdd, Nat.reduceSub, Nat.reduceMul, Nat.reduceLT, Nat.reduceLeDiff, Nat.reducePow, Nat.reduceDiv, Nat.reduceMod, Int.reduceLT, Int.reduceLE, Int.reduceGT, Int.reduceGE, Int.reduceToNat, Int.reducePow, Int.reduceNeg, Int.reduceBEq, Int.reduceBNe, Int.reduceEq, Int.reduceAdd, Int.reduceSub, Int.reduceMul, cellv, sc, flatv, refs, refsF, refsC, hF.not0, hF.not1, hF.up0, hF.up1, h1, h2, h3, he1, hb, hh, hcell, hst, hnw1, happ, small, List.length_nil, rep5, g4]
            exact .inr (.inr ⟨_, _, ⟨6, x2, x3, x4, x5, x6, x7⟩, rest, 3, rfl, rfl, rfl, rfl, rfl, rfl⟩)
      · have hm1 : (if (true = false) then ((mNone, false, 242) : MS × Bool × Int) else (⟨x1, x2, x3, x4, x5, x6, x7⟩, decide (x1 = 4 ∨ x1 = 6), 0)) = (⟨x1, x2, x3, x4, x5, x6, x7⟩, false, 0) := by
          rw [if_neg (by simp), decide_eq_false g46]
        simp only [hm1, if_true, Bool.false_eq_true, if_false]
        have g4 : ¬ x1 = 4 := fun e => g46 (.inl e)
        have g6 : ¬ x1 = 6 := fun e => g46 (.inr e)
        clear g46 hm1
        simp (disch := (first | omega | (simp only [lnE] <;> omega) | (refine Fit.mono ‹Fit _ _ _› ?_ <;> (simp only [lnE] <;> omega)) | (refine Fit.draw ‹Fit _ _ _› ?_ ?_ <;> (simp only [lnE] <;> omega)) | (refine Fit.hid1 ‹Fit _ _ _› ?_ ?_ <;> (simp only [lnE] <;> omega)) | (refine Fit.hidc1 ‹Fit _ _ _› ?_ ?_ <;> (simp only [lnE] <;> omega)) | (refine Fit.hidc2 ‹Fit _ _ _› ?_ ?_ ?_ <;> (simp only [lnE] <;> omega)) | (refine Fit.draw1 ‹Fit _ _ _› ?_ ?_ ?_ <;> (simp only [lnE] <;> omega)) | (refine Fit.range0 ?_ ?_ <;> (simp only [lnE] <;> omega)) | fail)) only [syA, syB, argFr, D, E, T, C, undefv, eqF, aeq, sheqs, sheq, rdCells, cellsOf, fill, putAt, if_true, if_false, reduceIte, ↓reduceIte, reduceCtorEq, eq_self, Nat.reduceEqDiff, Nat.reduceAdd, Nat.reduceSub, Nat.reduceMul, Nat.reduceLT, Nat.reduceLeDiff, Nat.reducePow, Nat.reduceDiv, Nat.reduceMod, Int.reduceLT, Int.reduceLE, Int.reduceGT, Int.reduceGE, Int.reduceToNat, Int.reducePow, Int.reduceNeg, Int.reduceBEq, Int.reduceBNe, Int.reduceEq, Int.reduceAdd, Int.reduceSub, Int.reduceMul, cellv, sc, flatv, refs, refsF, refsC, hF.not0, hF.not1, hF.up0, hF.up1, h1, h2, hb, hh, hcell, hst, rep5, g4, g6]
        rw [gcFr_cut 2 (by simp) (by simp [refs, refsF, refsC]; omega)]
        simp (disch := (first | omega | (simp only [lnE] <;> omega) | (refine Fit.mono ‹Fit _ _ _› ?_ <;> (simp only [lnE] <;> omega)) | (refine Fit.draw ‹Fit _ _ _› ?_ ?_ <;> (simp only [lnE] <;> omega)) | (refine Fit.hid1 ‹Fit _ _ _› ?_ ?_ <;> (simp only [lnE] <;> omega)) | (refine Fit.hidc1 ‹Fit _ _ _› ?_ ?_ <;> (simp only [lnE] <;> omega)) | (refine Fit.hidc2 ‹Fit _ _ _› ?_ ?_ ?_ <;> (simp only [lnE] <;> omega)) | (refine Fit.draw1 ‹Fit _ _ _› ?_ ?_ ?_ <;> (simp only [lnE] <;> omega)) | (refine Fit.range0 ?_ ?_ <;> (simp only [lnE] <;> omega)) | fail)) only [syA, syB, argFr, D, E, T, C, undefv, eqF, aeq, sheqs, sheq, rdCells, cellsOf, fill, putAt, if_true, if_false, reduceIte, ↓reduceIte, reduceCtorEq, eq_self, Nat.reduceEqDiff, Nat.reduceAdd, Nat.reduceSub, Nat.reduceMul, Nat.reduceLT, Nat.reduceLeDiff, Nat.reducePow, Nat.reduceDiv, Nat.reduceMod, Int.reduceLT, Int.reduceLE, Int.reduceGT, Int.reduceGE, Int.reduceToNat, Int.reducePow, Int.reduceNeg, Int.reduceBEq, Int.reduceBNe, Int.reduceEq, Int.reduceAdd, Int.reduceSub, Int.reduceMul, cellv, sc, flatv, refs, refsF, refsC, hF.not0, hF.not1, hF.up0, hF.up1]
        exact rtm_loop hF hr hn rest (i + 1) hlr (by omega) x1 x2 x3 x4 x5 x6 x7 hval g4 g6
theorem rtm_walk {hp : List Blk} {L : Nat} {H d : List Nat} {v : Value} {l : List Nat} (n : Int) (hF : Fit hp.length L H) (hr : Rd ⟨hp, L, H, []⟩ v l) (hn : l.length ≤ 1000) :
    Lrun env (.func 25) [.int .i64 n, v] ⟨hp, L, H, d⟩ = some (mtV hp.length (mTakeN n l), ⟨hp ++ slB ((mTakeN n l).2.1.getD []).length (mTakeN n l).2.1, L, H, d⟩) := by
  obtain ⟨a, e, rfl⟩ := hr.len
  rw [Lrun_sym 25 _ _ fn25]
  unfold mTakeN
  by_cases c1 : n < 1
  · rw [if_neg (by rw [inR_true]; omega)]
    simp (disch := (first | omega | (simp only [lnE] <;> omega) | (refine Fit.mono ‹Fit _ _ _› ?_ <;> (simp only [lnE] <;> omega)) | (refine Fit.draw ‹Fit _ _ _› ?_ ?_ <;> (simp only [lnE] <;> omega)) | (refine Fit.hid1 ‹Fit _ _ _› ?_ ?_ <;> (simp only [lnE] <;> omega)) | (refine Fit.hidc1 ‹Fit _ _ _› ?_ ?_ <;> (simp only [lnE] <;> omega)) | (refine Fit.hidc2 ‹Fit _ _ _› ?_ ?_ ?_ <;> (simp only [lnE] <;> omega)) | (refine Fit.draw1 ‹Fit _ _ _› ?_ ?_ ?_ <;> (simp only [lnE] <;> omega)) | (refine Fit.range0 ?_ ?_ <;> (simp only [lnE] <;> omega)) | fail)) only [syA, syB, argFr, D, E, T, C, undefv, eqF, aeq, sheqs, sheq, rdCells, cellsOf, fill, putAt, if_true, if_false, reduceIte, ↓reduceIte, reduceCtorEq, eq_self, Nat.reduceEqDiff, Nat.reduceAdd, Nat.reduceSub, Nat.reduceMul, Nat.reduceLT, Nat.reduceLeDiff, Nat.reducePow, Nat.reduceDiv, Nat.reduceMod, Int.reduceLT, Int.reduceLE, Int.reduceGT, Int.reduceGE, Int.reduceToNat, Int.reducePow, Int.reduceNeg, Int.reduceBEq, Int.reduceBNe, Int.reduceEq, Int.reduceAdd, Int.reduceSub, Int.reduceMul, cellv, sc, flatv, refs, refsF, refsC, hF.not0, hF.not1, hF.up0, hF.up1, ac25, c1, rep5, mtV, mNone, sl_none, slB_none, Int.natCast_zero]
  by_cases c2 : n > 65536
  · rw [if_neg (by rw [inR_true]; omega)]
    simp (disch := (first | omega | (simp only [lnE] <;> omega) | (refine Fit.mono ‹Fit _ _ _› ?_ <;> (simp only [lnE] <;> omega)) | (refine Fit.draw ‹Fit _ _ _› ?_ ?_ <;> (simp only [lnE] <;> omega)) | (refine Fit.hid1 ‹Fit _ _ _› ?_ ?_ <;> (simp only [lnE] <;> omega)) | (refine Fit.hidc1 ‹Fit _ _ _› ?_ ?_ <;> (simp only [lnE] <;> omega)) | (refine Fit.hidc2 ‹Fit _ _ _› ?_ ?_ ?_ <;> (simp only [lnE] <;> omega)) | (refine Fit.draw1 ‹Fit _ _ _› ?_ ?_ ?_ <;> (simp only [lnE] <;> omega)) | (refine Fit.range0 ?_ ?_ <;> (simp only [lnE] <;> omega)) | fail)) only [syA, syB, argFr, D, E, T, C, undefv, eqF, aeq, sheqs, sheq, rdCells, cellsOf, fill, putAt, if_true, if_false, reduceIte, ↓reduceIte, reduceCtorEq, eq_self, Nat.reduceEqDiff, Nat.reduceAdd, Nat.reduceSub, Nat.reduceMul, Nat.reduceLT, Nat.reduceLeDiff, Nat.reducePow, Nat.reduceDiv, Nat.reduceMod, Int.reduceLT, Int.reduceLE, Int.reduceGT, Int.reduceGE, Int.reduceToNat, Int.reducePow, Int.reduceNeg, Int.reduceBEq, Int.reduceBNe, Int.reduceEq, Int.reduceAdd, Int.reduceSub, Int.reduceMul, cellv, sc, flatv, refs, refsF, refsC, hF.not0, hF.not1, hF.up0, hF.up1, ac25, c1, c2, rep5, mtV, mNone, sl_none, slB_none, Int.natCast_zero]
  have hi : inR n 1 65536 = true := inR_true.2 (by omega)
  rw [if_pos hi]
  rcases rtm_loop (n := n) hF hr hn l 0 rfl (by omega) 0 0 0 0 0 0 0 (mvalid_n0 hi) (by omega) (by omega) with ⟨fr, ⟨z1, z2, z3, z4, z5, z6, z7⟩, nw, h1, h2, h3⟩ | ⟨fr, nw, x, h1, h2, h3, h4, h5⟩ | ⟨fr, nw, ⟨z1, z2, z3, z4, z5, z6, z7⟩, r, k, h1, h2, h3, h4, h5, h6⟩
  · simp only [Int.natCast_zero, mC_eq] at h1
    have h2' : mTake n mNone l = (mNone, none, 50) := h2
    rw [h2']
    simp (disch := (first | omega | (simp only [lnE] <;> omega) | (refine Fit.mono ‹Fit _ _ _› ?_ <;> (simp only [lnE] <;> omega)) | (refine Fit.draw ‹Fit _ _ _› ?_ ?_ <;> (simp only [lnE] <;> omega)) | (refine Fit.hid1 ‹Fit _ _ _› ?_ ?_ <;> (simp only [lnE] <;> omega)) | (refine Fit.hidc1 ‹Fit _ _ _› ?_ ?_ <;> (simp only [lnE] <;> omega)) | (refine Fit.hidc2 ‹Fit _ _ _› ?_ ?_ ?_ <;> (simp only [lnE] <;> omega)) | (refine Fit.draw1 ‹Fit _ _ _› ?_ ?_ ?_ <;> (simp only [lnE] <;> omega)) | (refine Fit.range0 ?_ ?_ <;> (simp only [lnE] <;> omega)) | fail)) only [syA, syB, argFr, D, E, T, C, undefv, eqF, aeq, sheqs, sheq, rdCells, cellsOf, fill, putAt, if_true, if_false, reduceIte, ↓reduceIte, reduceCtorEq, eq_self, Nat.reduceEqDiff, Nat.reduceAdd, Nat.reduceSub, Nat.reduceMul, Nat.reduceLT, Nat.reduceLeDiff, Nat.reducePow, Nat.reduceDiv, Nat.reduceMod, Int.reduceLT, Int.reduceLE, Int.reduceGT, Int.reduceGE, Int.reduceToNat, Int.reducePow, Int.reduceNeg, Int.reduceBEq, Int.reduceBNe, Int.reduceEq, Int.reduceAdd, Int.reduceSub, Int.reduceMul, cellv, sc, flatv, refs, refsF, refsC, hF.not0, hF.not1, hF.up0, hF.up1, ac25, c1, c2, rep5, h1, h3, sl_none, slB_none, mtV, mNone, Int.natCast_zero]
  · simp only [Int.natCast_zero, mC_eq] at h1
    have h2' : mTake n mNone l = (mNone, none, x) := h2
    rw [h2']
    simp (disch := (first | omega | (simp only [lnE] <;> omega) | (refine Fit.mono ‹Fit _ _ _› ?_ <;> (simp only [lnE] <;> omega)) | (refine Fit.draw ‹Fit _ _ _› ?_ ?_ <;> (simp only [lnE] <;> omega)) | (refine Fit.hid1 ‹Fit _ _ _› ?_ ?_ <;> (simp only [lnE] <;> omega)) | (refine Fit.hidc1 ‹Fit _ _ _› ?_ ?_ <;> (simp only [lnE] <;> omega)) | (refine Fit.hidc2 ‹Fit _ _ _› ?_ ?_ ?_ <;> (simp only [lnE] <;> omega)) | (refine Fit.draw1 ‹Fit _ _ _› ?_ ?_ ?_ <;> (simp only [lnE] <;> omega)) | (refine Fit.range0 ?_ ?_ <;> (simp only [lnE] <;> omega)) | fail)) only [syA, syB, argFr, D, E, T, C, undefv, eqF, aeq, sheqs, sheq, rdCells, cellsOf, fill, putAt, if_true, if_false, reduceIte, ↓reduceIte, reduceCtorEq, eq_self, Nat.reduceEqDiff, Nat.reduceAdd, Nat.reduceSub, Nat.reduceMul, Nat.reduceLT, Nat.reduceLeDiff, Nat.reducePow, Nat.reduceDiv, Nat.reduceMod, Int.reduceLT, Int.reduceLE, Int.reduceGT, Int.reduceGE, Int.reduceToNat, Int.reducePow, Int.reduceNeg, Int.reduceBEq, Int.reduceBNe, Int.reduceEq, Int.reduceAdd, Int.reduceSub, Int.reduceMul, cellv, sc, flatv, refs, refsF, refsC, hF.not0, hF.not1, hF.up0, hF.up1, ac25, c1, c2, rep5, h1, h3, h4, h5, sl_none, slB_none, mtV, mNone, Int.natCast_zero]
  · simp only [Int.natCast_zero, mC_eq] at h1
    have h2' : mTake n mNone l = (⟨z1, z2, z3, z4, z5, z6, z7⟩, some r, 0) := h2
    rw [h2']
    simp (disch := (first | omega | (simp only [lnE] <;> omega) | (refine Fit.mono ‹Fit _ _ _› ?_ <;> (simp only [lnE] <;> omega)) | (refine Fit.draw ‹Fit _ _ _› ?_ ?_ <;> (simp only [lnE] <;> omega)) | (refine Fit.hid1 ‹Fit _ _ _› ?_ ?_ <;> (simp only [lnE] <;> omega)) | (refine Fit.hidc1 ‹Fit _ _ _› ?_ ?_ <;> (simp only [lnE] <;> omega)) | (refine Fit.hidc2 ‹Fit _ _ _› ?_ ?_ ?_ <;> (simp only [lnE] <;> omega)) | (refine Fit.draw1 ‹Fit _ _ _› ?_ ?_ ?_ <;> (simp only [lnE] <;> omega)) | (refine Fit.range0 ?_ ?_ <;> (simp only [lnE] <;> omega)) | fail)) only [syA, syB, argFr, D, E, T, C, undefv, eqF, aeq, sheqs, sheq, rdCells, cellsOf, fill, putAt, if_true, if_false, reduceIte, ↓reduceIte, reduceCtorEq, eq_self, Nat.reduceEqDiff, Nat.reduceAdd, Nat.reduceSub, Nat.reduceMul, Nat.reduceLT, Nat.reduceLeDiff, Nat.reducePow, Nat.reduceDiv, Nat.reduceMod, Int.reduceLT, Int.reduceLE, Int.reduceGT, Int.reduceGE, Int.reduceToNat, Int.reducePow, Int.reduceNeg, Int.reduceBEq, Int.reduceBNe, Int.reduceEq, Int.reduceAdd, Int.reduceSub, Int.reduceMul, cellv, sc, flatv, refs, refsF, refsC, hF.not0, hF.not1, hF.up0, hF.up1, ac25, c1, c2, rep5, h1, h3, h4, h5, sl_some, slB_some, mtV]
    rw [gc_keep (k + 1) (by simpa using h6) (by simp [refs, refsF, refsC]) (by simp [refs, refsF, refsC])]
    simp (disch := (first | omega | (simp only [lnE] <;> omega) | (refine Fit.mono ‹Fit _ _ _› ?_ <;> (simp only [lnE] <;> omega)) | (refine Fit.draw ‹Fit _ _ _› ?_ ?_ <;> (simp only [lnE] <;> omega)) | (refine Fit.hid1 ‹Fit _ _ _› ?_ ?_ <;> (simp only [lnE] <;> omega)) | (refine Fit.hidc1 ‹Fit _ _ _› ?_ ?_ <;> (simp only [lnE] <;> omega)) | (refine Fit.hidc2 ‹Fit _ _ _› ?_ ?_ ?_ <;> (simp only [lnE] <;> omega)) | (refine Fit.draw1 ‹Fit _ _ _› ?_ ?_ ?_ <;> (simp only [lnE] <;> omega)) | (refine Fit.range0 ?_ ?_ <;> (simp only [lnE] <;> omega)) | fail)) only [syA, syB, argFr, D, E, T, C, undefv, eqF, aeq, sheqs, sheq, rdCells, cellsOf, fill, putAt, if_true, if_false, reduceIte, ↓reduceIte, reduceCtorEq, eq_self, Nat.reduceEqDiff, Nat.reduceAdd, Nat.reduceSub, Nat.reduceMul, Nat.reduceLT, Nat.reduceLeDiff, Nat.reducePow, Nat.reduceDiv, Nat.reduceMod, Int.reduceLT, Int.reduceLE, Int.reduceGT, Int.reduceGE, Int.reduceToNat, Int.reducePow, Int.reduceNeg, Int.reduceBEq, Int.reduceBNe, Int.reduceEq, Int.reduceAdd, Int.reduceSub, Int.reduceMul, cellv, sc, flatv, refs, refsF, refsC, hF.not0, hF.not1, hF.up0, hF.up1, ren, renF, renC, one_new, List.map_cons, List.map_nil]
end VarA
end Go.Proofs.Ytpjjkmfidghkjaa
