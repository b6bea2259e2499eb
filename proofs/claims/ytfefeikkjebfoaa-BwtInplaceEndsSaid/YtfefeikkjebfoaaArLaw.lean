/-
  THE ARENA: the laws, run on the abstract machine: words. Conditions: none.
-/
import Derived.Test.YtfefeikkjebfoaaArA
set_option linter.all false
namespace Go.Proofs.Ytfefeikkjebfoaa
namespace AM
open Go Go.RowKit
/-- An arena of N bytes whose first bytes, all that live, are l. -/
def Arn.laid (N : Nat) (l : List Nat) : Arn := ⟨l ++ List.replicate (N - l.length) 0, l.length, l.length⟩
theorem laid_len {N : Nat} {l : List Nat} (h : l.length ≤ N) : (Arn.laid N l).bs.length = N := by simp [Arn.laid]; omega
theorem new_taken {N n : Nat} (h : n ≤ N) : (Arn.new N).taken n = ((Arn.new N).take n, 0, (n : Int), 0) := by
  simp only [Arn.taken, Arn.new, List.length_replicate]
  rw [if_neg (by omega), if_neg (by omega)]
theorem new_take {N n : Nat} (h : n ≤ N) : (Arn.new N).take n = Arn.laid N (List.replicate n 0) := by
  simp only [Arn.take, Arn.new, Arn.laid, List.length_replicate, putN]
  congr 1
  · simp [List.replicate_append_replicate] <;> omega
  · omega
  · omega
theorem laid_part {N : Nat} {l : List Nat} {n : Int} (h : n = l.length) : (Arn.laid N l).part 0 n 0 n = true := by
  subst h; rw [Arn.part_iff]; simp [Arn.laid] <;> omega
theorem laid_store {N : Nat} {l m : List Nat} (hm : m.length = l.length) (h : l.length ≤ N) : (Arn.laid N l).store 0 m.length 0 m = Arn.laid N m := by
  have hp : (Arn.laid N l).part 0 m.length 0 m.length = true := laid_part (by omega)
  simp only [Arn.store]
  rw [if_pos hp]
  simp only [Arn.setAt, Arn.laid, putN]
  simp only [Int.zero_add, Int.toNat_zero, List.take_zero, List.nil_append, Nat.zero_add, hm, Arn.mk.injEq, and_true]
  rw [← hm, hm, List.drop_left']
  exact rfl
theorem ArOk.laid {n r q N : Nat} {H : List Nat} {l : List Nat} (hr : r < n) (hq : q < n) (hne : r ≠ q) (hl : By l) (hs : l.length ≤ N) (hN : N ≤ 1048576) (h1 : H.contains r = false) (h2 : H.contains q = false) : ArOk n r q H (Arn.laid N l) where
  r_lt := hr
  q_lt := hq
  ne := hne
  by_ := hl.append fun x hx => by rw [List.mem_replicate] at hx; omega
  live0 := by simp [Arn.laid]
  live1 := by rw [laid_len hs]; simp [Arn.laid]; omega
  peak0 := by simp [Arn.laid]
  peak1 := by rw [laid_len hs]; simp [Arn.laid]; omega
  size := by rw [laid_len hs]; exact hN
  hr := h1
  hq := h2
theorem ArOk.new {n r q N : Nat} {H : List Nat} (hr : r < n) (hq : q < n) (hne : r ≠ q) (hN : N ≤ 1048576) (h1 : H.contains r = false) (h2 : H.contains q = false) : ArOk n r q H (Arn.new N) := by
  have : Arn.new N = Arn.laid N [] := by simp [Arn.new, Arn.laid]
  rw [this]
  exact ArOk.laid hr hq hne By.nil (by simp) hN h1 h2
theorem laid_has {N : Nat} {l : List Nat} {n : Int} (h : n = l.length) : (Arn.laid N l).has 0 n = true := by
  subst h; rw [Arn.has_iff]; simp [Arn.laid]
theorem laid_load {N : Nat} {l : List Nat} : (Arn.laid N l).loadO 0 l.length = some l := by
  simp only [Arn.loadO, laid_has rfl, if_true]
  simp [Arn.laid]
theorem Rd.put {hp nw : List Blk} {L L' r q : Nat} {H d d' : List Nat} {v : Value} {l : List Nat} {A : Arn} (k : Rd ⟨hp, L, H, d⟩ v l) (hr : hp.length ≤ r) (hq : hp.length ≤ q) : Rd ⟨put (hp ++ nw) r q A, L', H, d'⟩ v l :=
  k.more fun b x hx hh => by
    have hb := (List.getElem?_eq_some_iff.1 hx).1
    simp only at hb hx hh
    exact ⟨by simp only; rw [put_o (by omega) (by omega), get_left hb]; exact hx, hh⟩
theorem laid_live (N : Nat) (l : List Nat) : (Arn.laid N l).live = l.length := rfl
theorem setWord_live (A : Arn) (s len i : Int) (v : Nat) : (A.setWord s len i v).live = A.live := by
  unfold Arn.setWord; split <;> rfl
theorem has_live {A B : Arn} (h : A.live = B.live) (s n : Int) : A.has s n = B.has s n := by simp [Arn.has, h]
theorem wpart_live {A B : Arn} (h : A.live = B.live) (s len i : Int) : A.wpart s len i = B.wpart s len i := by simp [Arn.wpart, Arn.part, has_live h]
theorem laid_wpart {N : Nat} {l : List Nat} (hn : l.length ≤ 4194304) (i : Int) : (Arn.laid N l).wpart 0 l.length i = decide (0 ≤ i ∧ i < ((l.length / 4 : Nat) : Int)) := by
  rw [Bool.eq_iff_iff]
  simp only [Arn.wpart, Bool.and_eq_true, decide_eq_true_eq, Arn.part_iff, laid_live]
  omega
theorem le4_split {v : Nat} (h : v < 4294967296) : le4 (v % 256) (v / 256 % 256) (v / 65536 % 256) (v / 16777216 % 256) = v := by unfold le4; omega
/-- The bytes after a word was set. -/
def setW (l : List Nat) (ok : Bool) (i : Int) (v : Nat) : List Nat := if ok = true then putN l (4 * i).toNat (split4 v) else l
/-- What must lie at place k after the word was set. -/
def wantW (l : List Nat) (ok : Bool) (i : Int) (v k : Nat) : Nat := if ok = true ∧ ((k / 4 : Nat) : Int) = i then v / 256 ^ (k % 4) % 256 else l.getD k 0
theorem setW_length {l : List Nat} {ok : Bool} {i : Int} {v : Nat} (h : ok = true → 0 ≤ i ∧ 4 * i + 4 ≤ l.length) : (setW l ok i v).length = l.length := by
  unfold setW
  split
  · rename_i e
    have := h e
    exact putN_length (by simp [split4]; omega)
  · rfl
theorem setW_get {l : List Nat} {ok : Bool} {i : Int} {v : Nat} (h : ok = true → 0 ≤ i ∧ 4 * i + 4 ≤ l.length) {k : Nat} (hk : k < l.length) : (setW l ok i v)[k]? = some (wantW l ok i v k) := by
  unfold setW wantW
  by_cases e : ok = true
  · have hh := h e
    rw [if_pos e, putN_get (by simp [split4]; omega)]
    by_cases hi : ((k / 4 : Nat) : Int) = i
    · rw [if_pos (by simp [split4]; omega), if_pos ⟨e, hi⟩]
      have : k - (4 * i).toNat = k % 4 := by omega
      rw [this]
      rcases (by omega : k % 4 = 0 ∨ k % 4 = 1 ∨ k % 4 = 2 ∨ k % 4 = 3) with h4 | h4 | h4 | h4 <;> rw [h4] <;> simp [split4]
    · rw [if_neg (by simp [split4]; omega), if_neg (fun hx => hi hx.2)]
      simp [List.getD_eq_getElem?_getD, hk]
  · rw [if_neg e, if_neg (fun hx => e hx.1)]
    simp [List.getD_eq_getElem?_getD, hk]
theorem setW_by {l : List Nat} {ok : Bool} {i : Int} {v : Nat} (h : By l) : By (setW l ok i v) := by
  unfold setW; split
  · exact putN_by h (split4_by v)
  · exact h
theorem laid_setWord {N : Nat} {l : List Nat} (hn : l.length ≤ N) (hN : N ≤ 1048576) (i : Int) (v : Nat) : (Arn.laid N l).setWord 0 l.length i v = Arn.laid N (setW l ((Arn.laid N l).wpart 0 l.length i) i v) := by
  unfold Arn.setWord setW
  split
  · rename_i e
    have h := laid_wpart (N := N) (l := l) (by omega) i
    rw [e] at h
    have hi := of_decide_eq_true h.symm
    have hl : (putN l (4 * i).toNat (split4 v)).length = l.length := putN_length (by simp [split4]; omega)
    simp only [Arn.setAt, Arn.laid, hl, Arn.mk.injEq, and_true, Int.zero_add]
    simp only [putN]
    rw [List.take_append_of_le_length (by omega), List.drop_append_of_le_length (by simp [split4]; omega)]
    simp
  · rfl
theorem laid_wordV {N : Nat} {l : List Nat} (hn : l.length ≤ N) (hN : N ≤ 1048576) (i : Int) (v : Nat) (hv : v < 4294967296) : (Arn.laid N (setW l ((Arn.laid N l).wpart 0 l.length i) i v)).wordV 0 l.length i = if (Arn.laid N l).wpart 0 l.length i = true then v else 0 := by
  have hd := laid_wpart (N := N) (l := l) (by omega) i
  have hc : (Arn.laid N l).wpart 0 l.length i = true → 0 ≤ i ∧ 4 * i + 4 ≤ l.length := fun e => by
    rw [e] at hd
    have := of_decide_eq_true hd.symm
    omega
  have hlen := setW_length (v := v) hc
  have hlive : (Arn.laid N (setW l ((Arn.laid N l).wpart 0 l.length i) i v)).live = (Arn.laid N l).live := by rw [laid_live, laid_live, hlen]
  unfold Arn.wordV
  rw [wpart_live hlive]
  split
  · rename_i e
    have hi := hc e
    have sl : ∀ j : Nat, j < 4 → (Arn.laid N (setW l ((Arn.laid N l).wpart 0 l.length i) i v)).slot 0 (4 * i + j) = v / 256 ^ j % 256 := fun j hj => by
      have hk : (0 + (4 * i + (j : Int))).toNat = (4 * i).toNat + j := by omega
      have hg := setW_get (v := v) hc (k := (4 * i).toNat + j) (by omega)
      rw [Arn.slot, hk, List.getD_eq_getElem?_getD]
      rw [show (Arn.laid N (setW l ((Arn.laid N l).wpart 0 l.length i) i v)).bs = setW l ((Arn.laid N l).wpart 0 l.length i) i v ++ List.replicate (N - (setW l ((Arn.laid N l).wpart 0 l.length i) i v).length) 0 from rfl, List.getElem?_append_left (by omega), hg]
      simp only [Option.getD_some, wantW]
      rw [if_pos ⟨e, by omega⟩]
      have : ((4 * i).toNat + j) % 4 = j := by omega
      rw [this]
    have s0 := sl 0 (by omega)
    have s1 := sl 1 (by omega)
    have s2 := sl 2 (by omega)
    have s3 := sl 3 (by omega)
    simp only [Int.natCast_zero, Int.add_zero, Int.natCast_one, Int.cast_ofNat_Int, Nat.reducePow, Nat.div_one] at s0 s1 s2 s3
    rw [s0, s1, s2, s3, le4_split hv]
  · rfl
end AM
namespace ArA
open Go Go.RowKit AM ArEnv

theorem wakes_walk (σ : St) : Lrun env (.func 15) [] σ = some (.bool true, σ) := by
  obtain ⟨hp, L, H, d⟩ := σ
  rw [Lrun_sym 15 _ _ fn15]
  simp (disch := (first | omega | (simp only [lnE] <;> omega) | (refine Fit.mono ‹Fit _ _ _› ?_ <;> (simp only [lnE] <;> omega)) | (refine Fit.draw ‹Fit _ _ _› ?_ ?_ <;> (simp only [lnE] <;> omega)) | (refine Fit.hid1 ‹Fit _ _ _› ?_ ?_ <;> (simp only [lnE] <;> omega)) | (refine Fit.draw1 ‹Fit _ _ _› ?_ ?_ ?_ <;> (simp only [lnE] <;> omega)) | (refine Fit.range0 ?_ ?_ <;> (simp only [lnE] <;> omega)) | fail)) only [syA, syB, argFr, D, E, T, C, undefv, eqF, aeq, sheqs, sheq, rdCells, cellsOf, fill, putAt, if_true, if_false, reduceIte, ↓reduceIte, reduceCtorEq, eq_self, Nat.reduceEqDiff, Nat.reduceAdd, Nat.reduceSub, Nat.reduceMul, Nat.reduceLT, Nat.reduceLeDiff, Nat.reducePow, Nat.reduceDiv, Nat.reduceMod, Int.reduceLT, Int.reduceLE, Int.reduceGT, Int.reduceGE, Int.reduceToNat, Int.reducePow, Int.reduceNeg, Int.reduceBEq, Int.reduceBNe, Int.reduceEq, Int.reduceAdd, Int.reduceSub, Int.reduceMul, cellv, sc, flatv, refs, refsF, refsC, constFn]
theorem words_loop {hq : List Blk} {L : Nat} {H : List Nat} {a1 a2 : Option Addr} {e1 e2 : Nat} {l m : List Nat} {ok : Bool} {i : Int} {v : Nat} {u : Value} (hv : v < 4294967296)
    (r1 : Rd ⟨hq, L, H, []⟩ (.slice a1 l.length e1) l) (r2 : Rd ⟨hq, L, H, []⟩ (.slice a2 m.length e2) m) (hm : m.length = l.length) (hn : l.length ≤ 200) (hw : ∀ k, k < l.length → m[k]? = some (wantW l ok i v k)) :
    ∀ (c k : Nat), k + c = l.length → ∃ fr, Liter env lb3_0 [14, 2, 1, 11, 0, 12, 15] hq.length [(14, .slice a2 m.length e2), (2, .int .u32 v), (1, .int .i64 i), (11, .bool ok), (0, .slice a1 l.length e1), (12, u), (15, .int .i64 k)] ⟨hq, L, H, []⟩ = some (.exit 0, fr, ⟨hq, L, H, []⟩) ∧ fr.get 11 = some (.bool ok) ∧ fr.get 12 = some u ∧ fr.get 2 = some (.int .u32 v)
  | 0, k, hk => by
    have : k = l.length := by omega
    subst this
    rw [iter_by lb3_0.eq_1]
    simp (disch := (first | omega | (simp only [lnE] <;> omega) | (refine Fit.mono ‹Fit _ _ _› ?_ <;> (simp only [lnE] <;> omega)) | (refine Fit.draw ‹Fit _ _ _› ?_ ?_ <;> (simp only [lnE] <;> omega)) | (refine Fit.hid1 ‹Fit _ _ _› ?_ ?_ <;> (simp only [lnE] <;> omega)) | (refine Fit.draw1 ‹Fit _ _ _› ?_ ?_ ?_ <;> (simp only [lnE] <;> omega)) | (refine Fit.range0 ?_ ?_ <;> (simp only [lnE] <;> omega)) | fail)) only [syA, syB, argFr, D, E, T, C, undefv, eqF, aeq, sheqs, sheq, rdCells, cellsOf, fill, putAt, if_true, if_false, reduceIte, ↓reduceIte, reduceCtorEq, eq_self, Nat.reduceEqDiff, Nat.reduceAdd, Nat.reduceSub, Nat.reduceMul, Nat.reduceLT, Nat.reduceLeDiff, Nat.reducePow, Nat.reduceDiv, Nat.reduceMod, Int.reduceLT, Int.reduceLE, Int.reduceGT, Int.reduceGE, Int.reduceToNat, Int.reducePow, Int.reduceNeg, Int.reduceBEq, Int.reduceBNe, Int.reduceEq, Int.reduceAdd, Int.reduceSub, Int.reduceMul, cellv, sc, flatv, refs, refsF, refsC]
    exact ⟨_, rfl, rfl, rfl, rfl⟩
  | c + 1, k, hk => by
    have hkl : k < l.length := by omega
    obtain ⟨fr, e1, e2, e3, e4⟩ := words_loop (u := u) hv r1 r2 hm hn hw c (k + 1) (by omega)
    obtain ⟨b1, o1, g1, pl1, cs1, rfl, _, hh1, hb1, hc1⟩ := r1.at_ hkl
    obtain ⟨b2, o2, g2, pl2, cs2, rfl, _, hh2, hb2, hc2⟩ := r2.at_ (i := k) (by omega)
    simp only at hh1 hh2 hb1 hb2
    have q1 : (k : Int) < l.length := by omega
    have q2 : 0 ≤ (k : Int) ∧ (k : Int) < l.length := by omega
    have q3 : 0 ≤ (k : Int) ∧ (k : Int) < m.length := by omega
    have hd : (k : Int).tdiv 4 = ((k / 4 : Nat) : Int) := by rw [tdiv_pos (by omega)]; omega
    have hmd : (k : Int).tmod 4 = ((k % 4 : Nat) : Int) := by rw [tmod_pos (by omega)]; omega
    have hx := hw k hkl
    rw [List.getElem?_eq_getElem (by omega)] at hx
    simp only [Option.some.injEq] at hx
    rw [hx] at hc2
    rw [iter_by lb3_0.eq_1]
    cases ok with
    | false =>
      have hw0 : wantW l false i v k = l[k] := by simp [wantW, List.getD_eq_getElem?_getD, hkl]
      rw [hw0] at hc2
      simp (disch := (first | omega | (simp only [lnE] <;> omega) | (refine Fit.mono ‹Fit _ _ _› ?_ <;> (simp only [lnE] <;> omega)) | (refine Fit.draw ‹Fit _ _ _› ?_ ?_ <;> (simp only [lnE] <;> omega)) | (refine Fit.hid1 ‹Fit _ _ _› ?_ ?_ <;> (simp only [lnE] <;> omega)) | (refine Fit.draw1 ‹Fit _ _ _› ?_ ?_ ?_ <;> (simp only [lnE] <;> omega)) | (refine Fit.range0 ?_ ?_ <;> (simp only [lnE] <;> omega)) | fail)) only [syA, syB, argFr, D, E, T, C, undefv, eqF, aeq, sheqs, sheq, rdCells, cellsOf, fill, putAt, if_true, if_false, reduceIte, ↓reduceIte, reduceCtorEq, eq_self, Nat.reduceEqDiff, Nat.reduceAdd, Nat.reduceSub, Nat.reduceMul, Nat.reduceLT, Nat.reduceLeDiff, Nat.reducePow, Nat.reduceDiv, Nat.reduceMod, Int.reduceLT, Int.reduceLE, Int.reduceGT, Int.reduceGE, Int.reduceToNat, Int.reducePow, Int.reduceNeg, Int.reduceBEq, Int.reduceBNe, Int.reduceEq, Int.reduceAdd, Int.reduceSub, Int.reduceMul, cellv, sc, flatv, refs, refsF, refsC, q1, q2, q3, hh1, hh2, hb1, hb2, hc1, hc2]
      exact ⟨fr, e1, e2, e3, e4⟩
    | true =>
      by_cases hi : ((k / 4 : Nat) : Int) = i
      · have hw0 : wantW l true i v k = v / 256 ^ (k % 4) % 256 := by simp only [wantW, hi, and_self, if_true]
        rw [hw0] at hc2
        rcases (by omega : k % 4 = 0 ∨ k % 4 = 1 ∨ k % 4 = 2 ∨ k % 4 = 3) with hk4 | hk4 | hk4 | hk4
        all_goals
          rw [hk4] at hmd hc2
          simp only [Nat.reducePow, Int.cast_ofNat_Int, Int.natCast_zero, Int.natCast_one] at hmd hc2
        · have w0 : IntKind.u8.wrap ((v : Int).fdiv 1) = ((v / 1 % 256 : Nat) : Int) := by rw [wu8m, fdiv_pos _ (by omega)]; omega
          simp (disch := (first | omega | (simp only [lnE] <;> omega) | (refine Fit.mono ‹Fit _ _ _› ?_ <;> (simp only [lnE] <;> omega)) | (refine Fit.draw ‹Fit _ _ _› ?_ ?_ <;> (simp only [lnE] <;> omega)) | (refine Fit.hid1 ‹Fit _ _ _› ?_ ?_ <;> (simp only [lnE] <;> omega)) | (refine Fit.draw1 ‹Fit _ _ _› ?_ ?_ ?_ <;> (simp only [lnE] <;> omega)) | (refine Fit.range0 ?_ ?_ <;> (simp only [lnE] <;> omega)) | fail)) only [syA, syB, argFr, D, E, T, C, undefv, eqF, aeq, sheqs, sheq, rdCells, cellsOf, fill, putAt, if_true, if_false, reduceIte, ↓reduceIte, reduceCtorEq, eq_self, Nat.reduceEqDiff, Nat.reduceAdd, Nat.reduceSub, Nat.reduceMul, Nat.reduceLT, Nat.reduceLeDiff, Nat.reducePow, Nat.reduceDiv, Nat.reduceMod, Int.reduceLT, Int.reduceLE, Int.reduceGT, Int.reduceGE, Int.reduceToNat, Int.reducePow, Int.reduceNeg, Int.reduceBEq, Int.reduceBNe, Int.reduceEq, Int.reduceAdd, Int.reduceSub, Int.reduceMul, cellv, sc, flatv, refs, refsF, refsC, q1, q2, q3, hh1, hh2, hb1, hb2, hc1, hc2, hd, hmd, hi, w0]
          exact ⟨fr, e1, e2, e3, e4⟩
        · have w0 : IntKind.u8.wrap ((v : Int).fdiv 256) = ((v / 256 % 256 : Nat) : Int) := by rw [wu8m, fdiv_pos _ (by omega)]; omega
          simp (disch := (first | omega | (simp only [lnE] <;> omega) | (refine Fit.mono ‹Fit _ _ _› ?_ <;> (simp only [lnE] <;> omega)) | (refine Fit.draw ‹Fit _ _ _› ?_ ?_ <;> (simp only [lnE] <;> omega)) | (refine Fit.hid1 ‹Fit _ _ _› ?_ ?_ <;> (simp only [lnE] <;> omega)) | (refine Fit.draw1 ‹Fit _ _ _› ?_ ?_ ?_ <;> (simp only [lnE] <;> omega)) | (refine Fit.range0 ?_ ?_ <;> (simp only [lnE] <;> omega)) | fail)) only [syA, syB, argFr, D, E, T, C, undefv, eqF, aeq, sheqs, sheq, rdCells, cellsOf, fill, putAt, if_true, if_false, reduceIte, ↓reduceIte, reduceCtorEq, eq_self, Nat.reduceEqDiff, Nat.reduceAdd, Nat.reduceSub, Nat.reduceMul, Nat.reduceLT, Nat.reduceLeDiff, Nat.reducePow, Nat.reduceDiv, Nat.reduceMod, Int.reduceLT, Int.reduceLE, Int.reduceGT, Int.reduceGE, Int.reduceToNat, Int.reducePow, Int.reduceNeg, Int.reduceBEq, Int.reduceBNe, Int.reduceEq, Int.reduceAdd, Int.reduceSub, Int.reduceMul, cellv, sc, flatv, refs, refsF, refsC, q1, q2, q3, hh1, hh2, hb1, hb2, hc1, hc2, hd, hmd, hi, w0]
          exact ⟨fr, e1, e2, e3, e4⟩
        · have w0 : IntKind.u8.wrap ((v : Int).fdiv 65536) = ((v / 65536 % 256 : Nat) : Int) := by rw [wu8m, fdiv_pos _ (by omega)]; omega
          simp (disch := (first | omega | (simp only [lnE] <;> omega) | (refine Fit.mono ‹Fit _ _ _› ?_ <;> (simp only [lnE] <;> omega)) | (refine Fit.draw ‹Fit _ _ _› ?_ ?_ <;> (simp only [lnE] <;> omega)) | (refine Fit.hid1 ‹Fit _ _ _› ?_ ?_ <;> (simp only [lnE] <;> omega)) | (refine Fit.draw1 ‹Fit _ _ _› ?_ ?_ ?_ <;> (simp only [lnE] <;> omega)) | (refine Fit.range0 ?_ ?_ <;> (simp only [lnE] <;> omega)) | fail)) only [syA, syB, argFr, D, E, T, C, undefv, eqF, aeq, sheqs, sheq, rdCells, cellsOf, fill, putAt, if_true, if_false, reduceIte, ↓reduceIte, reduceCtorEq, eq_self, Nat.reduceEqDiff, Nat.reduceAdd, Nat.reduceSub, Nat.reduceMul, Nat.reduceLT, Nat.reduceLeDiff, Nat.reducePow, Nat.reduceDiv, Nat.reduceMod, Int.reduceLT, Int.reduceLE, Int.reduceGT, Int.reduceGE, Int.reduceToNat, Int.reducePow, Int.reduceNeg, Int.reduceBEq, Int.reduceBNe, Int.reduceEq, Int.reduceAdd, Int.reduceSub, Int.reduceMul, cellv, sc, flatv, refs, refsF, refsC, q1, q2, q3, hh1, hh2, hb1, hb2, hc1, hc2, hd, hmd, hi, w0]
          exact ⟨fr, e1, e2, e3, e4⟩
        · have w0 : IntKind.u8.wrap ((v : Int).fdiv 16777216) = ((v / 16777216 % 256 : Nat) : Int) := by rw [wu8m, fdiv_pos _ (by omega)]; omega
          simp (disch := (first | omega | (simp only [lnE] <;> omega) | (refine Fit.mono ‹Fit _ _ _› ?_ <;> (simp only [lnE] <;> omega)) | (refine Fit.draw ‹Fit _ _ _› ?_ ?_ <;> (simp only [lnE] <;> omega)) | (refine Fit.hid1 ‹Fit _ _ _› ?_ ?_ <;> (simp only [lnE] <;> omega)) | (refine Fit.draw1 ‹Fit _ _ _› ?_ ?_ ?_ <;> (simp only [lnE] <;> omega)) | (refine Fit.range0 ?_ ?_ <;> (simp only [lnE] <;> omega)) | fail)) only [syA, syB, argFr, D, E, T, C, undefv, eqF, aeq, sheqs, sheq, rdCells, cellsOf, fill, putAt, if_true, if_false, reduceIte, ↓reduceIte, reduceCtorEq, eq_self, Nat.reduceEqDiff, Nat.reduceAdd, Nat.reduceSub, Nat.reduceMul, Nat.reduceLT, Nat.reduceLeDiff, Nat.reducePow, Nat.reduceDiv, Nat.reduceMod, Int.reduceLT, Int.reduceLE, Int.reduceGT, Int.reduceGE, Int.reduceToNat, Int.reducePow, Int.reduceNeg, Int.reduceBEq, Int.reduceBNe, Int.reduceEq, Int.reduceAdd, Int.reduceSub, Int.reduceMul, cellv, sc, flatv, refs, refsF, refsC, q1, q2, q3, hh1, hh2, hb1, hb2, hc1, hc2, hd, hmd, hi, w0]
          exact ⟨fr, e1, e2, e3, e4⟩
      · have hw0 : wantW l true i v k = l[k] := by
          simp only [wantW]; rw [if_neg (fun h => hi h.2)]; simp [List.getD_eq_getElem?_getD, hkl]
        rw [hw0] at hc2
        simp (disch := (first | omega | (simp only [lnE] <;> omega) | (refine Fit.mono ‹Fit _ _ _› ?_ <;> (simp only [lnE] <;> omega)) | (refine Fit.draw ‹Fit _ _ _› ?_ ?_ <;> (simp only [lnE] <;> omega)) | (refine Fit.hid1 ‹Fit _ _ _› ?_ ?_ <;> (simp only [lnE] <;> omega)) | (refine Fit.draw1 ‹Fit _ _ _› ?_ ?_ ?_ <;> (simp only [lnE] <;> omega)) | (refine Fit.range0 ?_ ?_ <;> (simp only [lnE] <;> omega)) | fail)) only [syA, syB, argFr, D, E, T, C, undefv, eqF, aeq, sheqs, sheq, rdCells, cellsOf, fill, putAt, if_true, if_false, reduceIte, ↓reduceIte, reduceCtorEq, eq_self, Nat.reduceEqDiff, Nat.reduceAdd, Nat.reduceSub, Nat.reduceMul, Nat.reduceLT, Nat.reduceLeDiff, Nat.reducePow, Nat.reduceDiv, Nat.reduceMod, Int.reduceLT, Int.reduceLE, Int.reduceGT, Int.reduceGE, Int.reduceToNat, Int.reducePow, Int.reduceNeg, Int.reduceBEq, Int.reduceBNe, Int.reduceEq, Int.reduceAdd, Int.reduceSub, Int.reduceMul, cellv, sc, flatv, refs, refsF, refsC, q1, q2, q3, hh1, hh2, hb1, hb2, hc1, hc2, hd, hi]
        exact ⟨fr, e1, e2, e3, e4⟩
theorem words_run {hp : List Blk} {v : Value} {l : List Nat} (hr : Rd ⟨hp, hp.length, [], []⟩ v l) (i : Int) (hi : -9223372036854775808 ≤ i) (hi' : i ≤ 9223372036854775807) (x : Nat) (hx : x < 4294967296) : ∃ σ', Lrun env (.func 3) [v, .int .i64 i, .int .u32 x] ⟨hp, hp.length, [], []⟩ = some (.bool true, σ') := by
  have hF : Fit hp.length hp.length [] := ⟨Nat.le_refl _, Low.nil _⟩
  have hlen := hr.lenF
  rw [Lrun_sym 3 _ _ fn3]
  by_cases h1 : (l.length : Int) > 200
  · simp (disch := (first | omega | (simp only [lnE] <;> omega) | (refine Fit.mono ‹Fit _ _ _› ?_ <;> (simp only [lnE] <;> omega)) | (refine Fit.draw ‹Fit _ _ _› ?_ ?_ <;> (simp only [lnE] <;> omega)) | (refine Fit.hid1 ‹Fit _ _ _› ?_ ?_ <;> (simp only [lnE] <;> omega)) | (refine Fit.draw1 ‹Fit _ _ _› ?_ ?_ ?_ <;> (simp only [lnE] <;> omega)) | (refine Fit.range0 ?_ ?_ <;> (simp only [lnE] <;> omega)) | fail)) only [syA, syB, argFr, D, E, T, C, undefv, eqF, aeq, sheqs, sheq, rdCells, cellsOf, fill, putAt, if_true, if_false, reduceIte, ↓reduceIte, reduceCtorEq, eq_self, Nat.reduceEqDiff, Nat.reduceAdd, Nat.reduceSub, Nat.reduceMul, Nat.reduceLT, Nat.reduceLeDiff, Nat.reducePow, Nat.reduceDiv, Nat.reduceMod, Int.reduceLT, Int.reduceLE, Int.reduceGT, Int.reduceGE, Int.reduceToNat, Int.reducePow, Int.reduceNeg, Int.reduceBEq, Int.reduceBNe, Int.reduceEq, Int.reduceAdd, Int.reduceSub, Int.reduceMul, cellv, sc, flatv, refs, refsF, refsC, hF.not0, hF.not1, hF.up0, hF.up1, ac3, hlen, h1, wakes_walk]
    exact ⟨_, rfl⟩
  have hl2 : l.length ≤ 250 := by omega
  have hz : By (List.replicate l.length 0) := fun x hx => by rw [List.mem_replicate] at hx; omega
  have k0 : ArOk (hp.length + 2) hp.length (hp.length + 1) [] (Arn.new 250) := ArOk.new (by omega) (by omega) (by omega) (by omega) rfl rfl
  have k1 : ArOk (hp.length + 2) hp.length (hp.length + 1) [] (Arn.laid 250 (List.replicate l.length 0)) := ArOk.laid (by omega) (by omega) (by omega) hz (by simpa using hl2) (by omega) rfl rfl
  have k2 : ArOk (hp.length + 2) hp.length (hp.length + 1) [] (Arn.laid 250 l) := ArOk.laid (by omega) (by omega) (by omega) hr.by_ hl2 (by omega) rfl rfl
  have hq : Rd ⟨hp, hp.length, [], []⟩ v l := hr
  have k := k2
  have htk := new_taken hl2
  rw [new_take hl2] at htk
  have hpart := laid_part (N := 250) (l := List.replicate l.length 0) (n := l.length) (by simp)
  have hst := laid_store (N := 250) (l := List.replicate l.length 0) (m := l) (by simp) (by simpa using hl2)
  have st := store_walk (d := []) (hp := hp ++ [default, default, .cells 0 true [.int .i64 0, .int .i64 l.length]]) (r := hp.length) (q := hp.length + 1) (L := hp.length) (H := []) (A := Arn.laid 250 (List.replicate l.length 0)) (by omega : l.length ≤ 1048576) (hF.mono (by simp)) (k1.mono (by simp)) (by omega) 0 l.length 0 (fun nw => by rw [List.append_assoc]; exact hr.put (Nat.le_refl _) (by omega))
  rw [hst, hpart] at st
  have hsw := laid_setWord hl2 (by omega) i x
  have hwv := laid_wordV hl2 (by omega) i x hx
  have hok := laid_wpart (N := 250) (l := l) (by omega) i
  have hokc : (Arn.laid 250 l).wpart 0 l.length i = true → 0 ≤ i ∧ 4 * i + 4 ≤ l.length := fun e => by
    rw [e] at hok
    have := of_decide_eq_true hok.symm
    omega
  have hml := setW_length (v := x) hokc
  have hmg := fun k => setW_get (v := x) hokc (k := k)
  have hmb := setW_by (ok := (Arn.laid 250 l).wpart 0 l.length i) (i := i) (v := x) hr.by_
  have hlive : (Arn.laid 250 (setW l ((Arn.laid 250 l).wpart 0 l.length i) i x)).live = (Arn.laid 250 l).live := by rw [laid_live, laid_live, hml]
  have hwp := wpart_live hlive 0 l.length i
  have hload := laid_load (N := 250) (l := setW l ((Arn.laid 250 l).wpart 0 l.length i) i x)
  rw [hml] at hload
  generalize hwp0 : (Arn.laid 250 l).wpart 0 l.length i = ok at *
  generalize setW l ok i x = m at *
  have k3 : ArOk (hp.length + 2) hp.length (hp.length + 1) [] (Arn.laid 250 m) := ArOk.laid (by omega) (by omega) (by omega) hmb (by omega) (by omega) rfl rfl
  have r1 : Rd ⟨put (hp ++ [default, default, .cells 0 true [.int .i64 0, .int .i64 l.length], .cells l.length true (u8s m)]) hp.length (hp.length + 1) (Arn.laid 250 m), hp.length, [], []⟩ v l := hr.put (Nat.le_refl _) (by omega)
  have r2 : Rd ⟨put (hp ++ [default, default, .cells 0 true [.int .i64 0, .int .i64 l.length], .cells l.length true (u8s m)]) hp.length (hp.length + 1) (Arn.laid 250 m), hp.length, [], []⟩ (.slice (some ⟨hp.length + 3, 0, some l.length⟩) m.length 1) m := Rd.whole (by rw [put_o (by omega) (by omega), get_new]; rfl) rfl hmb (.inr rfl)
  obtain ⟨a1, e1, rfl⟩ := hr.len
  obtain ⟨fr, g1, g2, g3, g4⟩ := words_loop (u := .int .u32 ((if ok = true then x else 0 : Nat) : Int)) hx r1 r2 hml (by omega) (fun k hk => hmg k hk) l.length 0 (by omega)
  simp only [put_length, List.length_append, List.length_cons, List.length_nil, Nat.zero_add, Nat.reduceAdd, Int.natCast_zero, hml] at g1
  have hdiv : (l.length : Int).tdiv 4 = ((l.length / 4 : Nat) : Int) := by rw [tdiv_pos (by omega)]; omega
  cases ok with
  | true =>
    have hi2 := of_decide_eq_true hok.symm
    have hi3 : i ≥ 0 := hi2.1
    have hi4 : i < ((l.length / 4 : Nat) : Int) := hi2.2
    simp only [if_true] at g1 g3 hwv
    simp (disch := (first | omega | (simp only [lnE, put_length] <;> omega) | (refine Fit.mono ‹Fit _ _ _› ?_ <;> (simp only [lnE, put_length] <;> omega)) | (refine Fit.draw ‹Fit _ _ _› ?_ ?_ <;> (simp only [lnE, put_length] <;> omega)) | (refine Fit.hid1 ‹Fit _ _ _› ?_ ?_ <;> (simp only [lnE, put_length] <;> omega)) | (refine Fit.draw1 ‹Fit _ _ _› ?_ ?_ ?_ <;> (simp only [lnE, put_length] <;> omega)) | (refine Fit.range0 ?_ ?_ <;> (simp only [lnE, put_length] <;> omega)) | (refine ArOk.mono ‹ArOk _ _ _ _ _› ?_ <;> (simp only [lnE, put_length] <;> omega)) | (refine ArOk.hid ‹ArOk _ _ _ _ _› ?_ ?_ <;> (simp only [lnE, put_length] <;> omega)) | (refine ArOk.hid0 ‹ArOk _ _ _ _ _› ?_ ?_ <;> (simp only [lnE, put_length] <;> omega)) | ((intro xr hxr; simp [AM.refs, refsF, refsC] at hxr) <;> (simp only [lnE, put_length] <;> omega)) | fail)) only [syA, syB, argFr, D, E, T, C, undefv, eqF, aeq, sheqs, sheq, rdCells, cellsOf, fill, putAt, if_true, if_false, reduceIte, ↓reduceIte, reduceCtorEq, eq_self, Nat.reduceEqDiff, Nat.reduceAdd, Nat.reduceSub, Nat.reduceMul, Nat.reduceLT, Nat.reduceLeDiff, Nat.reducePow, Nat.reduceDiv, Nat.reduceMod, Int.reduceLT, Int.reduceLE, Int.reduceGT, Int.reduceGE, Int.reduceToNat, Int.reducePow, Int.reduceNeg, Int.reduceBEq, Int.reduceBNe, Int.reduceEq, Int.reduceAdd, Int.reduceSub, Int.reduceMul, cellv, sc, flatv, refs, refsF, refsC, syR, Int.le_refl, hF.not0, hF.not1, hF.up0, hF.up1, k.hr, k.hq, ac3, hlen, h1, wakes_walk, new_walk, take_walk, htk, st, setWord_walk, hsw, word_walk, hwv, hwp, hwp0, load_walk, hload, hdiv, hi3, hi4, sl_some, slB_some, hml, g1, g2, g3, g4]
    exact gc_bool _ _ _ _ _ _
  | false =>
    have hi2 := of_decide_eq_false hok.symm
    simp only [Bool.false_eq_true, if_false, Int.natCast_zero] at g1 g3 hwv
    by_cases c1 : i ≥ 0
    · have c2 : ¬ i < ((l.length / 4 : Nat) : Int) := fun h => hi2 ⟨c1, h⟩
      simp (disch := (first | omega | (simp only [lnE, put_length] <;> omega) | (refine Fit.mono ‹Fit _ _ _› ?_ <;> (simp only [lnE, put_length] <;> omega)) | (refine Fit.draw ‹Fit _ _ _› ?_ ?_ <;> (simp only [lnE, put_length] <;> omega)) | (refine Fit.hid1 ‹Fit _ _ _› ?_ ?_ <;> (simp only [lnE, put_length] <;> omega)) | (refine Fit.draw1 ‹Fit _ _ _› ?_ ?_ ?_ <;> (simp only [lnE, put_length] <;> omega)) | (refine Fit.range0 ?_ ?_ <;> (simp only [lnE, put_length] <;> omega)) | (refine ArOk.mono ‹ArOk _ _ _ _ _› ?_ <;> (simp only [lnE, put_length] <;> omega)) | (refine ArOk.hid ‹ArOk _ _ _ _ _› ?_ ?_ <;> (simp only [lnE, put_length] <;> omega)) | (refine ArOk.hid0 ‹ArOk _ _ _ _ _› ?_ ?_ <;> (simp only [lnE, put_length] <;> omega)) | ((intro xr hxr; simp [AM.refs, refsF, refsC] at hxr) <;> (simp only [lnE, put_length] <;> omega)) | fail)) only [syA, syB, argFr, D, E, T, C, undefv, eqF, aeq, sheqs, sheq, rdCells, cellsOf, fill, putAt, if_true, if_false, reduceIte, ↓reduceIte, reduceCtorEq, eq_self, Nat.reduceEqDiff, Nat.reduceAdd, Nat.reduceSub, Nat.reduceMul, Nat.reduceLT, Nat.reduceLeDiff, Nat.reducePow, Nat.reduceDiv, Nat.reduceMod, Int.reduceLT, Int.reduceLE, Int.reduceGT, Int.reduceGE, Int.reduceToNat, Int.reducePow, Int.reduceNeg, Int.reduceBEq, Int.reduceBNe, Int.reduceEq, Int.reduceAdd, Int.reduceSub, Int.reduceMul, cellv, sc, flatv, refs, refsF, refsC, syR, Int.le_refl, hF.not0, hF.not1, hF.up0, hF.up1, k.hr, k.hq, ac3, hlen, h1, wakes_walk, new_walk, take_walk, htk, st, setWord_walk, hsw, word_walk, hwv, hwp, hwp0, load_walk, hload, hdiv, c1, c2, sl_some, slB_some, hml, g1, g2, g3, g4]
      exact gc_bool _ _ _ _ _ _
    · simp (disch := (first | omega | (simp only [lnE, put_length] <;> omega) | (refine Fit.mono ‹Fit _ _ _› ?_ <;> (simp only [lnE, put_length] <;> omega)) | (refine Fit.draw ‹Fit _ _ _› ?_ ?_ <;> (simp only [lnE, put_length] <;> omega)) | (refine Fit.hid1 ‹Fit _ _ _› ?_ ?_ <;> (simp only [lnE, put_length] <;> omega)) | (refine Fit.draw1 ‹Fit _ _ _› ?_ ?_ ?_ <;> (simp only [lnE, put_length] <;> omega)) | (refine Fit.range0 ?_ ?_ <;> (simp only [lnE, put_length] <;> omega)) | (refine ArOk.mono ‹ArOk _ _ _ _ _› ?_ <;> (simp only [lnE, put_length] <;> omega)) | (refine ArOk.hid ‹ArOk _ _ _ _ _› ?_ ?_ <;> (simp only [lnE, put_length] <;> omega)) | (refine ArOk.hid0 ‹ArOk _ _ _ _ _› ?_ ?_ <;> (simp only [lnE, put_length] <;> omega)) | ((intro xr hxr; simp [AM.refs, refsF, refsC] at hxr) <;> (simp only [lnE, put_length] <;> omega)) | fail)) only [syA, syB, argFr, D, E, T, C, undefv, eqF, aeq, sheqs, sheq, rdCells, cellsOf, fill, putAt, if_true, if_false, reduceIte, ↓reduceIte, reduceCtorEq, eq_self, Nat.reduceEqDiff, Nat.reduceAdd, Nat.reduceSub, Nat.reduceMul, Nat.reduceLT, Nat.reduceLeDiff, Nat.reducePow, Nat.reduceDiv, Nat.reduceMod, Int.reduceLT, Int.reduceLE, Int.reduceGT, Int.reduceGE, Int.reduceToNat, Int.reducePow, Int.reduceNeg, Int.reduceBEq, Int.reduceBNe, Int.reduceEq, Int.reduceAdd, Int.reduceSub, Int.reduceMul, cellv, sc, flatv, refs, refsF, refsC, syR, Int.le_refl, hF.not0, hF.not1, hF.up0, hF.up1, k.hr, k.hq, ac3, hlen, h1, wakes_walk, new_walk, take_walk, htk, st, setWord_walk, hsw, word_walk, hwv, hwp, hwp0, load_walk, hload, hdiv, c1, sl_some, slB_some, hml, g1, g2, g3, g4]
      exact gc_bool _ _ _ _ _ _
end ArA
end Go.Proofs.Ytfefeikkjebfoaa
