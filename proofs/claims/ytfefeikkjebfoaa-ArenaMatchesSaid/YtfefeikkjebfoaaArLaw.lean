/-
  THE ARENA: the laws, run on the abstract machine: words. Conditions: none.
-/
import Derived.Test.YtfefeikkjebfoaaArA
set_option linter.all false
namespace Go.Proofs.Ytfefeikkjebfoaa
namespace AM
open Go Go.RowKit
/-- An arena of N bytes whose first bytes, all that live, are l. -/
def Arn.laid (N : Nat) (l : List Nat) : Arn := ⟨l ++ List.replicate (N - l.length) 0, l.length, l.length⟩
theorem laid_len {N : Nat} {l : List Nat} (h : l.length ≤ N) : (Arn.laid N l).bs.length = N := by simp [Arn.laid]; omega
theorem new_taken {N n : Nat} (h : n ≤ N) : (Arn.new N).taken n = ((Arn.new N).take n, 0, (n : Int), 0) := by
  simp only [Arn.taken, Arn.new, List.length_replicate]
  rw [if_neg (by omega), if_neg (by omega)]
theorem new_take {N n : Nat} (h : n ≤ N) : (Arn.new N).take n = Arn.laid N (List.replicate n 0) := by
  simp only [Arn.take, Arn.new, Arn.laid, List.length_replicate, putN]
  congr 1
  · simp [List.replicate_append_replicate] <;> omega
  · omega
  · omega
theorem laid_part {N : Nat} {l : List Nat} {n : Int} (h : n = l.length) : (Arn.laid N l).part 0 n 0 n = true := by
  subst h; rw [Arn.part_iff]; simp [Arn.laid] <;> omega
theorem laid_store {N : Nat} {l m : List Nat} (hm : m.length = l.length) (h : l.length ≤ N) : (Arn.laid N l).store 0 m.length 0 m = Arn.laid N m := by
  have hp : (Arn.laid N l).part 0 m.length 0 m.length = true := laid_part (by omega)
  simp only [Arn.store]
  rw [if_pos hp]
  simp only [Arn.setAt, Arn.laid, putN]
  simp only [Int.zero_add, Int.toNat_zero, List.take_zero, List.nil_append, Nat.zero_add, hm, Arn.mk.injEq, and_true]
  rw [← hm, hm, List.drop_left']
  exact rfl
theorem ArOk.laid {n r q N : Nat} {H : List Nat} {l : List Nat} (hr : r < n) (hq : q < n) (hne : r ≠ q) (hl : By l) (hs : l.length ≤ N) (hN : N ≤ 1048576) (h1 : H.contains r = false) (h2 : H.contains q = false) : ArOk n r q H (Arn.laid N l) where
  r_lt := hr
  q_lt := hq
  ne := hne
  by_ := hl.append fun x hx => by rw [List.mem_replicate] at hx; omega
  live0 := by simp [Arn.laid]
  live1 := by rw [laid_len hs]; simp [Arn.laid]; omega
  peak0 := by simp [Arn.laid]
  peak1 := by rw [laid_len hs]; simp [Arn.laid]; omega
  size := by rw [laid_len hs]; exact hN
  hr := h1
  hq := h2
theorem ArOk.new {n r q N : Nat} {H : List Nat} (hr : r < n) (hq : q < n) (hne : r ≠ q) (hN : N ≤ 1048576) (h1 : H.contains r = false) (h2 : H.contains q = false) : ArOk n r q H (Arn.new N) := by
  have : Arn.new N = Arn.laid N [] := by simp [Arn.new, Arn.laid]
  rw [this]
  exact ArOk.laid hr hq hne By.nil (by simp) hN h1 h2
theorem laid_has {N : Nat} {l : List Nat} {n : Int} (h : n = l.length) : (Arn.laid N l).has 0 n = true := by
  subst h; rw [Arn.has_iff]; simp [Arn.laid]
theorem laid_load {N : Nat} {l : List Nat} : (Arn.laid N l).loadO 0 l.length = some l := by
  simp only [Arn.loadO, laid_has rfl, if_true]
  simp [Arn.laid]
theorem Rd.put {hp nw : List Blk} {L L' r q : Nat} {H d d' : List Nat} {v : Value} {l : List Nat} {A : Arn} (k : Rd ⟨hp, L, H, d⟩ v l) (hr : hp.length ≤ r) (hq : hp.length ≤ q) : Rd ⟨put (hp ++ nw) r q A, L', H, d'⟩ v l :=
  k.more fun b x hx hh => by
    have hb := (List.getElem?_eq_some_iff.1 hx).1
    simp only at hb hx hh
    exact ⟨by simp only; rw [put_o (by omega) (by omega), get_left hb]; exact hx, hh⟩
theorem laid_live (N : Nat) (l : List Nat) : (Arn.laid N l).live = l.length := rfl
theorem setWord_live (A : Arn) (s len i : Int) (v : Nat) : (A.setWord s len i v).live = A.live := by
  unfold Arn.setWord; split <;> rfl
theorem has_live {A B : Arn} (h : A.live = B.live) (s n : Int) : A.has s n = B.has s n := by simp [Arn.has, h]
theorem wpart_live {A B : Arn} (h : A.live = B.live) (s len i : Int) : A.wpart s len i = B.wpart s len i := by simp [Arn.wpart, Arn.part, has_live h]
theorem laid_wpart {N : Nat} {l : List Nat} (hn : l.length ≤ 4194304) (i : Int) : (Arn.laid N l).wpart 0 l.length i = decide (0 ≤ i ∧ i < ((l.length / 4 : Nat) : Int)) := by
  rw [Bool.eq_iff_iff]
  simp only [Arn.wpart, Bool.and_eq_true, decide_eq_true_eq, Arn.part_iff, laid_live]
  omega
theorem le4_split {v : Nat} (h : v < 4294967296) : le4 (v % 256) (v / 256 % 256) (v / 65536 % 256) (v / 16777216 % 256) = v := by unfold le4; omega
/-- The bytes after a word was set. -/
def setW (l : List Nat) (ok : Bool) (i : Int) (v : Nat) : List Nat := if ok = true then putN l (4 * i).toNat (split4 v) else l
/-- What must lie at place k after the word was set. -/
def wantW (l : List Nat) (ok : Bool) (i : Int) (v k : Nat) : Nat := if ok = true ∧ ((k / 4 : Nat) : Int) = i then v / 256 ^ (k % 4) % 256 else l.getD k 0
theorem setW_length {l : List Nat} {ok : Bool} {i : Int} {v : Nat} (h : ok = true → 0 ≤ i ∧ 4 * i + 4 ≤ l.length) : (setW l ok i v).length = l.length := by
  unfold setW
  split
  · rename_i e
    have := h e
    exact putN_length (by simp [split4]; omega)
  · rfl
theorem setW_get {l : List Nat} {ok : Bool} {i : Int} {v : Nat} (h : ok = true → 0 ≤ i ∧ 4 * i + 4 ≤ l.length) {k : Nat} (hk : k < l.length) : (setW l ok i v)[k]? = some (wantW l ok i v k) := by
  unfold setW wantW
  by_cases e : ok = true
  · have hh := h e
    rw [if_pos e, putN_get (by simp [split4]; omega)]
    by_cases hi : ((k / 4 : Nat) : Int) = i
    · rw [if_pos (by simp [split4]; omega), if_pos ⟨e, hi⟩]
      have : k - (4 * i).toNat = k % 4 := by omega
      rw [this]
      rcases (by omega : k % 4 = 0 ∨ k % 4 = 1 ∨ k % 4 = 2 ∨ k % 4 = 3) with h4 | h4 | h4 | h4 <;> rw [h4] <;> simp [split4]
    · rw [if_neg (by simp [split4]; omega), if_neg (fun hx => hi hx.2)]
      simp [List.getD_eq_getElem?_getD, hk]
  · rw [if_neg e, if_neg (fun hx => e hx.1)]
    simp [List.getD_eq_getElem?_getD, hk]
theorem setW_by {l : List Nat} {ok : Bool} {i : Int} {v : Nat} (h : By l) : By (setW l ok i v) := by
  unfold setW; split
  · exact putN_by h (split4_by v)
  · exact h
theorem laid_setWord {N : Nat} {l : List Nat} (hn : l.length ≤ N) (hN : N ≤ 1048576) (i : Int) (v : Nat) : (Arn.laid N l).setWord 0 l.length i v = Arn.laid N (setW l ((Arn.laid N l).wpart 0 l.length i) i v) := by
  unfold Arn.setWord setW
  split
  · rename_i e
    have h := laid_wpart (N := N) (l := l) (by omega) i
    rw [e] at h
    have hi := of_decide_eq_true h.symm
    have hl : (putN l (4 * i).toNat (split4 v)).length = l.length := putN_length (by simp [split4]; omega)
    simp only [Arn.setAt, Arn.laid, hl, Arn.mk.injEq, and_true, Int.zero_add]
    simp only [putN]
    rw [List.take_append_of_le_length (by omega), List.drop_append_of_le_length (by simp [split4]; omega)]
    simp
  · rfl
theorem laid_wordV {N : Nat} {l : List Nat} (hn : l.length ≤ N) (hN : N ≤ 1048576) (i : Int) (v : Nat) (hv : v < 4294967296) : (Arn.laid N (setW l ((Arn.laid N l).wpart 0 l.length i) i v)).wordV 0 l.length i = if (Arn.laid N l).wpart 0 l.length i = true then v else 0 := by
  have hd := laid_wpart (N := N) (l := l) (by omega) i
  have hc : (Arn.laid N l).wpart 0 l.length i = true → 0 ≤ i ∧ 4 * i + 4 ≤ l.length := fun e => by
    rw [e] at hd
    have := of_decide_eq_true hd.symm
    omega
  have hlen := setW_length (v := v) hc
  have hlive : (Arn.laid N (setW l ((Arn.laid N l).wpart 0 l.length i) i v)).live = (Arn.laid N l).live := by rw [laid_live, laid_live, hlen]
  unfold Arn.wordV
  rw [wpart_live hlive]
  split
  · rename_i e
    have hi := hc e
    have sl : ∀ j : Nat, j < 4 → (Arn.laid N (setW l ((Arn.laid N l).wpart 0 l.length i) i v)).slot 0 (4 * i + j) = v / 256 ^ j % 256 := fun j hj => by
      have hk : (0 + (4 * i + (j : Int))).toNat = (4 * i).toNat + j := by omega
      have hg := setW_get (v := v) hc (k := (4 * i).toNat + j) (by omega)
      rw [Arn.slot, hk, List.getD_eq_getElem?_getD]
      rw [show (Arn.laid N (setW l ((Arn.laid N l).wpart 0 l.length i) i v)).bs = setW l ((Arn.laid N l).wpart 0 l.length i) i v ++ List.replicate (N - (setW l ((Arn.laid N l).wpart 0 l.length i) i v).length) 0 from rfl, List.getElem?_append_left (by omega), hg]
      simp only [Option.getD_some, wantW]
      rw [if_pos ⟨e, by omega⟩]
      have : ((4 * i).toNat + j) % 4 = j := by omega
      rw [this]
    have s0 := sl 0 (by omega)
    have s1 := sl 1 (by omega)
    have s2 := sl 2 (by omega)
    have s3 := sl 3 (by omega)
    simp only [Int.natCast_zero, Int.add_zero, Int.natCast_one, Int.cast_ofNat_Int, Nat.reducePow, Nat.div_one] at s0 s1 s2 s3
    rw [s0, s1, s2, s3, le4_split hv]
  · rfl
end AM
namespace ArA
open Go Go.RowKit AM ArEnv

theorem wakes_walk (σ : St) : Lrun env (.func 15) [] σ = some (.bool true, σ) := by
  obtain ⟨hp, L, H, d⟩ := σ
  rw [Lrun_sym 15 _ _ fn15]
  simp (disch := (first | omega | (simp only [lnE] <;> omega) | (refine Fit.mono ‹Fit _ _ _› ?_ <;> (simp only [lnE] <;> omega)) | (refine Fit.draw ‹Fit _ _ _› ?_ ?_ <;> (simp only [lnE] <;> omega)) | (refine Fit.hid1 ‹Fit _ _ _› ?_ ?_ <;> (simp only [lnE] <;> omega)) | (refine Fit.hidc1 ‹Fit _ _ _› ?_ ?_ <;> (simp only [lnE] <;> omega)) | (refine Fit.hidc2 ‹Fit _ _ _› ?_ ?_ ?_ <;> (simp only [lnE] <;> omega)) | (refine Fit.draw1 ‹Fit _ _ _› ?_ ?_ ?_ <;> (simp only [lnE] <;> omega)) | (refine Fit.range0 ?_ ?_ <;> (simp only [lnE] <;> omega)) | fail)) only [syA, syB, argFr, D, E, T, C, undefv, eqF, aeq, sheqs, sheq, rdCells, cellsOf, fill, putAt, if_true, if_false, reduceIte, ↓reduceIte, reduceCtorEq, eq_self, Nat.reduceEqDiff, Nat.reduceAdd, Nat.reduceSub, Nat.reduceMul, Nat.reduceLT, Nat.reduceLeDiff, Nat.reducePow, Nat.reduceDiv, Nat.reduceMod, Int.reduceLT, Int.reduceLE, Int.reduceGT, Int.reduceGE, Int.reduceToNat, Int.reducePow, Int.reduceNeg, Int.reduceBEq, Int.reduceBNe, Int.reduceEq, Int.reduceAdd, Int.reduceSub, Int.reduceMul, cellv, sc, flatv, refs, refsF, refsC, constFn]
end ArA
end Go.Proofs.Ytfefeikkjebfoaa
