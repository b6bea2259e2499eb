/-
  RANKS: walks of the functions on the abstract machine, third part: Less, and a text laid into an arena. Conditions: none.
-/
import Derived.Test.YtfefeikkjebfoaaRkB
set_option linter.all false
namespace Go.Proofs.Ytfefeikkjebfoaa
namespace ArA
open Go Go.RowKit AM ArEnv

def c256 (l : List Nat) : List Value := (List.range 256).map fun j => .int .i64 (l.count j : Nat)
theorem c256_len (l : List Nat) : (c256 l).length = 256 := by simp [c256]
theorem c256_at (l : List Nat) {j : Nat} (h : j < 256) : (c256 l)[j]? = some (.int .i64 (l.count j : Nat)) := by simp [c256, h]
theorem c256_cellv (l : List Nat) : (c256 l).all cellv = true := by simp [c256, AM.cellv, AM.sc]
theorem c256_scs (l : List Nat) : (c256 l).all AM.sc = true := by simp [c256, AM.sc]
theorem ext256 {a b : List Value} (h1 : a.length = 256) (h2 : b.length = 256) (h : ∀ j, j < 256 → a[j]? = b[j]?) : a = b := by
  apply List.ext_getElem?
  intro j
  by_cases hj : j < 256
  · exact h j hj
  · rw [List.getElem?_eq_none (by omega), List.getElem?_eq_none (by omega)]
theorem rep256 (n : Nat) : List.replicate n (Value.int .i64 0) = (List.range n).map fun _ => Value.int .i64 0 := by
  apply List.ext_getElem?
  intro j
  by_cases h : j < n <;> simp [h]
theorem c256_nil : List.replicate 256 (Value.int .i64 0) = c256 [] := by rw [rep256]; rfl
theorem cnt_take {l : List Nat} {k : Nat} (h : k < l.length) (j : Nat) : (l.take (k + 1)).count j = (l.take k).count j + (if l[k] = j then 1 else 0) := by
  rw [List.take_succ_eq_append_getElem h, List.count_append]
  congr 1
  simp [List.count_cons]
theorem c256_set {l : List Nat} {i : Nat} (h : i < l.length) (h16 : l[i] < 256) : (c256 (l.take i)).set l[i] (.int .i64 (((l.take i).count l[i] : Nat) + 1)) = c256 (l.take (i + 1)) := by
  refine ext256 (by rw [List.length_set, c256_len]) (c256_len _) fun j hj => ?_
  rw [c256_at _ hj, List.getElem?_set, cnt_take h]
  by_cases e : l[i] = j
  · subst e
    rw [if_pos rfl, if_pos (by rw [c256_len]; exact hj), if_pos rfl]
    congr 2
  · rw [if_neg e, c256_at _ hj, if_neg e]
    congr 2
def csm (l : List Nat) : Nat → Nat
  | 0 => 0
  | n + 1 => csm l n + l.count n
theorem csm_le (l : List Nat) : ∀ n, csm l n ≤ n * l.length
  | 0 => by simp [csm]
  | n + 1 => by
    have := csm_le l n
    have h2 : l.count n ≤ l.length := List.count_le_length
    simp only [csm]
    rw [Nat.add_mul, Nat.one_mul]; omega
def lP (l : List Nat) (n : Nat) : List Value := (List.range 256).map fun j => .int .i64 ((if j < n then csm l j else 0 : Nat) : Int)
theorem lP_len (l : List Nat) (n : Nat) : (lP l n).length = 256 := by simp [lP]
theorem lP_get (l : List Nat) (n : Nat) {j : Nat} (h : j < 256) : (lP l n)[j]? = some (.int .i64 ((if j < n then csm l j else 0 : Nat) : Int)) := by simp [lP, h]
theorem lP_zero (l : List Nat) : c256 [] = lP l 0 := ext256 (c256_len _) (lP_len _ _) fun j hj => by rw [c256_at _ hj, lP_get _ _ hj, if_neg (by omega)]; rfl
theorem lP_set (l : List Nat) {n : Nat} (h : n < 256) : (lP l n).set n (.int .i64 (csm l n : Nat)) = lP l (n + 1) := ext256 (by rw [List.length_set, lP_len]) (lP_len _ _) fun j hj => by
  rw [List.getElem?_set, lP_get l (n + 1) hj]
  by_cases e : n = j
  · subst e; rw [if_pos rfl, if_pos (by rw [lP_len]; exact h), if_pos (by omega)]
  · rw [if_neg e, lP_get l n hj]
    by_cases h1 : j < n
    · rw [if_pos h1, if_pos (by omega)]
    · rw [if_neg h1, if_neg (by omega)]
theorem lP_cellv (l : List Nat) (n : Nat) : (lP l n).all cellv = true := by simp [lP, AM.cellv, AM.sc]
theorem lP_scs (l : List Nat) (n : Nat) : (lP l n).all AM.sc = true := by simp [lP, AM.sc]
theorem lP_refs (l : List Nat) (n : Nat) : (lP l n).flatMap refsC = [] := by
  rw [List.flatMap_eq_nil_iff]
  intro v hv
  simp only [lP, List.mem_map] at hv
  obtain ⟨_, _, rfl⟩ := hv
  rfl
theorem lP_take (l : List Nat) (n : Nat) : (lP l n).take 256 = lP l n := List.take_of_length_le (by rw [lP_len]; omega)
theorem putAt_own {cs vs : List Value} (h : vs.length = cs.length) : putAt cs 0 vs = vs := by
  apply List.ext_getElem?
  intro j
  rw [putAt_get _ _ _ _ (by omega)]
  split
  · simp
  · rename_i hj
    rw [List.getElem?_eq_none (by omega), List.getElem?_eq_none (by omega)]
section
variable {hp : List Blk} {L : Nat} {H d : List Nat} {r q : Nat} {A : Arn}
theorem lcount_loop (hF : Fit hp.length L H) (k : ArOk hp.length r q H A) {x : List Nat} {B1 B2 : Blk} (hx : By x) (hm : x.length ≤ 65536) :
    ∀ (j i : Nat), i + j = x.length → ∃ fr,
    Liter env lb54_1 [14, 13, 4, 12, 5] (hp.length + 4) [(14, .int .i64 i), (13, .int .i64 x.length), (4, .pointer (some ⟨hp.length + 1, 0, some 0⟩)), (12, .slice (some ⟨hp.length + 3, 0, some x.length⟩) x.length 1), (5, .pointer (some ⟨hp.length + 2, 0, some 0⟩))]
      ⟨put (hp ++ [B1, B2, .cells 0 true (c256 (x.take i)), .cells x.length true (u8s x)]) r q A, L, H, []⟩ =
      some (.exit 0, fr, ⟨put (hp ++ [B1, B2, .cells 0 true (c256 x), .cells x.length true (u8s x)]) r q A, L, H, []⟩) ∧ fr.get 4 = some (.pointer (some ⟨hp.length + 1, 0, some 0⟩)) ∧ fr.get 5 = some (.pointer (some ⟨hp.length + 2, 0, some 0⟩))
  | 0, i, e => by
    obtain rfl : i = x.length := by omega
    rw [iter_by lb54_1.eq_1, List.take_of_length_le (Nat.le_refl _)]
    simp (disch := (first | omega | (simp only [lnE, put_length] <;> omega) | (refine Fit.mono ‹Fit _ _ _› ?_ <;> (simp only [lnE, put_length] <;> omega)) | (refine Fit.draw ‹Fit _ _ _› ?_ ?_ <;> (simp only [lnE, put_length] <;> omega)) | (refine Fit.hid1 ‹Fit _ _ _› ?_ ?_ <;> (simp only [lnE, put_length] <;> omega)) | (refine Fit.hidc1 ‹Fit _ _ _› ?_ ?_ <;> (simp only [lnE, put_length] <;> omega)) | (refine Fit.hidc2 ‹Fit _ _ _› ?_ ?_ ?_ <;> (simp only [lnE, put_length] <;> omega)) | (refine Fit.draw1 ‹Fit _ _ _› ?_ ?_ ?_ <;> (simp only [lnE, put_length] <;> omega)) | (refine Fit.range0 ?_ ?_ <;> (simp only [lnE, put_length] <;> omega)) | (refine ArOk.mono ‹ArOk _ _ _ _ _› ?_ <;> (simp only [lnE, put_length] <;> omega)) | (refine ArOk.hid ‹ArOk _ _ _ _ _› ?_ ?_ <;> (simp only [lnE, put_length] <;> omega)) | (refine ArOk.hid0 ‹ArOk _ _ _ _ _› ?_ ?_ <;> (simp only [lnE, put_length] <;> omega)) | ((intro xr hxr; simp [AM.refs, refsF, refsC] at hxr) <;> (simp only [lnE, put_length] <;> omega)) | fail)) only [syA, syB, argFr, D, E, T, C, undefv, eqF, aeq, sheqs, sheq, rdCells, cellsOf, fill, putAt, if_true, if_false, reduceIte, ↓reduceIte, reduceCtorEq, eq_self, Nat.reduceEqDiff, Nat.reduceAdd, Nat.reduceSub, Nat.reduceMul, Nat.reduceLT, Nat.reduceLeDiff, Nat.reducePow, Nat.reduceDiv, Nat.reduceMod, Int.reduceLT, Int.reduceLE, Int.reduceGT, Int.reduceGE, Int.reduceToNat, Int.reducePow, Int.reduceNeg, Int.reduceBEq, Int.reduceBNe, Int.reduceEq, Int.reduceAdd, Int.reduceSub, Int.reduceMul, cellv, sc, flatv, refs, refsF, refsC, syR, Int.le_refl, hF.not0, hF.not1, hF.up0, hF.up1, k.hr, k.hq]
    exact ⟨_, rfl, rfl, rfl⟩
  | j + 1, i, e => by
    have hi : i < x.length := by omega
    have hrl := k.r_lt
    have hql := k.q_lt
    obtain ⟨fr, e1, e2⟩ := lcount_loop hF k hx hm (B1 := B1) (B2 := B2) j (i + 1) (by omega)
    have h1 : (i : Int) < x.length := by omega
    have h2 : 0 ≤ (i : Int) ∧ (i : Int) < x.length := by omega
    have hb : x[i] < 256 := hx.get hi
    have hcell : (u8s x)[i]? = some (.int .u8 (x[i] : Int)) := by rw [u8s_get, List.getElem?_eq_getElem hi]; rfl
    have h4 : 0 ≤ (x[i] : Int) ∧ (x[i] : Int) < 256 := by omega
    have h5 : x[i] + 1 ≤ 256 := by omega
    have hct : (x.take i).count x[i] ≤ 65536 := Nat.le_trans List.count_le_length (by simp; omega)
    simp only [Int.natCast_add, Int.natCast_one] at e1
    rw [iter_by lb54_1.eq_1]
    simp (disch := (first | omega | (simp only [lnE, put_length] <;> omega) | (refine Fit.mono ‹Fit _ _ _› ?_ <;> (simp only [lnE, put_length] <;> omega)) | (refine Fit.draw ‹Fit _ _ _› ?_ ?_ <;> (simp only [lnE, put_length] <;> omega)) | (refine Fit.hid1 ‹Fit _ _ _› ?_ ?_ <;> (simp only [lnE, put_length] <;> omega)) | (refine Fit.hidc1 ‹Fit _ _ _› ?_ ?_ <;> (simp only [lnE, put_length] <;> omega)) | (refine Fit.hidc2 ‹Fit _ _ _› ?_ ?_ ?_ <;> (simp only [lnE, put_length] <;> omega)) | (refine Fit.draw1 ‹Fit _ _ _› ?_ ?_ ?_ <;> (simp only [lnE, put_length] <;> omega)) | (refine Fit.range0 ?_ ?_ <;> (simp only [lnE, put_length] <;> omega)) | (refine ArOk.mono ‹ArOk _ _ _ _ _› ?_ <;> (simp only [lnE, put_length] <;> omega)) | (refine ArOk.hid ‹ArOk _ _ _ _ _› ?_ ?_ <;> (simp only [lnE, put_length] <;> omega)) | (refine ArOk.hid0 ‹ArOk _ _ _ _ _› ?_ ?_ <;> (simp only [lnE, put_length] <;> omega)) | ((intro xr hxr; simp [AM.refs, refsF, refsC] at hxr) <;> (simp only [lnE, put_length] <;> omega)) | fail)) only [syA, syB, argFr, D, E, T, C, undefv, eqF, aeq, sheqs, sheq, rdCells, cellsOf, fill, putAt, if_true, if_false, reduceIte, ↓reduceIte, reduceCtorEq, eq_self, Nat.reduceEqDiff, Nat.reduceAdd, Nat.reduceSub, Nat.reduceMul, Nat.reduceLT, Nat.reduceLeDiff, Nat.reducePow, Nat.reduceDiv, Nat.reduceMod, Int.reduceLT, Int.reduceLE, Int.reduceGT, Int.reduceGE, Int.reduceToNat, Int.reducePow, Int.reduceNeg, Int.reduceBEq, Int.reduceBNe, Int.reduceEq, Int.reduceAdd, Int.reduceSub, Int.reduceMul, cellv, sc, flatv, refs, refsF, refsC, syR, Int.le_refl, hF.not0, hF.not1, hF.up0, hF.up1, k.hr, k.hq, h1, h2, hcell, h4, h5, c256_at _ hb, c256_len, c256_set hi hb, e1]
    exact ⟨fr, rfl, e2⟩
theorem lless_loop (hF : Fit hp.length L H) (k : ArOk hp.length r q H A) {x : List Nat} {B1 B4 : Blk} (hm : x.length ≤ 65536) :
    ∀ (j n : Nat), n + j = 256 → ∃ fr,
    Liter env lb54_0 [8, 24, 4, 5] (hp.length + 4) [(8, .int .i64 (csm x n : Nat)), (24, .int .i64 n), (4, .pointer (some ⟨hp.length + 1, 0, some 0⟩)), (5, .pointer (some ⟨hp.length + 2, 0, some 0⟩))]
      ⟨put (hp ++ [B1, .cells 0 true (lP x n), .cells 0 true (c256 x), B4]) r q A, L, H, []⟩ =
      some (.exit 2, fr, ⟨put (hp ++ [B1, .cells 0 true (lP x 256), .cells 0 true (c256 x), B4]) r q A, L, H, []⟩) ∧ fr.get 4 = some (.pointer (some ⟨hp.length + 1, 0, some 0⟩))
  | 0, n, e => by
    obtain rfl : n = 256 := by omega
    rw [iter_by lb54_0.eq_1]
    simp (disch := (first | omega | (simp only [lnE, put_length] <;> omega) | (refine Fit.mono ‹Fit _ _ _› ?_ <;> (simp only [lnE, put_length] <;> omega)) | (refine Fit.draw ‹Fit _ _ _› ?_ ?_ <;> (simp only [lnE, put_length] <;> omega)) | (refine Fit.hid1 ‹Fit _ _ _› ?_ ?_ <;> (simp only [lnE, put_length] <;> omega)) | (refine Fit.hidc1 ‹Fit _ _ _› ?_ ?_ <;> (simp only [lnE, put_length] <;> omega)) | (refine Fit.hidc2 ‹Fit _ _ _› ?_ ?_ ?_ <;> (simp only [lnE, put_length] <;> omega)) | (refine Fit.draw1 ‹Fit _ _ _› ?_ ?_ ?_ <;> (simp only [lnE, put_length] <;> omega)) | (refine Fit.range0 ?_ ?_ <;> (simp only [lnE, put_length] <;> omega)) | (refine ArOk.mono ‹ArOk _ _ _ _ _› ?_ <;> (simp only [lnE, put_length] <;> omega)) | (refine ArOk.hid ‹ArOk _ _ _ _ _› ?_ ?_ <;> (simp only [lnE, put_length] <;> omega)) | (refine ArOk.hid0 ‹ArOk _ _ _ _ _› ?_ ?_ <;> (simp only [lnE, put_length] <;> omega)) | ((intro xr hxr; simp [AM.refs, refsF, refsC] at hxr) <;> (simp only [lnE, put_length] <;> omega)) | fail)) only [syA, syB, argFr, D, E, T, C, undefv, eqF, aeq, sheqs, sheq, rdCells, cellsOf, fill, putAt, if_true, if_false, reduceIte, ↓reduceIte, reduceCtorEq, eq_self, Nat.reduceEqDiff, Nat.reduceAdd, Nat.reduceSub, Nat.reduceMul, Nat.reduceLT, Nat.reduceLeDiff, Nat.reducePow, Nat.reduceDiv, Nat.reduceMod, Int.reduceLT, Int.reduceLE, Int.reduceGT, Int.reduceGE, Int.reduceToNat, Int.reducePow, Int.reduceNeg, Int.reduceBEq, Int.reduceBNe, Int.reduceEq, Int.reduceAdd, Int.reduceSub, Int.reduceMul, cellv, sc, flatv, refs, refsF, refsC, syR, Int.le_refl, hF.not0, hF.not1, hF.up0, hF.up1, k.hr, k.hq]
    exact ⟨_, rfl, rfl⟩
  | j + 1, n, e => by
    have hn : n < 256 := by omega
    have hrl := k.r_lt
    have hql := k.q_lt
    obtain ⟨fr, e1, e2⟩ := lless_loop hF k hm (x := x) (B1 := B1) (B4 := B4) j (n + 1) (by omega)
    have h1 : (n : Int) < 256 := by omega
    have h2 : 0 ≤ (n : Int) ∧ (n : Int) < 256 := by omega
    have h5 : n + 1 ≤ 256 := by omega
    have hb := csm_le x (n + 1)
    have hb2 : (n + 1) * x.length ≤ 256 * 65536 := Nat.mul_le_mul (by omega) hm
    have hadd : ((csm x n : Nat) : Int) + (x.count n : Nat) = (csm x (n + 1) : Nat) := by simp only [csm]; omega
    simp only [Int.natCast_add, Int.natCast_one] at e1
    rw [iter_by lb54_0.eq_1]
    simp (disch := (first | omega | (simp only [lnE, put_length] <;> omega) | (refine Fit.mono ‹Fit _ _ _› ?_ <;> (simp only [lnE, put_length] <;> omega)) | (refine Fit.draw ‹Fit _ _ _› ?_ ?_ <;> (simp only [lnE, put_length] <;> omega)) | (refine Fit.hid1 ‹Fit _ _ _› ?_ ?_ <;> (simp only [lnE, put_length] <;> omega)) | (refine Fit.hidc1 ‹Fit _ _ _› ?_ ?_ <;> (simp only [lnE, put_length] <;> omega)) | (refine Fit.hidc2 ‹Fit _ _ _› ?_ ?_ ?_ <;> (simp only [lnE, put_length] <;> omega)) | (refine Fit.draw1 ‹Fit _ _ _› ?_ ?_ ?_ <;> (simp only [lnE, put_length] <;> omega)) | (refine Fit.range0 ?_ ?_ <;> (simp only [lnE, put_length] <;> omega)) | (refine ArOk.mono ‹ArOk _ _ _ _ _› ?_ <;> (simp only [lnE, put_length] <;> omega)) | (refine ArOk.hid ‹ArOk _ _ _ _ _› ?_ ?_ <;> (simp only [lnE, put_length] <;> omega)) | (refine ArOk.hid0 ‹ArOk _ _ _ _ _› ?_ ?_ <;> (simp only [lnE, put_length] <;> omega)) | ((intro xr hxr; simp [AM.refs, refsF, refsC] at hxr) <;> (simp only [lnE, put_length] <;> omega)) | fail)) only [syA, syB, argFr, D, E, T, C, undefv, eqF, aeq, sheqs, sheq, rdCells, cellsOf, fill, putAt, if_true, if_false, reduceIte, ↓reduceIte, reduceCtorEq, eq_self, Nat.reduceEqDiff, Nat.reduceAdd, Nat.reduceSub, Nat.reduceMul, Nat.reduceLT, Nat.reduceLeDiff, Nat.reducePow, Nat.reduceDiv, Nat.reduceMod, Int.reduceLT, Int.reduceLE, Int.reduceGT, Int.reduceGE, Int.reduceToNat, Int.reducePow, Int.reduceNeg, Int.reduceBEq, Int.reduceBNe, Int.reduceEq, Int.reduceAdd, Int.reduceSub, Int.reduceMul, cellv, sc, flatv, refs, refsF, refsC, syR, Int.le_refl, hF.not0, hF.not1, hF.up0, hF.up1, k.hr, k.hq, h1, h2, h5, c256_at _ hn, lP_len, lP_set x hn, hadd, e1]
    exact ⟨fr, rfl, e2⟩
theorem less_walk (hF : Fit hp.length L H) (k : ArOk hp.length r q H A) {s m : Int} {x : List Nat} (hx : By x) (hm : x.length ≤ 65536) (hlo : A.loadO s m = some x) :
    Lrun env (.func 54) [arP r, .agg #[.int .i64 s, .int .i64 m]] ⟨put hp r q A, L, H, d⟩ = some (.agg (lP x 256).toArray, ⟨put hp r q A, L, H, d⟩) := by
  have hrl := k.r_lt
  have hql := k.q_lt
  obtain ⟨fr, e1, e2, e3⟩ := lcount_loop (hp := hp) (L := L) (H := H) hF k (B1 := .cells 0 true [.int .i64 s, .int .i64 m]) (B2 := .cells 0 true (c256 [])) hx hm x.length 0 (by omega)
  obtain ⟨fr2, f1, f2⟩ := lless_loop (hp := hp) (L := L) (H := H) hF k (x := x) (B1 := .cells 0 true [.int .i64 s, .int .i64 m]) (B4 := .cells x.length true (u8s x)) hm 256 0 rfl
  rw [← lP_zero] at f1
  simp only [List.take_zero, Int.natCast_zero, csm] at e1 f1
  have lw := fun nw => load_walk (d := []) (L := L) (H := H) (hp := hp ++ nw) (r := r) (q := q) (hF.mono (by simp)) (k.mono (by simp)) s m
  simp only [hlo] at lw
  have hput : putAt (lP x 256) 0 (lP x 256) = lP x 256 := putAt_own rfl
  rw [Lrun_sym 54 _ _ fn54]
  simp (disch := (first | omega | (simp only [lnE, put_length] <;> omega) | (refine Fit.mono ‹Fit _ _ _› ?_ <;> (simp only [lnE, put_length] <;> omega)) | (refine Fit.draw ‹Fit _ _ _› ?_ ?_ <;> (simp only [lnE, put_length] <;> omega)) | (refine Fit.hid1 ‹Fit _ _ _› ?_ ?_ <;> (simp only [lnE, put_length] <;> omega)) | (refine Fit.hidc1 ‹Fit _ _ _› ?_ ?_ <;> (simp only [lnE, put_length] <;> omega)) | (refine Fit.hidc2 ‹Fit _ _ _› ?_ ?_ ?_ <;> (simp only [lnE, put_length] <;> omega)) | (refine Fit.draw1 ‹Fit _ _ _› ?_ ?_ ?_ <;> (simp only [lnE, put_length] <;> omega)) | (refine Fit.range0 ?_ ?_ <;> (simp only [lnE, put_length] <;> omega)) | (refine ArOk.mono ‹ArOk _ _ _ _ _› ?_ <;> (simp only [lnE, put_length] <;> omega)) | (refine ArOk.hid ‹ArOk _ _ _ _ _› ?_ ?_ <;> (simp only [lnE, put_length] <;> omega)) | (refine ArOk.hid0 ‹ArOk _ _ _ _ _› ?_ ?_ <;> (simp only [lnE, put_length] <;> omega)) | ((intro xr hxr; simp [AM.refs, refsF, refsC] at hxr) <;> (simp only [lnE, put_length] <;> omega)) | fail)) only [syA, syB, argFr, D, E, T, C, undefv, eqF, aeq, sheqs, sheq, rdCells, cellsOf, fill, putAt, if_true, if_false, reduceIte, ↓reduceIte, reduceCtorEq, eq_self, Nat.reduceEqDiff, Nat.reduceAdd, Nat.reduceSub, Nat.reduceMul, Nat.reduceLT, Nat.reduceLeDiff, Nat.reducePow, Nat.reduceDiv, Nat.reduceMod, Int.reduceLT, Int.reduceLE, Int.reduceGT, Int.reduceGE, Int.reduceToNat, Int.reducePow, Int.reduceNeg, Int.reduceBEq, Int.reduceBNe, Int.reduceEq, Int.reduceAdd, Int.reduceSub, Int.reduceMul, cellv, sc, flatv, refs, refsF, refsC, syR, Int.le_refl, hF.not0, hF.not1, hF.up0, hF.up1, k.hr, k.hq, ac54, c256_nil, lw, sl_some, slB_some, e1, e2, e3, f1, f2, lP_len, lP_cellv, lP_scs, lP_refs, lP_take, hput]
end
end ArA
end Go.Proofs.Ytfefeikkjebfoaa
