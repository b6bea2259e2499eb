/-
  THE REFERENCE'S ARENA on the abstract machine: Store. Conditions: none.
-/
import Derived.Test.YtfefeikkjebfoaaRaB
import Derived.Test.YtfefeikkjebfoaaARows
set_option linter.all false
namespace Go.Proofs.Ytfefeikkjebfoaa
namespace ArA
open Go Go.RowKit AM ArEnv
theorem putN_take {bs l : List Nat} {w j : Nat} (hj : j < l.length) (h : w + l.length ≤ bs.length) : (putN bs w (l.take j)).set (w + j) l[j] = putN bs w (l.take (j + 1)) := by
  have h1 : w + (l.take j).length ≤ bs.length := by simp; omega
  have h2 : w + (l.take (j + 1)).length ≤ bs.length := by simp; omega
  apply List.ext_getElem?
  intro i
  rw [List.getElem?_set, putN_get h1, putN_get h2, putN_length h1]
  simp only [List.length_take, List.getElem?_take]
  by_cases e : w + j = i
  · subst e
    rw [if_pos rfl, if_pos (by omega), if_pos (by omega), if_pos (by omega), Nat.add_sub_cancel_left, List.getElem?_eq_getElem hj]
  · rw [if_neg e]
    by_cases e2 : w ≤ i ∧ i < w + j
    · rw [if_pos (by omega), if_pos (by omega), if_pos (by omega), if_pos (by omega)]
    · rw [if_neg (by omega), if_neg (by omega)]
section
variable {hp : List Blk} {r q L : Nat} {H d : List Nat} {A : Arn}
theorem rastore_loop {a : Option Addr} {e n w : Nat} {l : List Nat} {s i0 len : Int} (hF : Fit hp.length L H) (k : ArOk hp.length r q H A) (hw : L ≤ r ∧ L ≤ q) (hn : n = l.length) (hr : ∀ B, Rd ⟨put (hp ++ [.cells 0 true [.int .i64 s, .int .i64 len]]) r q B, L, H, []⟩ (.slice a n e) l) (hwe : s + i0 = (w : Nat)) (hl : w + l.length ≤ A.bs.length) (hs : 0 ≤ s ∧ 0 ≤ i0) :
    ∀ (c j : Nat), j + c = l.length → ∃ fr, Liter env lb65_0 [9, 0, 5, 2, 3] (hp.length + 1) [(9, .int .i64 j), (0, arP r), (5, .pointer (some ⟨hp.length, 0, some 0⟩)), (2, .int .i64 i0), (3, .slice a n e)] ⟨put (hp ++ [.cells 0 true [.int .i64 s, .int .i64 len]]) r q ⟨putN A.bs w (l.take j), A.live, A.peak⟩, L, H, []⟩
      = some (.exit 0, fr, ⟨put (hp ++ [.cells 0 true [.int .i64 s, .int .i64 len]]) r q ⟨putN A.bs w l, A.live, A.peak⟩, L, H, []⟩)
  | 0, j, h => by
    obtain rfl : j = l.length := by omega
    have h1 := k.r_lt
    have h2 := k.q_lt
    have c1 : ¬ (l.length : Int) < l.length := by omega
    rw [iter_by lb65_0.eq_1, List.take_length]
    subst hn
    simp (disch := (first | omega | (simp only [lnE, put_length] <;> omega) | (refine Fit.mono ‹Fit _ _ _› ?_ <;> (simp only [lnE, put_length] <;> omega)) | (refine Fit.draw ‹Fit _ _ _› ?_ ?_ <;> (simp only [lnE, put_length] <;> omega)) | (refine Fit.hid1 ‹Fit _ _ _› ?_ ?_ <;> (simp only [lnE, put_length] <;> omega)) | (refine Fit.hidc1 ‹Fit _ _ _› ?_ ?_ <;> (simp only [lnE, put_length] <;> omega)) | (refine Fit.hidc2 ‹Fit _ _ _› ?_ ?_ ?_ <;> (simp only [lnE, put_length] <;> omega)) | (refine Fit.draw1 ‹Fit _ _ _› ?_ ?_ ?_ <;> (simp only [lnE, put_length] <;> omega)) | (refine Fit.range0 ?_ ?_ <;> (simp only [lnE, put_length] <;> omega)) | (refine ArOk.mono ‹ArOk _ _ _ _ _› ?_ <;> (simp only [lnE, put_length] <;> omega)) | (refine ArOk.hid ‹ArOk _ _ _ _ _› ?_ ?_ <;> (simp only [lnE, put_length] <;> omega)) | (refine ArOk.hid0 ‹ArOk _ _ _ _ _› ?_ ?_ <;> (simp only [lnE, put_length] <;> omega)) | ((intro xr hxr; simp [AM.refs, refsF, refsC] at hxr) <;> (simp only [lnE, put_length] <;> omega)) | fail)) only [syA, syB, argFr, D, E, T, C, undefv, eqF, aeq, sheqs, sheq, rdCells, cellsOf, fill, putAt, if_true, if_false, reduceIte, ↓reduceIte, reduceCtorEq, eq_self, Nat.reduceEqDiff, Nat.reduceAdd, Nat.reduceSub, Nat.reduceMul, Nat.reduceLT, Nat.reduceLeDiff, Nat.reducePow, Nat.reduceDiv, Nat.reduceMod, Int.reduceLT, Int.reduceLE, Int.reduceGT, Int.reduceGE, Int.reduceToNat, Int.reducePow, Int.reduceNeg, Int.reduceBEq, Int.reduceBNe, Int.reduceEq, Int.reduceAdd, Int.reduceSub, Int.reduceMul, cellv, sc, flatv, refs, refsF, refsC, syR, Int.le_refl, hF.not0, hF.not1, hF.up0, hF.up1, k.hr, k.hq, c1]
    exact ⟨_, rfl⟩
  | c + 1, j, h => by
    have hj : j < l.length := by omega
    have h1 := k.r_lt
    have h2 := k.q_lt
    have h5 := k.size
    have hne := k.ne
    have hql : (q < L) = False := eq_false (by omega)
    obtain ⟨fr, e1⟩ := rastore_loop hF k hw hn hr hwe hl hs c (j + 1) (by omega)
    obtain ⟨b1, o1, g1, pl1, cs1, rfl, _, hh1, hb1, hc1⟩ := (hr ⟨putN A.bs w (l.take j), A.live, A.peak⟩).at_ hj
    simp only at hh1 hb1
    have c1 : (j : Int) < l.length := by omega
    have c2 : 0 ≤ (j : Int) ∧ (j : Int) < l.length := by omega
    have hpl : (putN A.bs w (l.take j)).length = A.bs.length := putN_length (by simp; omega)
    have hpl2 : (putN A.bs w (l.take (j + 1))).length = A.bs.length := putN_length (by simp; omega)
    have r0 : 0 ≤ (w : Int) + (j : Int) ∧ (w : Int) + (j : Int) < A.bs.length := by omega
    have t0 : ((w : Int) + (j : Int)).toNat = w + j := by omega
    have b0 : w + j + 1 ≤ A.bs.length := by omega
    have z1 := u8s_setN (putN A.bs w (l.take j)) (w + j) l[j]
    rw [putN_take hj hl] at z1
    subst hn
    simp only [Int.natCast_add, Int.natCast_one] at e1
    rw [iter_by lb65_0.eq_1]
    simp (disch := (first | omega | (simp only [lnE, put_length] <;> omega) | (refine Fit.mono ‹Fit _ _ _› ?_ <;> (simp only [lnE, put_length] <;> omega)) | (refine Fit.draw ‹Fit _ _ _› ?_ ?_ <;> (simp only [lnE, put_length] <;> omega)) | (refine Fit.hid1 ‹Fit _ _ _› ?_ ?_ <;> (simp only [lnE, put_length] <;> omega)) | (refine Fit.hidc1 ‹Fit _ _ _› ?_ ?_ <;> (simp only [lnE, put_length] <;> omega)) | (refine Fit.hidc2 ‹Fit _ _ _› ?_ ?_ ?_ <;> (simp only [lnE, put_length] <;> omega)) | (refine Fit.draw1 ‹Fit _ _ _› ?_ ?_ ?_ <;> (simp only [lnE, put_length] <;> omega)) | (refine Fit.range0 ?_ ?_ <;> (simp only [lnE, put_length] <;> omega)) | (refine ArOk.mono ‹ArOk _ _ _ _ _› ?_ <;> (simp only [lnE, put_length] <;> omega)) | (refine ArOk.hid ‹ArOk _ _ _ _ _› ?_ ?_ <;> (simp only [lnE, put_length] <;> omega)) | (refine ArOk.hid0 ‹ArOk _ _ _ _ _› ?_ ?_ <;> (simp only [lnE, put_length] <;> omega)) | ((intro xr hxr; simp [AM.refs, refsF, refsC] at hxr) <;> (simp only [lnE, put_length] <;> omega)) | fail)) only [syA, syB, argFr, D, E, T, C, undefv, eqF, aeq, sheqs, sheq, rdCells, cellsOf, fill, putAt, if_true, if_false, reduceIte, ↓reduceIte, reduceCtorEq, eq_self, Nat.reduceEqDiff, Nat.reduceAdd, Nat.reduceSub, Nat.reduceMul, Nat.reduceLT, Nat.reduceLeDiff, Nat.reducePow, Nat.reduceDiv, Nat.reduceMod, Int.reduceLT, Int.reduceLE, Int.reduceGT, Int.reduceGE, Int.reduceToNat, Int.reducePow, Int.reduceNeg, Int.reduceBEq, Int.reduceBNe, Int.reduceEq, Int.reduceAdd, Int.reduceSub, Int.reduceMul, cellv, sc, flatv, refs, refsF, refsC, syR, Int.le_refl, hF.not0, hF.not1, hF.up0, hF.up1, k.hr, k.hq, c1, c2, hh1, hb1, hc1, hwe, hpl, hpl2, r0, t0, b0, z1, hql, e1]
    exact ⟨fr, by first | exact e1 | rfl⟩
theorem rastore_walk {v : Value} {l : List Nat} (hlb : l.length ≤ 1048576) (hF : Fit hp.length L H) (k : ArOk hp.length r q H A) (hw : L ≤ r ∧ L ≤ q) (s len i : Int) (hr : ∀ nw B, Rd ⟨put (hp ++ nw) r q B, L, H, []⟩ v l) :
    Lrun env (.func 65) [arP r, .agg #[.int .i64 s, .int .i64 len], .int .i64 i, v] ⟨put hp r q A, L, H, d⟩ = some (.bool (A.part s len i l.length), ⟨put hp r q (A.store s len i l), L, H, d⟩) := by
  have h1 := k.r_lt
  have h2 := k.q_lt
  have h3 := k.live0
  have h4 := k.live1
  have h5 := k.size
  have hne := k.ne
  obtain ⟨a, e, rfl⟩ := (hr [] A).len
  have hin := fun nw => rain_walk (d := []) (L := L) (H := H) (hp := hp ++ nw) (r := r) (q := q) (hF.mono (by simp)) (k.mono (by simp)) s len i l.length (by omega) (by omega)
  rw [Lrun_sym 65 _ _ fn65]
  cases hh : A.part s len i l.length with
  | false =>
    simp (disch := (first | omega | (simp only [lnE, put_length] <;> omega) | (refine Fit.mono ‹Fit _ _ _› ?_ <;> (simp only [lnE, put_length] <;> omega)) | (refine Fit.draw ‹Fit _ _ _› ?_ ?_ <;> (simp only [lnE, put_length] <;> omega)) | (refine Fit.hid1 ‹Fit _ _ _› ?_ ?_ <;> (simp only [lnE, put_length] <;> omega)) | (refine Fit.hidc1 ‹Fit _ _ _› ?_ ?_ <;> (simp only [lnE, put_length] <;> omega)) | (refine Fit.hidc2 ‹Fit _ _ _› ?_ ?_ ?_ <;> (simp only [lnE, put_length] <;> omega)) | (refine Fit.draw1 ‹Fit _ _ _› ?_ ?_ ?_ <;> (simp only [lnE, put_length] <;> omega)) | (refine Fit.range0 ?_ ?_ <;> (simp only [lnE, put_length] <;> omega)) | (refine ArOk.mono ‹ArOk _ _ _ _ _› ?_ <;> (simp only [lnE, put_length] <;> omega)) | (refine ArOk.hid ‹ArOk _ _ _ _ _› ?_ ?_ <;> (simp only [lnE, put_length] <;> omega)) | (refine ArOk.hid0 ‹ArOk _ _ _ _ _› ?_ ?_ <;> (simp only [lnE, put_length] <;> omega)) | ((intro xr hxr; simp [AM.refs, refsF, refsC] at hxr) <;> (simp only [lnE, put_length] <;> omega)) | fail)) only [syA, syB, argFr, D, E, T, C, undefv, eqF, aeq, sheqs, sheq, rdCells, cellsOf, fill, putAt, if_true, if_false, reduceIte, ↓reduceIte, reduceCtorEq, eq_self, Nat.reduceEqDiff, Nat.reduceAdd, Nat.reduceSub, Nat.reduceMul, Nat.reduceLT, Nat.reduceLeDiff, Nat.reducePow, Nat.reduceDiv, Nat.reduceMod, Int.reduceLT, Int.reduceLE, Int.reduceGT, Int.reduceGE, Int.reduceToNat, Int.reducePow, Int.reduceNeg, Int.reduceBEq, Int.reduceBNe, Int.reduceEq, Int.reduceAdd, Int.reduceSub, Int.reduceMul, cellv, sc, flatv, refs, refsF, refsC, syR, Int.le_refl, hF.not0, hF.not1, hF.up0, hF.up1, k.hr, k.hq, ac65, hin, hh]
    simp [Arn.store, hh]
  | true =>
    have hs2 := k.part_le hh (by omega)
    obtain ⟨w, hwe⟩ : ∃ w : Nat, s + i = (w : Nat) := ⟨(s + i).toNat, by omega⟩
    obtain ⟨fr, e1⟩ := rastore_loop (len := len) hF k hw rfl (hr [.cells 0 true [.int .i64 s, .int .i64 len]]) hwe (by omega) (by omega) l.length 0 (by omega)
    have z0 : putN A.bs w [] = A.bs := putN_nil _ _
    have zA : (⟨A.bs, A.live, A.peak⟩ : Arn) = A := rfl
    rw [List.take_zero, z0, zA] at e1
    simp only [Int.natCast_zero] at e1
    have ev : A.store s len i l = ⟨putN A.bs w l, A.live, A.peak⟩ := by
      unfold Arn.store
      rw [if_pos hh]
      unfold Arn.setAt
      rw [hwe, Int.toNat_natCast]
    rw [ev]
    simp (disch := (first | omega | (simp only [lnE, put_length] <;> omega) | (refine Fit.mono ‹Fit _ _ _› ?_ <;> (simp only [lnE, put_length] <;> omega)) | (refine Fit.draw ‹Fit _ _ _› ?_ ?_ <;> (simp only [lnE, put_length] <;> omega)) | (refine Fit.hid1 ‹Fit _ _ _› ?_ ?_ <;> (simp only [lnE, put_length] <;> omega)) | (refine Fit.hidc1 ‹Fit _ _ _› ?_ ?_ <;> (simp only [lnE, put_length] <;> omega)) | (refine Fit.hidc2 ‹Fit _ _ _› ?_ ?_ ?_ <;> (simp only [lnE, put_length] <;> omega)) | (refine Fit.draw1 ‹Fit _ _ _› ?_ ?_ ?_ <;> (simp only [lnE, put_length] <;> omega)) | (refine Fit.range0 ?_ ?_ <;> (simp only [lnE, put_length] <;> omega)) | (refine ArOk.mono ‹ArOk _ _ _ _ _› ?_ <;> (simp only [lnE, put_length] <;> omega)) | (refine ArOk.hid ‹ArOk _ _ _ _ _› ?_ ?_ <;> (simp only [lnE, put_length] <;> omega)) | (refine ArOk.hid0 ‹ArOk _ _ _ _ _› ?_ ?_ <;> (simp only [lnE, put_length] <;> omega)) | ((intro xr hxr; simp [AM.refs, refsF, refsC] at hxr) <;> (simp only [lnE, put_length] <;> omega)) | fail)) only [syA, syB, argFr, D, E, T, C, undefv, eqF, aeq, sheqs, sheq, rdCells, cellsOf, fill, putAt, if_true, if_false, reduceIte, ↓reduceIte, reduceCtorEq, eq_self, Nat.reduceEqDiff, Nat.reduceAdd, Nat.reduceSub, Nat.reduceMul, Nat.reduceLT, Nat.reduceLeDiff, Nat.reducePow, Nat.reduceDiv, Nat.reduceMod, Int.reduceLT, Int.reduceLE, Int.reduceGT, Int.reduceGE, Int.reduceToNat, Int.reducePow, Int.reduceNeg, Int.reduceBEq, Int.reduceBNe, Int.reduceEq, Int.reduceAdd, Int.reduceSub, Int.reduceMul, cellv, sc, flatv, refs, refsF, refsC, syR, Int.le_refl, hF.not0, hF.not1, hF.up0, hF.up1, k.hr, k.hq, ac65, hin, hh, e1]
end
/-! ### The operations as rows -/
structure AD where
  dn : Int
  n : Int
  s : Int
  z : Int
  v : Nat
  bv : Value
  b : List Nat
def arow (d : AD) : List Value := [.int .i64 d.dn, .int .i64 d.n, .int .i64 d.s, .int .i64 d.z, .int .u32 d.v, d.bv]
structure ADok (d : AD) : Prop where
  v : d.v < 4294967296
  n0 : -9223372036854775808 ≤ d.n
  n1 : d.n ≤ 9223372036854775807
structure R6 (σ : St) (v : Value) (ds : List AD) : Prop where
  form : (v = .slice none 0 0 ∧ ds = []) ∨ ∃ b pl, v = .slice (some ⟨b, 0, some 0⟩) ds.length 0 ∧ σ.hid.contains b = false ∧ σ.heap[b]? = some (.cells 0 pl (ds.map arow).flatten)
  rd : ∀ d ∈ ds, Rd σ d.bv d.b
theorem R6.len {σ : St} {v : Value} {ds : List AD} (R : R6 σ v ds) : ∃ a e, v = .slice a ds.length e := by
  rcases R.form with ⟨rfl, rfl⟩ | ⟨b, pl, rfl, _⟩
  · exact ⟨none, 0, rfl⟩
  · exact ⟨_, _, rfl⟩
theorem R6.more {σ τ : St} {v : Value} {ds : List AD} (h : R6 σ v ds) (hp : ∀ b x, σ.heap[b]? = some x → σ.hid.contains b = false → τ.heap[b]? = some x ∧ τ.hid.contains b = false) : R6 τ v ds := by
  refine ⟨?_, fun d hd => (h.rd d hd).more hp⟩
  rcases h.form with h1 | ⟨b, pl, h1, h2, h3⟩
  · exact .inl h1
  · obtain ⟨h4, h5⟩ := hp b _ h3 h2
    exact .inr ⟨b, pl, h1, h5, h4⟩
theorem R6.at_ {σ : St} {v : Value} {ds : List AD} (R : R6 σ v ds) {i : Nat} (hi : i < ds.length) :
    ∃ b pl cs, v = .slice (some ⟨b, 0, some 0⟩) ds.length 0 ∧ σ.hid.contains b = false ∧ σ.heap[b]? = some (.cells 0 pl cs) ∧ (cs.drop (i * 6)).take 6 = arow ds[i] ∧ i * 6 + 6 ≤ cs.length ∧
      cs[i * 6]? = some (.int .i64 ds[i].dn) ∧ cs[i * 6 + 1]? = some (.int .i64 ds[i].n) ∧ cs[i * 6 + 2]? = some (.int .i64 ds[i].s) ∧ cs[i * 6 + 3]? = some (.int .i64 ds[i].z) ∧ cs[i * 6 + 4]? = some (.int .u32 ds[i].v) ∧ cs[i * 6 + 5]? = some ds[i].bv ∧ (cs.drop (i * 6 + 2)).take 2 = [.int .i64 ds[i].s, .int .i64 ds[i].z] := by
  rcases R.form with ⟨rfl, rfl⟩ | ⟨b, pl, h1, h2, h3⟩
  · simp at hi
  · have hlens : ∀ l ∈ ds.map arow, l.length = 6 := fun l hl => by
      obtain ⟨q, hq, rfl⟩ := List.mem_map.1 hl
      rfl
    have hlen := flat_len hlens
    rw [List.length_map] at hlen
    have hg : ∀ k, k < 6 → (ds.map arow).flatten[i * 6 + k]? = (arow ds[i])[k]? := fun k hk => by
      rw [flat_get hlens _ _ hk, List.getElem?_map, List.getElem?_eq_getElem hi]
      rfl
    have hd : ((ds.map arow).flatten.drop (i * 6)).take 6 = arow ds[i] := by
      apply List.ext_getElem?
      intro k
      rw [List.getElem?_take, List.getElem?_drop]
      split
      · rename_i hk; exact hg k hk
      · rename_i hk; rw [List.getElem?_eq_none (by show 6 ≤ k; omega)]
    have hd2 : ((ds.map arow).flatten.drop (i * 6 + 2)).take 2 = [.int .i64 ds[i].s, .int .i64 ds[i].z] := by
      apply List.ext_getElem?
      intro k
      rw [List.getElem?_take, List.getElem?_drop]
      split
      · rename_i hk
        rw [Nat.add_assoc, hg (2 + k) (by omega)]
        rcases (by omega : k = 0 ∨ k = 1) with rfl | rfl <;> rfl
      · rename_i hk; rw [List.getElem?_eq_none (by show 2 ≤ k; omega)]
    exact ⟨b, pl, _, h1, h2, h3, hd, by rw [hlen]; omega, hg 0 (by omega), hg 1 (by omega), hg 2 (by omega), hg 3 (by omega), hg 4 (by omega), hg 5 (by omega), hd2⟩
end ArA
end Go.Proofs.Ytfefeikkjebfoaa
