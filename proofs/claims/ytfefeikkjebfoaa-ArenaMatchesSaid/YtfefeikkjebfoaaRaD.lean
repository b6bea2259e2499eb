/-
  THE ARENA AND ITS REFERENCE side by side: one operation in both. Conditions: none.
-/
import Derived.Test.YtfefeikkjebfoaaRaC
set_option linter.all false
namespace Go.Proofs.Ytfefeikkjebfoaa
namespace ArA
open Go Go.RowKit AM ArEnv
section
variable {hp : List Blk} {L : Nat} {H d : List Nat} {r q r' q' : Nat} {A B : Arn}
theorem take2 (h1 : r ≠ r') (h2 : r ≠ q') (h3 : q ≠ r') (h4 : q ≠ q') (hF : Fit hp.length L H) (k : ArOk hp.length r q H A) (hw : L ≤ r ∧ L ≤ q) (n : Int) :
    Lrun env (.func 17) [arP r, .int .i64 n] ⟨put (put hp r q A) r' q' B, L, H, d⟩ = some (.tuple #[.agg #[.int .i64 (A.taken n).2.1, .int .i64 (A.taken n).2.2.1], .int .i64 (A.taken n).2.2.2], ⟨put (put hp r q (A.taken n).1) r' q' B, L, H, d⟩) :=
  tr2 h1 h2 h3 h4 fun hp' hl => take_walk (by rw [hl]; exact hF) (by rw [hl]; exact k) hw n
theorem rel2' (h1 : r ≠ r') (h2 : r ≠ q') (h3 : q ≠ r') (h4 : q ≠ q') (hF : Fit hp.length L H) (k : ArOk hp.length r q H A) (hw : L ≤ r ∧ L ≤ q) (m : Int) :
    Lrun env (.func 22) [arP r, .int .i64 m] ⟨put (put hp r q A) r' q' B, L, H, d⟩ = some (.bool (decide (0 ≤ m ∧ m ≤ A.live)), ⟨put (put hp r q (A.release m)) r' q' B, L, H, d⟩) :=
  tr2 h1 h2 h3 h4 fun hp' hl => release_walk (by rw [hl]; exact hF) (by rw [hl]; exact k) hw m
theorem setb2 (h1 : r ≠ r') (h2 : r ≠ q') (h3 : q ≠ r') (h4 : q ≠ q') (hF : Fit hp.length L H) (k : ArOk hp.length r q H A) (hw : L ≤ r ∧ L ≤ q) (s len i : Int) (c : Nat) (hc : c < 256) :
    Lrun env (.func 36) [arP r, .agg #[.int .i64 s, .int .i64 len], .int .i64 i, .int .u8 c] ⟨put (put hp r q A) r' q' B, L, H, d⟩ = some (.bool (A.part s len i 1), ⟨put (put hp r q (A.setByte s len i c)) r' q' B, L, H, d⟩) :=
  tr2 h1 h2 h3 h4 fun hp' hl => setByte_walk (by rw [hl]; exact hF) (by rw [hl]; exact k) hw s len i c hc
theorem setw2 (h1 : r ≠ r') (h2 : r ≠ q') (h3 : q ≠ r') (h4 : q ≠ q') (hF : Fit hp.length L H) (k : ArOk hp.length r q H A) (hw : L ≤ r ∧ L ≤ q) (s len i : Int) (v : Nat) (hv : v < 4294967296) :
    Lrun env (.func 19) [arP r, .agg #[.int .i64 s, .int .i64 len], .int .i64 i, .int .u32 v] ⟨put (put hp r q A) r' q' B, L, H, d⟩ = some (.bool (A.wpart s len i), ⟨put (put hp r q (A.setWord s len i v)) r' q' B, L, H, d⟩) :=
  tr2 h1 h2 h3 h4 fun hp' hl => setWord_walk (by rw [hl]; exact hF) (by rw [hl]; exact k) hw s len i v hv
theorem byte2 (h1 : r ≠ r') (h2 : r ≠ q') (h3 : q ≠ r') (h4 : q ≠ q') (hF : Fit hp.length L H) (k : ArOk hp.length r q H A) (s len i : Int) :
    Lrun env (.func 29) [arP r, .agg #[.int .i64 s, .int .i64 len], .int .i64 i] ⟨put (put hp r q A) r' q' B, L, H, d⟩ = some (.tuple #[.int .u8 (A.byteV s len i), .bool (A.part s len i 1)], ⟨put (put hp r q A) r' q' B, L, H, d⟩) :=
  tr2 h1 h2 h3 h4 fun hp' hl => byte_walk (by rw [hl]; exact hF) (by rw [hl]; exact k) s len i
theorem word2 (h1 : r ≠ r') (h2 : r ≠ q') (h3 : q ≠ r') (h4 : q ≠ q') (hF : Fit hp.length L H) (k : ArOk hp.length r q H A) (s len i : Int) :
    Lrun env (.func 20) [arP r, .agg #[.int .i64 s, .int .i64 len], .int .i64 i] ⟨put (put hp r q A) r' q' B, L, H, d⟩ = some (.tuple #[.int .u32 (A.wordV s len i), .bool (A.wpart s len i)], ⟨put (put hp r q A) r' q' B, L, H, d⟩) :=
  tr2 h1 h2 h3 h4 fun hp' hl => word_walk (by rw [hl]; exact hF) (by rw [hl]; exact k) s len i
theorem has2 (h1 : r ≠ r') (h2 : r ≠ q') (h3 : q ≠ r') (h4 : q ≠ q') (hF : Fit hp.length L H) (k : ArOk hp.length r q H A) (s n : Int) :
    Lrun env (.func 33) [arP r, .agg #[.int .i64 s, .int .i64 n]] ⟨put (put hp r q A) r' q' B, L, H, d⟩ = some (.bool (A.has s n), ⟨put (put hp r q A) r' q' B, L, H, d⟩) :=
  tr2 h1 h2 h3 h4 fun hp' hl => has_walk (by rw [hl]; exact hF) (by rw [hl]; exact k) s n
theorem peak2 (h1 : r ≠ r') (h2 : r ≠ q') (h3 : q ≠ r') (h4 : q ≠ q') (hF : Fit hp.length L H) (k : ArOk hp.length r q H A) :
    Lrun env (.func 23) [arP r] ⟨put (put hp r q A) r' q' B, L, H, d⟩ = some (.int .i64 A.peak, ⟨put (put hp r q A) r' q' B, L, H, d⟩) :=
  tr2 h1 h2 h3 h4 fun hp' hl => peak_walk (by rw [hl]; exact hF) (by rw [hl]; exact k)
theorem mark2 (h1 : r ≠ r') (h2 : r ≠ q') (h3 : q ≠ r') (h4 : q ≠ q') (hF : Fit hp.length L H) (k : ArOk hp.length r q H A) :
    Lrun env (.func 24) [arP r] ⟨put (put hp r q A) r' q' B, L, H, d⟩ = some (.int .i64 A.live, ⟨put (put hp r q A) r' q' B, L, H, d⟩) :=
  tr2 h1 h2 h3 h4 fun hp' hl => mark_walk (by rw [hl]; exact hF) (by rw [hl]; exact k)
theorem left2 (h1 : r ≠ r') (h2 : r ≠ q') (h3 : q ≠ r') (h4 : q ≠ q') (hF : Fit hp.length L H) (k : ArOk hp.length r q H A) :
    Lrun env (.func 35) [arP r] ⟨put (put hp r q A) r' q' B, L, H, d⟩ = some (.int .i64 (A.bs.length - A.live), ⟨put (put hp r q A) r' q' B, L, H, d⟩) :=
  tr2 h1 h2 h3 h4 fun hp' hl => left_walk (by rw [hl]; exact hF) (by rw [hl]; exact k)
theorem store2 {v : Value} {l : List Nat} (hlb : l.length ≤ 1048576) (h1 : r ≠ r') (h2 : r ≠ q') (h3 : q ≠ r') (h4 : q ≠ q') (hF : Fit hp.length L H) (k : ArOk hp.length r q H A) (hr' : r' < hp.length) (hq' : q' < hp.length) (hw : L ≤ r ∧ L ≤ q) (s len i : Int) (hr : ∀ nw, Rd ⟨put (put (hp ++ nw) r q A) r' q' B, L, H, []⟩ v l) :
    Lrun env (.func 18) [arP r, .agg #[.int .i64 s, .int .i64 len], .int .i64 i, v] ⟨put (put hp r q A) r' q' B, L, H, d⟩ = some (.bool (A.part s len i l.length), ⟨put (put hp r q (A.store s len i l)) r' q' B, L, H, d⟩) := by
  rw [put_comm h1 h2 h3 h4, store_walk (hp := put hp r' q' B) (A := A) hlb (by rw [put_length]; exact hF) (by rw [put_length]; exact k) hw s len i (fun nw => by
    rw [put_app hr' hq', put_comm (Ne.symm h1) (Ne.symm h3) (Ne.symm h2) (Ne.symm h4)]; exact hr nw), put_comm (Ne.symm h1) (Ne.symm h3) (Ne.symm h2) (Ne.symm h4)]
end
theorem gc_put2 {hp nw : List Blk} {L r q r' q' : Nat} {H : List Nat} {A B : Arn} {b : Bool} (hr : r < hp.length) (hq : q < hp.length) (hr' : r' < hp.length) (hq' : q' < hp.length) :
    gc hp.length [.bool b] ⟨put (put (hp ++ nw) r q A) r' q' B, L, H, []⟩ = some ([.bool b], ⟨put (put hp r q A) r' q' B, L, H, []⟩) := by
  have h := gc_put (hp := put hp r q A) (nw := nw) (r := r') (q := q') (L := L) (H := H) (A := B) (.bool b) (by rw [put_length]; exact hr') (by rw [put_length]; exact hq')
  rw [put_length] at h
  rw [← put_app hr hq, h]
  rfl
/-- What an operation does. -/
def opA (d : AD) (A : Arn) : Arn :=
  if d.dn = 0 then (A.taken d.n).1 else if d.dn = 1 then A.release d.n else if d.dn = 2 then A.setByte d.s d.z d.n (d.b.length % 256) else if d.dn = 3 then A.setWord d.s d.z d.n d.v else A.store d.s d.z d.n d.b
theorem opA_ok {N r q : Nat} {H : List Nat} {A : Arn} (k : ArOk N r q H A) {d : AD} (hb : By d.b) : ArOk N r q H (opA d A) := by
  unfold opA
  split
  · exact k.taken _
  split
  · exact k.release _
  split
  · exact k.setByte (Nat.mod_lt _ (by omega))
  split
  · exact k.setWord
  · exact k.store hb
theorem opA_len {N r q : Nat} {H : List Nat} {A : Arn} (k : ArOk N r q H A) {d : AD} (hb : By d.b) : (opA d A).bs.length = A.bs.length := by
  have h0 := k.live0
  have h1 := k.live1
  unfold opA
  split
  · unfold Arn.taken
    split
    · rfl
    split
    · rfl
    · show (A.take d.n).bs.length = _
      unfold Arn.take
      exact putN_length (by simp; omega)
  split
  · unfold Arn.release; split <;> rfl
  split
  · unfold Arn.setByte
    split
    · rename_i h
      have := k.part_le h (by omega)
      exact putN_length (by simp; omega)
    · rfl
  split
  · unfold Arn.setWord
    split
    · rename_i h
      have := k.wpart_le h
      exact putN_length (by simp [split4]; omega)
    · rfl
  · unfold Arn.store
    split
    · rename_i h
      have := k.part_le h (by omega)
      exact putN_length (by omega)
    · rfl
section
variable {hp : List Blk} {L : Nat} {r q r' q' : Nat} {A : Arn} {dd : List Nat}
theorem same_walk (hF : Fit hp.length L []) (k : ArOk hp.length r q [] A) (k' : ArOk hp.length r' q' [] A) (n1 : r ≠ r') (n2 : r ≠ q') (n3 : q ≠ r') (n4 : q ≠ q') (hw : L ≤ r ∧ L ≤ q) (hw' : L ≤ r' ∧ L ≤ q') {d : AD} (hd : ADok d) (hl : d.b.length ≤ 300)
    (hr : ∀ (nw : List Blk) (A B : Arn) (H : List Nat), (∀ x ∈ H, hp.length ≤ x) → Rd ⟨put (put (hp ++ nw) r q A) r' q' B, L, H, []⟩ d.bv d.b) :
    Lrun env (.func 28) [arP r, arP r', .agg (arow d).toArray] ⟨put (put hp r q A) r' q' A, L, [], dd⟩ = some (.bool true, ⟨put (put hp r q (opA d A)) r' q' (opA d A), L, [], dd⟩) := by
  have hrl := k.r_lt
  have hql := k.q_lt
  have hrl' := k'.r_lt
  have hql' := k'.q_lt
  have hlen := (hr [] A A [] (by simp)).lenF
  have kH : ArOk (hp.length + 1) r q [hp.length] A := ArA.ArOk.re k (by omega) (by simp; omega) (by simp; omega)
  have kH' : ArOk (hp.length + 1) r' q' [hp.length] A := ArA.ArOk.re k' (by omega) (by simp; omega) (by simp; omega)
  have hbv : d.bv = .slice none 0 0 ∨ ∃ a n e, d.bv = .slice (some a) n e := by
    rcases (hr [] A A [] (by simp)).form with ⟨h, _⟩ | ⟨b, o, g, e, _, _, h, _⟩
    · exact .inl h
    · exact .inr ⟨_, _, _, h⟩
  have hby := (hr [] A A [] (by simp)).by_
  obtain ⟨dn, n, s, z, v, bv, b⟩ := d
  obtain ⟨hv, hn0, hn1⟩ := hd
  simp only at hlen hbv hr hl hv hn0 hn1 hby
  have hlen' : IntKind.u8.wrap ((b.length : Nat) : Int) = ((b.length % 256 : Nat) : Int) := by rw [wu8m]; omega
  rw [Lrun_sym 28 _ _ fn28]
  unfold opA
  simp only
  have hm256 : b.length % 256 < 256 := Nat.mod_lt _ (by omega)
  by_cases c0 : dn = 0
  · have c0' : (dn == 0) = true := by simpa using c0
    rw [if_pos c0]
    rcases hbv with rfl | ⟨a, m, e, rfl⟩
    · simp (disch := (first | omega | (simp only [lnE, put_length] <;> omega) | (refine Fit.mono ‹Fit _ _ _› ?_ <;> (simp only [lnE, put_length] <;> omega)) | (refine Fit.draw ‹Fit _ _ _› ?_ ?_ <;> (simp only [lnE, put_length] <;> omega)) | (refine Fit.hid1 ‹Fit _ _ _› ?_ ?_ <;> (simp only [lnE, put_length] <;> omega)) | (refine Fit.hidc1 ‹Fit _ _ _› ?_ ?_ <;> (simp only [lnE, put_length] <;> omega)) | (refine Fit.hidc2 ‹Fit _ _ _› ?_ ?_ ?_ <;> (simp only [lnE, put_length] <;> omega)) | (refine Fit.draw1 ‹Fit _ _ _› ?_ ?_ ?_ <;> (simp only [lnE, put_length] <;> omega)) | (refine Fit.range0 ?_ ?_ <;> (simp only [lnE, put_length] <;> omega)) | (refine ArOk.mono ‹ArOk _ _ _ _ _› ?_ <;> (simp only [lnE, put_length] <;> omega)) | (refine ArOk.hid ‹ArOk _ _ _ _ _› ?_ ?_ <;> (simp only [lnE, put_length] <;> omega)) | (refine ArOk.hid0 ‹ArOk _ _ _ _ _› ?_ ?_ <;> (simp only [lnE, put_length] <;> omega)) | ((intro xr hxr; simp [AM.refs, refsF, refsC] at hxr) <;> (simp only [lnE, put_length] <;> omega)) | fail)) only [syA, syB, argFr, D, E, T, C, undefv, eqF, aeq, sheqs, sheq, rdCells, cellsOf, fill, putAt, if_true, if_false, reduceIte, ↓reduceIte, reduceCtorEq, eq_self, Nat.reduceEqDiff, Nat.reduceAdd, Nat.reduceSub, Nat.reduceMul, Nat.reduceLT, Nat.reduceLeDiff, Nat.reducePow, Nat.reduceDiv, Nat.reduceMod, Int.reduceLT, Int.reduceLE, Int.reduceGT, Int.reduceGE, Int.reduceToNat, Int.reducePow, Int.reduceNeg, Int.reduceBEq, Int.reduceBNe, Int.reduceEq, Int.reduceAdd, Int.reduceSub, Int.reduceMul, cellv, sc, flatv, refs, refsF, refsC, syR, Int.le_refl, hF.not0, hF.not1, hF.up0, hF.up1, ac28, arow, c0', take2, rftake_walk]
      rw [gc_put2 hrl hql hrl' hql']; rfl
    · simp (disch := (first | omega | (simp only [lnE, put_length] <;> omega) | (refine Fit.mono ‹Fit _ _ _› ?_ <;> (simp only [lnE, put_length] <;> omega)) | (refine Fit.draw ‹Fit _ _ _› ?_ ?_ <;> (simp only [lnE, put_length] <;> omega)) | (refine Fit.hid1 ‹Fit _ _ _› ?_ ?_ <;> (simp only [lnE, put_length] <;> omega)) | (refine Fit.hidc1 ‹Fit _ _ _› ?_ ?_ <;> (simp only [lnE, put_length] <;> omega)) | (refine Fit.hidc2 ‹Fit _ _ _› ?_ ?_ ?_ <;> (simp only [lnE, put_length] <;> omega)) | (refine Fit.draw1 ‹Fit _ _ _› ?_ ?_ ?_ <;> (simp only [lnE, put_length] <;> omega)) | (refine Fit.range0 ?_ ?_ <;> (simp only [lnE, put_length] <;> omega)) | (refine ArOk.mono ‹ArOk _ _ _ _ _› ?_ <;> (simp only [lnE, put_length] <;> omega)) | (refine ArOk.hid ‹ArOk _ _ _ _ _› ?_ ?_ <;> (simp only [lnE, put_length] <;> omega)) | (refine ArOk.hid0 ‹ArOk _ _ _ _ _› ?_ ?_ <;> (simp only [lnE, put_length] <;> omega)) | ((intro xr hxr; simp [AM.refs, refsF, refsC] at hxr) <;> (simp only [lnE, put_length] <;> omega)) | fail)) only [syA, syB, argFr, D, E, T, C, undefv, eqF, aeq, sheqs, sheq, rdCells, cellsOf, fill, putAt, if_true, if_false, reduceIte, ↓reduceIte, reduceCtorEq, eq_self, Nat.reduceEqDiff, Nat.reduceAdd, Nat.reduceSub, Nat.reduceMul, Nat.reduceLT, Nat.reduceLeDiff, Nat.reducePow, Nat.reduceDiv, Nat.reduceMod, Int.reduceLT, Int.reduceLE, Int.reduceGT, Int.reduceGE, Int.reduceToNat, Int.reducePow, Int.reduceNeg, Int.reduceBEq, Int.reduceBNe, Int.reduceEq, Int.reduceAdd, Int.reduceSub, Int.reduceMul, cellv, sc, flatv, refs, refsF, refsC, syR, Int.le_refl, hF.not0, hF.not1, hF.up0, hF.up1, ac28, arow, c0', take2, rftake_walk]
      rw [gc_put2 hrl hql hrl' hql']; rfl
  have c0' : (dn == 0) = false := by simpa using c0
  rw [if_neg c0]
  by_cases c1 : dn = 1
  · have c1' : (dn == 1) = true := by simpa using c1
    rw [if_pos c1]
    rcases hbv with rfl | ⟨a, m, e, rfl⟩
    · simp (disch := (first | omega | (simp only [lnE, put_length] <;> omega) | (refine Fit.mono ‹Fit _ _ _› ?_ <;> (simp only [lnE, put_length] <;> omega)) | (refine Fit.draw ‹Fit _ _ _› ?_ ?_ <;> (simp only [lnE, put_length] <;> omega)) | (refine Fit.hid1 ‹Fit _ _ _› ?_ ?_ <;> (simp only [lnE, put_length] <;> omega)) | (refine Fit.hidc1 ‹Fit _ _ _› ?_ ?_ <;> (simp only [lnE, put_length] <;> omega)) | (refine Fit.hidc2 ‹Fit _ _ _› ?_ ?_ ?_ <;> (simp only [lnE, put_length] <;> omega)) | (refine Fit.draw1 ‹Fit _ _ _› ?_ ?_ ?_ <;> (simp only [lnE, put_length] <;> omega)) | (refine Fit.range0 ?_ ?_ <;> (simp only [lnE, put_length] <;> omega)) | (refine ArOk.mono ‹ArOk _ _ _ _ _› ?_ <;> (simp only [lnE, put_length] <;> omega)) | (refine ArOk.hid ‹ArOk _ _ _ _ _› ?_ ?_ <;> (simp only [lnE, put_length] <;> omega)) | (refine ArOk.hid0 ‹ArOk _ _ _ _ _› ?_ ?_ <;> (simp only [lnE, put_length] <;> omega)) | ((intro xr hxr; simp [AM.refs, refsF, refsC] at hxr) <;> (simp only [lnE, put_length] <;> omega)) | fail)) only [syA, syB, argFr, D, E, T, C, undefv, eqF, aeq, sheqs, sheq, rdCells, cellsOf, fill, putAt, if_true, if_false, reduceIte, ↓reduceIte, reduceCtorEq, eq_self, Nat.reduceEqDiff, Nat.reduceAdd, Nat.reduceSub, Nat.reduceMul, Nat.reduceLT, Nat.reduceLeDiff, Nat.reducePow, Nat.reduceDiv, Nat.reduceMod, Int.reduceLT, Int.reduceLE, Int.reduceGT, Int.reduceGE, Int.reduceToNat, Int.reducePow, Int.reduceNeg, Int.reduceBEq, Int.reduceBNe, Int.reduceEq, Int.reduceAdd, Int.reduceSub, Int.reduceMul, cellv, sc, flatv, refs, refsF, refsC, syR, Int.le_refl, hF.not0, hF.not1, hF.up0, hF.up1, ac28, arow, c0', c1', rel2', rarel_walk]
      rw [gc_put2 hrl hql hrl' hql']; rfl
    · simp (disch := (first | omega | (simp only [lnE, put_length] <;> omega) | (refine Fit.mono ‹Fit _ _ _› ?_ <;> (simp only [lnE, put_length] <;> omega)) | (refine Fit.draw ‹Fit _ _ _› ?_ ?_ <;> (simp only [lnE, put_length] <;> omega)) | (refine Fit.hid1 ‹Fit _ _ _› ?_ ?_ <;> (simp only [lnE, put_length] <;> omega)) | (refine Fit.hidc1 ‹Fit _ _ _› ?_ ?_ <;> (simp only [lnE, put_length] <;> omega)) | (refine Fit.hidc2 ‹Fit _ _ _› ?_ ?_ ?_ <;> (simp only [lnE, put_length] <;> omega)) | (refine Fit.draw1 ‹Fit _ _ _› ?_ ?_ ?_ <;> (simp only [lnE, put_length] <;> omega)) | (refine Fit.range0 ?_ ?_ <;> (simp only [lnE, put_length] <;> omega)) | (refine ArOk.mono ‹ArOk _ _ _ _ _› ?_ <;> (simp only [lnE, put_length] <;> omega)) | (refine ArOk.hid ‹ArOk _ _ _ _ _› ?_ ?_ <;> (simp only [lnE, put_length] <;> omega)) | (refine ArOk.hid0 ‹ArOk _ _ _ _ _› ?_ ?_ <;> (simp only [lnE, put_length] <;> omega)) | ((intro xr hxr; simp [AM.refs, refsF, refsC] at hxr) <;> (simp only [lnE, put_length] <;> omega)) | fail)) only [syA, syB, argFr, D, E, T, C, undefv, eqF, aeq, sheqs, sheq, rdCells, cellsOf, fill, putAt, if_true, if_false, reduceIte, ↓reduceIte, reduceCtorEq, eq_self, Nat.reduceEqDiff, Nat.reduceAdd, Nat.reduceSub, Nat.reduceMul, Nat.reduceLT, Nat.reduceLeDiff, Nat.reducePow, Nat.reduceDiv, Nat.reduceMod, Int.reduceLT, Int.reduceLE, Int.reduceGT, Int.reduceGE, Int.reduceToNat, Int.reducePow, Int.reduceNeg, Int.reduceBEq, Int.reduceBNe, Int.reduceEq, Int.reduceAdd, Int.reduceSub, Int.reduceMul, cellv, sc, flatv, refs, refsF, refsC, syR, Int.le_refl, hF.not0, hF.not1, hF.up0, hF.up1, ac28, arow, c0', c1', rel2', rarel_walk]
      rw [gc_put2 hrl hql hrl' hql']; rfl
  have c1' : (dn == 1) = false := by simpa using c1
  rw [if_neg c1]
  by_cases c2 : dn = 2
  · have c2' : (dn == 2) = true := by simpa using c2
    rw [if_pos c2]
    rcases hbv with rfl | ⟨a, m, e, rfl⟩
    · simp (disch := (first | omega | (simp only [lnE, put_length] <;> omega) | (refine Fit.mono ‹Fit _ _ _› ?_ <;> (simp only [lnE, put_length] <;> omega)) | (refine Fit.draw ‹Fit _ _ _› ?_ ?_ <;> (simp only [lnE, put_length] <;> omega)) | (refine Fit.hid1 ‹Fit _ _ _› ?_ ?_ <;> (simp only [lnE, put_length] <;> omega)) | (refine Fit.hidc1 ‹Fit _ _ _› ?_ ?_ <;> (simp only [lnE, put_length] <;> omega)) | (refine Fit.hidc2 ‹Fit _ _ _› ?_ ?_ ?_ <;> (simp only [lnE, put_length] <;> omega)) | (refine Fit.draw1 ‹Fit _ _ _› ?_ ?_ ?_ <;> (simp only [lnE, put_length] <;> omega)) | (refine Fit.range0 ?_ ?_ <;> (simp only [lnE, put_length] <;> omega)) | (refine ArOk.mono ‹ArOk _ _ _ _ _› ?_ <;> (simp only [lnE, put_length] <;> omega)) | (refine ArOk.hid ‹ArOk _ _ _ _ _› ?_ ?_ <;> (simp only [lnE, put_length] <;> omega)) | (refine ArOk.hid0 ‹ArOk _ _ _ _ _› ?_ ?_ <;> (simp only [lnE, put_length] <;> omega)) | ((intro xr hxr; simp [AM.refs, refsF, refsC] at hxr) <;> (simp only [lnE, put_length] <;> omega)) | fail)) only [syA, syB, argFr, D, E, T, C, undefv, eqF, aeq, sheqs, sheq, rdCells, cellsOf, fill, putAt, if_true, if_false, reduceIte, ↓reduceIte, reduceCtorEq, eq_self, Nat.reduceEqDiff, Nat.reduceAdd, Nat.reduceSub, Nat.reduceMul, Nat.reduceLT, Nat.reduceLeDiff, Nat.reducePow, Nat.reduceDiv, Nat.reduceMod, Int.reduceLT, Int.reduceLE, Int.reduceGT, Int.reduceGE, Int.reduceToNat, Int.reducePow, Int.reduceNeg, Int.reduceBEq, Int.reduceBNe, Int.reduceEq, Int.reduceAdd, Int.reduceSub, Int.reduceMul, cellv, sc, flatv, refs, refsF, refsC, syR, Int.le_refl, hF.not0, hF.not1, hF.up0, hF.up1, ac28, arow, c0', c1', c2', hlen, hlen', setb2, rasetb_walk]
      rw [gc_put2 hrl hql hrl' hql']; rfl
    · simp (disch := (first | omega | (simp only [lnE, put_length] <;> omega) | (refine Fit.mono ‹Fit _ _ _› ?_ <;> (simp only [lnE, put_length] <;> omega)) | (refine Fit.draw ‹Fit _ _ _› ?_ ?_ <;> (simp only [lnE, put_length] <;> omega)) | (refine Fit.hid1 ‹Fit _ _ _› ?_ ?_ <;> (simp only [lnE, put_length] <;> omega)) | (refine Fit.hidc1 ‹Fit _ _ _› ?_ ?_ <;> (simp only [lnE, put_length] <;> omega)) | (refine Fit.hidc2 ‹Fit _ _ _› ?_ ?_ ?_ <;> (simp only [lnE, put_length] <;> omega)) | (refine Fit.draw1 ‹Fit _ _ _› ?_ ?_ ?_ <;> (simp only [lnE, put_length] <;> omega)) | (refine Fit.range0 ?_ ?_ <;> (simp only [lnE, put_length] <;> omega)) | (refine ArOk.mono ‹ArOk _ _ _ _ _› ?_ <;> (simp only [lnE, put_length] <;> omega)) | (refine ArOk.hid ‹ArOk _ _ _ _ _› ?_ ?_ <;> (simp only [lnE, put_length] <;> omega)) | (refine ArOk.hid0 ‹ArOk _ _ _ _ _› ?_ ?_ <;> (simp only [lnE, put_length] <;> omega)) | ((intro xr hxr; simp [AM.refs, refsF, refsC] at hxr) <;> (simp only [lnE, put_length] <;> omega)) | fail)) only [syA, syB, argFr, D, E, T, C, undefv, eqF, aeq, sheqs, sheq, rdCells, cellsOf, fill, putAt, if_true, if_false, reduceIte, ↓reduceIte, reduceCtorEq, eq_self, Nat.reduceEqDiff, Nat.reduceAdd, Nat.reduceSub, Nat.reduceMul, Nat.reduceLT, Nat.reduceLeDiff, Nat.reducePow, Nat.reduceDiv, Nat.reduceMod, Int.reduceLT, Int.reduceLE, Int.reduceGT, Int.reduceGE, Int.reduceToNat, Int.reducePow, Int.reduceNeg, Int.reduceBEq, Int.reduceBNe, Int.reduceEq, Int.reduceAdd, Int.reduceSub, Int.reduceMul, cellv, sc, flatv, refs, refsF, refsC, syR, Int.le_refl, hF.not0, hF.not1, hF.up0, hF.up1, ac28, arow, c0', c1', c2', hlen, hlen', setb2, rasetb_walk]
      rw [gc_put2 hrl hql hrl' hql']; rfl
  have c2' : (dn == 2) = false := by simpa using c2
  rw [if_neg c2]
  by_cases c3 : dn = 3
  · have c3' : (dn == 3) = true := by simpa using c3
    rw [if_pos c3]
    rcases hbv with rfl | ⟨a, m, e, rfl⟩
    · simp (disch := (first | omega | (simp only [lnE, put_length] <;> omega) | (refine Fit.mono ‹Fit _ _ _› ?_ <;> (simp only [lnE, put_length] <;> omega)) | (refine Fit.draw ‹Fit _ _ _› ?_ ?_ <;> (simp only [lnE, put_length] <;> omega)) | (refine Fit.hid1 ‹Fit _ _ _› ?_ ?_ <;> (simp only [lnE, put_length] <;> omega)) | (refine Fit.hidc1 ‹Fit _ _ _› ?_ ?_ <;> (simp only [lnE, put_length] <;> omega)) | (refine Fit.hidc2 ‹Fit _ _ _› ?_ ?_ ?_ <;> (simp only [lnE, put_length] <;> omega)) | (refine Fit.draw1 ‹Fit _ _ _› ?_ ?_ ?_ <;> (simp only [lnE, put_length] <;> omega)) | (refine Fit.range0 ?_ ?_ <;> (simp only [lnE, put_length] <;> omega)) | (refine ArOk.mono ‹ArOk _ _ _ _ _› ?_ <;> (simp only [lnE, put_length] <;> omega)) | (refine ArOk.hid ‹ArOk _ _ _ _ _› ?_ ?_ <;> (simp only [lnE, put_length] <;> omega)) | (refine ArOk.hid0 ‹ArOk _ _ _ _ _› ?_ ?_ <;> (simp only [lnE, put_length] <;> omega)) | ((intro xr hxr; simp [AM.refs, refsF, refsC] at hxr) <;> (simp only [lnE, put_length] <;> omega)) | fail)) only [syA, syB, argFr, D, E, T, C, undefv, eqF, aeq, sheqs, sheq, rdCells, cellsOf, fill, putAt, if_true, if_false, reduceIte, ↓reduceIte, reduceCtorEq, eq_self, Nat.reduceEqDiff, Nat.reduceAdd, Nat.reduceSub, Nat.reduceMul, Nat.reduceLT, Nat.reduceLeDiff, Nat.reducePow, Nat.reduceDiv, Nat.reduceMod, Int.reduceLT, Int.reduceLE, Int.reduceGT, Int.reduceGE, Int.reduceToNat, Int.reducePow, Int.reduceNeg, Int.reduceBEq, Int.reduceBNe, Int.reduceEq, Int.reduceAdd, Int.reduceSub, Int.reduceMul, cellv, sc, flatv, refs, refsF, refsC, syR, Int.le_refl, hF.not0, hF.not1, hF.up0, hF.up1, ac28, arow, c0', c1', c2', c3', setw2, rasetw_walk]
      rw [gc_put2 hrl hql hrl' hql']; rfl
    · simp (disch := (first | omega | (simp only [lnE, put_length] <;> omega) | (refine Fit.mono ‹Fit _ _ _› ?_ <;> (simp only [lnE, put_length] <;> omega)) | (refine Fit.draw ‹Fit _ _ _› ?_ ?_ <;> (simp only [lnE, put_length] <;> omega)) | (refine Fit.hid1 ‹Fit _ _ _› ?_ ?_ <;> (simp only [lnE, put_length] <;> omega)) | (refine Fit.hidc1 ‹Fit _ _ _› ?_ ?_ <;> (simp only [lnE, put_length] <;> omega)) | (refine Fit.hidc2 ‹Fit _ _ _› ?_ ?_ ?_ <;> (simp only [lnE, put_length] <;> omega)) | (refine Fit.draw1 ‹Fit _ _ _› ?_ ?_ ?_ <;> (simp only [lnE, put_length] <;> omega)) | (refine Fit.range0 ?_ ?_ <;> (simp only [lnE, put_length] <;> omega)) | (refine ArOk.mono ‹ArOk _ _ _ _ _› ?_ <;> (simp only [lnE, put_length] <;> omega)) | (refine ArOk.hid ‹ArOk _ _ _ _ _› ?_ ?_ <;> (simp only [lnE, put_length] <;> omega)) | (refine ArOk.hid0 ‹ArOk _ _ _ _ _› ?_ ?_ <;> (simp only [lnE, put_length] <;> omega)) | ((intro xr hxr; simp [AM.refs, refsF, refsC] at hxr) <;> (simp only [lnE, put_length] <;> omega)) | fail)) only [syA, syB, argFr, D, E, T, C, undefv, eqF, aeq, sheqs, sheq, rdCells, cellsOf, fill, putAt, if_true, if_false, reduceIte, ↓reduceIte, reduceCtorEq, eq_self, Nat.reduceEqDiff, Nat.reduceAdd, Nat.reduceSub, Nat.reduceMul, Nat.reduceLT, Nat.reduceLeDiff, Nat.reducePow, Nat.reduceDiv, Nat.reduceMod, Int.reduceLT, Int.reduceLE, Int.reduceGT, Int.reduceGE, Int.reduceToNat, Int.reducePow, Int.reduceNeg, Int.reduceBEq, Int.reduceBNe, Int.reduceEq, Int.reduceAdd, Int.reduceSub, Int.reduceMul, cellv, sc, flatv, refs, refsF, refsC, syR, Int.le_refl, hF.not0, hF.not1, hF.up0, hF.up1, ac28, arow, c0', c1', c2', c3', setw2, rasetw_walk]
      rw [gc_put2 hrl hql hrl' hql']; rfl
  have c3' : (dn == 3) = false := by simpa using c3
  rw [if_neg c3]
  have hF1 : ∀ B : Blk, Fit (hp ++ [B]).length L [hp.length] := fun B => Fit.hidc1 hF (by simp) (by simp)
  have st1 := fun (B : Blk) (d : List Nat) => store2 (hp := hp ++ [B]) (A := A) (B := A) (H := [hp.length]) (d := d) (v := bv) (l := b) (by omega) n1 n2 n3 n4 (hF1 B) (kH.mono (by simp)) (by simp; omega) (by simp; omega) hw s z n (fun nw => by
    have := hr ([B] ++ nw) A A [hp.length] (by simp)
    rwa [← List.append_assoc] at this)
  have st2 := fun (B : Blk) (C : Arn) (d : List Nat) => rastore_walk (hp := put (hp ++ [B]) r q C) (A := A) (r := r') (q := q') (H := [hp.length]) (d := d) (v := bv) (l := b) (by omega) (by rw [put_length]; exact hF1 B) (by rw [put_length]; exact kH'.mono (by simp)) hw' s z n (fun nw D => by
    have := hr ([B] ++ nw) C D [hp.length] (by simp)
    rwa [← List.append_assoc, ← put_app (by simp; omega) (by simp; omega)] at this)
  rcases hbv with rfl | ⟨a, m, e, rfl⟩
  · simp (disch := (first | omega | (simp only [lnE, put_length] <;> omega) | (refine Fit.mono ‹Fit _ _ _› ?_ <;> (simp only [lnE, put_length] <;> omega)) | (refine Fit.draw ‹Fit _ _ _› ?_ ?_ <;> (simp only [lnE, put_length] <;> omega)) | (refine Fit.hid1 ‹Fit _ _ _› ?_ ?_ <;> (simp only [lnE, put_length] <;> omega)) | (refine Fit.hidc1 ‹Fit _ _ _› ?_ ?_ <;> (simp only [lnE, put_length] <;> omega)) | (refine Fit.hidc2 ‹Fit _ _ _› ?_ ?_ ?_ <;> (simp only [lnE, put_length] <;> omega)) | (refine Fit.draw1 ‹Fit _ _ _› ?_ ?_ ?_ <;> (simp only [lnE, put_length] <;> omega)) | (refine Fit.range0 ?_ ?_ <;> (simp only [lnE, put_length] <;> omega)) | (refine ArOk.mono ‹ArOk _ _ _ _ _› ?_ <;> (simp only [lnE, put_length] <;> omega)) | (refine ArOk.hid ‹ArOk _ _ _ _ _› ?_ ?_ <;> (simp only [lnE, put_length] <;> omega)) | (refine ArOk.hid0 ‹ArOk _ _ _ _ _› ?_ ?_ <;> (simp only [lnE, put_length] <;> omega)) | ((intro xr hxr; simp [AM.refs, refsF, refsC] at hxr) <;> (simp only [lnE, put_length] <;> omega)) | fail)) only [syA, syB, argFr, D, E, T, C, undefv, eqF, aeq, sheqs, sheq, rdCells, cellsOf, fill, putAt, if_true, if_false, reduceIte, ↓reduceIte, reduceCtorEq, eq_self, Nat.reduceEqDiff, Nat.reduceAdd, Nat.reduceSub, Nat.reduceMul, Nat.reduceLT, Nat.reduceLeDiff, Nat.reducePow, Nat.reduceDiv, Nat.reduceMod, Int.reduceLT, Int.reduceLE, Int.reduceGT, Int.reduceGE, Int.reduceToNat, Int.reducePow, Int.reduceNeg, Int.reduceBEq, Int.reduceBNe, Int.reduceEq, Int.reduceAdd, Int.reduceSub, Int.reduceMul, cellv, sc, flatv, refs, refsF, refsC, syR, Int.le_refl, hF.not0, hF.not1, hF.up0, hF.up1, ac28, arow, c0', c1', c2', c3', st1, st2]
    rw [gc_put2 hrl hql hrl' hql']; rfl
  · simp (disch := (first | omega | (simp only [lnE, put_length] <;> omega) | (refine Fit.mono ‹Fit _ _ _› ?_ <;> (simp only [lnE, put_length] <;> omega)) | (refine Fit.draw ‹Fit _ _ _› ?_ ?_ <;> (simp only [lnE, put_length] <;> omega)) | (refine Fit.hid1 ‹Fit _ _ _› ?_ ?_ <;> (simp only [lnE, put_length] <;> omega)) | (refine Fit.hidc1 ‹Fit _ _ _› ?_ ?_ <;> (simp only [lnE, put_length] <;> omega)) | (refine Fit.hidc2 ‹Fit _ _ _› ?_ ?_ ?_ <;> (simp only [lnE, put_length] <;> omega)) | (refine Fit.draw1 ‹Fit _ _ _› ?_ ?_ ?_ <;> (simp only [lnE, put_length] <;> omega)) | (refine Fit.range0 ?_ ?_ <;> (simp only [lnE, put_length] <;> omega)) | (refine ArOk.mono ‹ArOk _ _ _ _ _› ?_ <;> (simp only [lnE, put_length] <;> omega)) | (refine ArOk.hid ‹ArOk _ _ _ _ _› ?_ ?_ <;> (simp only [lnE, put_length] <;> omega)) | (refine ArOk.hid0 ‹ArOk _ _ _ _ _› ?_ ?_ <;> (simp only [lnE, put_length] <;> omega)) | ((intro xr hxr; simp [AM.refs, refsF, refsC] at hxr) <;> (simp only [lnE, put_length] <;> omega)) | fail)) only [syA, syB, argFr, D, E, T, C, undefv, eqF, aeq, sheqs, sheq, rdCells, cellsOf, fill, putAt, if_true, if_false, reduceIte, ↓reduceIte, reduceCtorEq, eq_self, Nat.reduceEqDiff, Nat.reduceAdd, Nat.reduceSub, Nat.reduceMul, Nat.reduceLT, Nat.reduceLeDiff, Nat.reducePow, Nat.reduceDiv, Nat.reduceMod, Int.reduceLT, Int.reduceLE, Int.reduceGT, Int.reduceGE, Int.reduceToNat, Int.reducePow, Int.reduceNeg, Int.reduceBEq, Int.reduceBNe, Int.reduceEq, Int.reduceAdd, Int.reduceSub, Int.reduceMul, cellv, sc, flatv, refs, refsF, refsC, syR, Int.le_refl, hF.not0, hF.not1, hF.up0, hF.up1, ac28, arow, c0', c1', c2', c3', st1, st2]
    rw [gc_put2 hrl hql hrl' hql']; rfl
end
end ArA
end Go.Proofs.Ytfefeikkjebfoaa
