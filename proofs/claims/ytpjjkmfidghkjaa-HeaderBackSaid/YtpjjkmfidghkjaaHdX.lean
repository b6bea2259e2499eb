/-
  HEADERS: the law that writing what was taken gives the bytes that were taken, run on the abstract machine. Conditions: none.
-/
import Derived.Test.YtpjjkmfidghkjaaHdQ
set_option linter.all false
namespace Go.Proofs.Ytpjjkmfidghkjaa
namespace VarA
open Go Go.RowKit AM ArEnv

theorem wakes_walk24 (σ : St) : Lrun env (.func 7) [] σ = some (.bool true, σ) := by
  obtain ⟨hp, L, H, d⟩ := σ
  rw [Lrun_sym 7 _ _ fn7]
  simp (disch := (first | omega | (simp only [lnE] <;> omega) | (refine Fit.mono ‹Fit _ _ _› ?_ <;> (simp only [lnE] <;> omega)) | (refine Fit.draw ‹Fit _ _ _› ?_ ?_ <;> (simp only [lnE] <;> omega)) | (refine Fit.hid1 ‹Fit _ _ _› ?_ ?_ <;> (simp only [lnE] <;> omega)) | (refine Fit.hidc1 ‹Fit _ _ _› ?_ ?_ <;> (simp only [lnE] <;> omega)) | (refine Fit.hidc2 ‹Fit _ _ _› ?_ ?_ ?_ <;> (simp only [lnE] <;> omega)) | (refine Fit.draw1 ‹Fit _ _ _› ?_ ?_ ?_ <;> (simp only [lnE] <;> omega)) | (refine Fit.range0 ?_ ?_ <;> (simp only [lnE] <;> omega)) | fail)) only [syA, syB, argFr, D, E, T, C, undefv, eqF, aeq, sheqs, sheq, rdCells, cellsOf, fill, putAt, if_true, if_false, reduceIte, ↓reduceIte, reduceCtorEq, eq_self, Nat.reduceEqDiff, Nat.reduceAdd, Nat.reduceSub, Nat.reduceMul, Nat.reduceLT, Nat.reduceLeDiff, Nat.reducePow, Nat.reduceDiv, Nat.reduceMod, Int.reduceLT, Int.reduceLE, Int.reduceGT, Int.reduceGE, Int.reduceToNat, Int.reducePow, Int.reduceNeg, Int.reduceBEq, Int.reduceBNe, Int.reduceEq, Int.reduceAdd, Int.reduceSub, Int.reduceMul, cellv, sc, flatv, refs, refsF, refsC, constFn]
theorem mtake_err {n : Int} {l : List Nat} {g : Int} (hn : inR n 1 65536 = true) (hb : By l) (hg : (mTake n mNone l).2.2 = g) (hg2 : g = 50 ∨ g = 242) (i : Nat) : ∃ x, mTake n mNone (l.take i) = (mNone, none, x) ∧ (x = 50 ∨ (x = 242 ∧ g = 242)) ∧ (i = l.length → x = g) := by
  rcases m_only hn (hb.take i) with ⟨m, p, s, r, _, _, _, _, h⟩ | ⟨s, r, _, _, h⟩ | ⟨x, h, hx⟩
  · exfalso
    have := m_prefix (n := n) l i mNone
    rw [h, hg] at this
    simp only [] at this
    omega
  · exfalso
    have := m_prefix (n := n) l i mNone
    rw [h, hg] at this
    simp only [] at this
    omega
  · refine ⟨x, h, ?_, fun hi => ?_⟩
    · have := m_prefix (n := n) l i mNone
      rw [h, hg] at this
      simp only [] at this
      omega
    · rw [hi, List.take_length] at h
      rw [h] at hg
      exact hg
theorem only_loop {hq : List Blk} {L : Nat} {H : List Nat} {a : Option Addr} {e : Nat} {l : List Nat} {n g : Int} (hF : Fit hq.length L H) (hr : Rd ⟨hq, L, H, []⟩ (.slice a l.length e) l) (hl : l.length ≤ 60) (hn : inR n 1 65536 = true) (hg : (mTake n mNone l).2.2 = g) (hg2 : g = 50 ∨ g = 242) :
    ∀ (k i : Nat), i + k = l.length + 1 → (i ≤ l.length ∨ g = 50) → ∃ ex fr nx, Liter env lb5_0 [1, 0, 14, 12] hq.length [(1, .slice a l.length e), (0, .int .i64 n), (14, .int .i64 i), (12, .int .i64 g)] ⟨hq, L, H, []⟩ = some (ex, fr, ⟨hq ++ nx, L, H, []⟩) ∧
      ((ex = .ret ∧ fr.get 4 = some (.bool true)) ∨ (ex = .exit 0 ∧ g = 50 ∧ fr.get 12 = some (.int .i64 g)))
  | 0, i, hi, hx => by
    have h1 : ¬ (i : Int) ≤ l.length := by omega
    rw [iter_by lb5_0.eq_1]
    simp (disch := (first | omega | (simp only [lnE] <;> omega) | (refine Fit.mono ‹Fit _ _ _› ?_ <;> (simp only [lnE] <;> omega)) | (refine Fit.draw ‹Fit _ _ _› ?_ ?_ <;> (simp only [lnE] <;> omega)) | (refine Fit.hid1 ‹Fit _ _ _› ?_ ?_ <;> (simp only [lnE] <;> omega)) | (refine Fit.hidc1 ‹Fit _ _ _› ?_ ?_ <;> (simp only [lnE] <;> omega)) | (refine Fit.hidc2 ‹Fit _ _ _› ?_ ?_ ?_ <;> (simp only [lnE] <;> omega)) | (refine Fit.draw1 ‹Fit _ _ _› ?_ ?_ ?_ <;> (simp only [lnE] <;> omega)) | (refine Fit.range0 ?_ ?_ <;> (simp only [lnE] <;> omega)) | fail)) only [syA, syB, argFr, D, E, T, C, undefv, eqF, aeq, sheqs, sheq, rdCells, cellsOf, fill, putAt, if_true, if_false, reduceIte, ↓reduceIte, reduceCtorEq, eq_self, Nat.reduceEqDiff, Nat.reduceAdd, Nat.reduceSub, Nat.reduceMul, Nat.reduceLT, Nat.reduceLeDiff, Nat.reducePow, Nat.reduceDiv, Nat.reduceMod, Int.reduceLT, Int.reduceLE, Int.reduceGT, Int.reduceGE, Int.reduceToNat, Int.reducePow, Int.reduceNeg, Int.reduceBEq, Int.reduceBNe, Int.reduceEq, Int.reduceAdd, Int.reduceSub, Int.reduceMul, cellv, sc, flatv, refs, refsF, refsC, hF.not0, hF.not1, hF.up0, hF.up1, h1]
    exact ⟨_, _, [], by rw [List.append_nil], .inr ⟨rfl, by omega, rfl⟩⟩
  | k + 1, i, hi, hx => by
    have h1 : (i : Int) ≤ l.length := by omega
    obtain ⟨w, hw, hw2⟩ := hr.upto (j := i) (by omega)
    obtain ⟨x, e1, e2, e3⟩ := mtake_err hn hr.by_ hg hg2 i
    have e1' : mTakeN n (l.take i) = (mNone, none, x) := by unfold mTakeN; rw [if_pos hn]; exact e1
    have hmt := mtake_walk (d := []) n hF hw2 (by simp; omega)
    rw [e1'] at hmt
    simp only [mtV, mNone, sl_none, slB_none, List.append_nil] at hmt
    rw [iter_by lb5_0.eq_1]
    by_cases hx50 : x = 50
    · subst hx50
      simp (disch := (first | omega | (simp only [lnE] <;> omega) | (refine Fit.mono ‹Fit _ _ _› ?_ <;> (simp only [lnE] <;> omega)) | (refine Fit.draw ‹Fit _ _ _› ?_ ?_ <;> (simp only [lnE] <;> omega)) | (refine Fit.hid1 ‹Fit _ _ _› ?_ ?_ <;> (simp only [lnE] <;> omega)) | (refine Fit.hidc1 ‹Fit _ _ _› ?_ ?_ <;> (simp only [lnE] <;> omega)) | (refine Fit.hidc2 ‹Fit _ _ _› ?_ ?_ ?_ <;> (simp only [lnE] <;> omega)) | (refine Fit.draw1 ‹Fit _ _ _› ?_ ?_ ?_ <;> (simp only [lnE] <;> omega)) | (refine Fit.range0 ?_ ?_ <;> (simp only [lnE] <;> omega)) | fail)) only [syA, syB, argFr, D, E, T, C, undefv, eqF, aeq, sheqs, sheq, rdCells, cellsOf, fill, putAt, if_true, if_false, reduceIte, ↓reduceIte, reduceCtorEq, eq_self, Nat.reduceEqDiff, Nat.reduceAdd, Nat.reduceSub, Nat.reduceMul, Nat.reduceLT, Nat.reduceLeDiff, Nat.reducePow, Nat.reduceDiv, Nat.reduceMod, Int.reduceLT, Int.reduceLE, Int.reduceGT, Int.reduceGE, Int.reduceToNat, Int.reducePow, Int.reduceNeg, Int.reduceBEq, Int.reduceBNe, Int.reduceEq, Int.reduceAdd, Int.reduceSub, Int.reduceMul, cellv, sc, flatv, refs, refsF, refsC, hF.not0, hF.not1, hF.up0, hF.up1, h1, hw, hmt, rep5]
      obtain ⟨ex, fr, nx, g1, g2⟩ := only_loop hF hr hl hn hg hg2 k (i + 1) (by omega) (by
        by_cases hil : i = l.length
        · exact .inr (e3 hil).symm
        · exact .inl (by omega))
      rw [gcFr_drop rfl (by
        intro p hp r hr'
        simp only [List.mem_cons, List.not_mem_nil, or_false] at hp
        rcases hp with rfl | rfl | rfl | rfl <;> first
          | exact hr.refs _ hr'
          | (simp [AM.refs, refsF, refsC] at hr'; done))]
      simp (disch := (first | omega | (simp only [lnE] <;> omega) | (refine Fit.mono ‹Fit _ _ _› ?_ <;> (simp only [lnE] <;> omega)) | (refine Fit.draw ‹Fit _ _ _› ?_ ?_ <;> (simp only [lnE] <;> omega)) | (refine Fit.hid1 ‹Fit _ _ _› ?_ ?_ <;> (simp only [lnE] <;> omega)) | (refine Fit.hidc1 ‹Fit _ _ _› ?_ ?_ <;> (simp only [lnE] <;> omega)) | (refine Fit.hidc2 ‹Fit _ _ _› ?_ ?_ ?_ <;> (simp only [lnE] <;> omega)) | (refine Fit.draw1 ‹Fit _ _ _› ?_ ?_ ?_ <;> (simp only [lnE] <;> omega)) | (refine Fit.range0 ?_ ?_ <;> (simp only [lnE] <;> omega)) | fail)) only [syA, syB, argFr, D, E, T, C, undefv, eqF, aeq, sheqs, sheq, rdCells, cellsOf, fill, putAt, if_true, if_false, reduceIte, ↓reduceIte, reduceCtorEq, eq_self, Nat.reduceEqDiff, Nat.reduceAdd, Nat.reduceSub, Nat.reduceMul, Nat.reduceLT, Nat.reduceLeDiff, Nat.reducePow, Nat.reduceDiv, Nat.reduceMod, Int.reduceLT, Int.reduceLE, Int.reduceGT, Int.reduceGE, Int.reduceToNat, Int.reducePow, Int.reduceNeg, Int.reduceBEq, Int.reduceBNe, Int.reduceEq, Int.reduceAdd, Int.reduceSub, Int.reduceMul, cellv, sc, flatv, refs, refsF, refsC, hF.not0, hF.not1, hF.up0, hF.up1]
      exact ⟨ex, fr, nx, g1, g2⟩
    · obtain ⟨rfl, rfl⟩ : x = 242 ∧ g = 242 := by omega
      simp (disch := (first | omega | (simp only [lnE] <;> omega) | (refine Fit.mono ‹Fit _ _ _› ?_ <;> (simp only [lnE] <;> omega)) | (refine Fit.draw ‹Fit _ _ _› ?_ ?_ <;> (simp only [lnE] <;> omega)) | (refine Fit.hid1 ‹Fit _ _ _› ?_ ?_ <;> (simp only [lnE] <;> omega)) | (refine Fit.hidc1 ‹Fit _ _ _› ?_ ?_ <;> (simp only [lnE] <;> omega)) | (refine Fit.hidc2 ‹Fit _ _ _› ?_ ?_ ?_ <;> (simp only [lnE] <;> omega)) | (refine Fit.draw1 ‹Fit _ _ _› ?_ ?_ ?_ <;> (simp only [lnE] <;> omega)) | (refine Fit.range0 ?_ ?_ <;> (simp only [lnE] <;> omega)) | fail)) only [syA, syB, argFr, D, E, T, C, undefv, eqF, aeq, sheqs, sheq, rdCells, cellsOf, fill, putAt, if_true, if_false, reduceIte, ↓reduceIte, reduceCtorEq, eq_self, Nat.reduceEqDiff, Nat.reduceAdd, Nat.reduceSub, Nat.reduceMul, Nat.reduceLT, Nat.reduceLeDiff, Nat.reducePow, Nat.reduceDiv, Nat.reduceMod, Int.reduceLT, Int.reduceLE, Int.reduceGT, Int.reduceGE, Int.reduceToNat, Int.reducePow, Int.reduceNeg, Int.reduceBEq, Int.reduceBNe, Int.reduceEq, Int.reduceAdd, Int.reduceSub, Int.reduceMul, cellv, sc, flatv, refs, refsF, refsC, hF.not0, hF.not1, hF.up0, hF.up1, h1, hw, hmt, rep5, wakes_walk24]
      exact ⟨_, _, _, rfl, rfl, rfl⟩
theorem only_run24 (n : Int) {hp : List Blk} {v : Value} {l : List Nat} (hr : Rd ⟨hp, hp.length, [], []⟩ v l) : ∃ σ', Lrun env (.func 5) [.int .i64 n, v] ⟨hp, hp.length, [], []⟩ = some (.bool true, σ') := by
  have hF : Fit hp.length hp.length [] := ⟨Nat.le_refl _, Low.nil _⟩
  have hlen := hr.lenF
  have hstr : ∀ nw L d, St.str ⟨hp ++ nw, L, [], d⟩ v = some (b8 l) := fun nw L d => (hr.app).str
  obtain ⟨a, e, rfl⟩ := hr.len
  rw [Lrun_sym 5 _ _ fn5]
  by_cases h1 : (l.length : Int) > 60
  · simp (disch := (first | omega | (simp only [lnE] <;> omega) | (refine Fit.mono ‹Fit _ _ _› ?_ <;> (simp only [lnE] <;> omega)) | (refine Fit.draw ‹Fit _ _ _› ?_ ?_ <;> (simp only [lnE] <;> omega)) | (refine Fit.hid1 ‹Fit _ _ _› ?_ ?_ <;> (simp only [lnE] <;> omega)) | (refine Fit.hidc1 ‹Fit _ _ _› ?_ ?_ <;> (simp only [lnE] <;> omega)) | (refine Fit.hidc2 ‹Fit _ _ _› ?_ ?_ ?_ <;> (simp only [lnE] <;> omega)) | (refine Fit.draw1 ‹Fit _ _ _› ?_ ?_ ?_ <;> (simp only [lnE] <;> omega)) | (refine Fit.range0 ?_ ?_ <;> (simp only [lnE] <;> omega)) | fail)) only [syA, syB, argFr, D, E, T, C, undefv, eqF, aeq, sheqs, sheq, rdCells, cellsOf, fill, putAt, if_true, if_false, reduceIte, ↓reduceIte, reduceCtorEq, eq_self, Nat.reduceEqDiff, Nat.reduceAdd, Nat.reduceSub, Nat.reduceMul, Nat.reduceLT, Nat.reduceLeDiff, Nat.reducePow, Nat.reduceDiv, Nat.reduceMod, Int.reduceLT, Int.reduceLE, Int.reduceGT, Int.reduceGE, Int.reduceToNat, Int.reducePow, Int.reduceNeg, Int.reduceBEq, Int.reduceBNe, Int.reduceEq, Int.reduceAdd, Int.reduceSub, Int.reduceMul, cellv, sc, flatv, refs, refsF, refsC, hF.not0, hF.not1, hF.up0, hF.up1, ac5, h1, wakes_walk24]
    exact ⟨_, rfl⟩
  have hmt := fun nw => mtake_walk (d := []) (hp := hp ++ nw) (L := hp.length) (H := []) n (hF.mono (by simp)) (hr.app (nw := nw) (L' := hp.length) (d' := [])) (by omega)
  have hht := htake_walk (d := []) hF hr (by omega)
  have hi : inR n 1 65536 = false ∨ inR n 1 65536 = true := by cases inR n 1 65536 <;> simp
  rcases h_only hr.by_ with ⟨x, r, g1, g2, g3, g4⟩ | ⟨x, g1, g2⟩
  · have hput := fun nw => hput_good x g2 g3 (hp := hp ++ nw) (L := hp.length) (H := []) (d := []) (hF.mono (by simp))
    have hs : b8 (headOf x ++ r) = b8 l := by rw [← g4]
    rw [g1] at hht
    simp only [htV, sl_some, slB_some, Option.getD_some] at hht hput
    have hx7 : (headOf x).length ≤ 8 := by have := enc_len_le x (by omega); rw [headOf_len]; omega
    have hx6 : r.length ≤ 60 := by have := congrArg List.length g4; simp at this; omega
    rcases hi with hi | hi
    · have e1 : mTakeN n l = (mNone, none, 2) := by unfold mTakeN; rw [if_neg (by rw [hi]; simp)]
      rw [e1] at hmt
      simp only [mtV, mNone, sl_none, slB_none, List.append_nil] at hmt
      by_cases hn1 : n < 1
      · simp (disch := (first | omega | (simp only [lnE] <;> omega) | (refine Fit.mono ‹Fit _ _ _› ?_ <;> (simp only [lnE] <;> omega)) | (refine Fit.draw ‹Fit _ _ _› ?_ ?_ <;> (simp only [lnE] <;> omega)) | (refine Fit.hid1 ‹Fit _ _ _› ?_ ?_ <;> (simp only [lnE] <;> omega)) | (refine Fit.hidc1 ‹Fit _ _ _› ?_ ?_ <;> (simp only [lnE] <;> omega)) | (refine Fit.hidc2 ‹Fit _ _ _› ?_ ?_ ?_ <;> (simp only [lnE] <;> omega)) | (refine Fit.draw1 ‹Fit _ _ _› ?_ ?_ ?_ <;> (simp only [lnE] <;> omega)) | (refine Fit.range0 ?_ ?_ <;> (simp only [lnE] <;> omega)) | fail)) only [syA, syB, argFr, D, E, T, C, undefv, eqF, aeq, sheqs, sheq, rdCells, cellsOf, fill, putAt, if_true, if_false, reduceIte, ↓reduceIte, reduceCtorEq, eq_self, Nat.reduceEqDiff, Nat.reduceAdd, Nat.reduceSub, Nat.reduceMul, Nat.reduceLT, Nat.reduceLeDiff, Nat.reducePow, Nat.reduceDiv, Nat.reduceMod, Int.reduceLT, Int.reduceLE, Int.reduceGT, Int.reduceGE, Int.reduceToNat, Int.reducePow, Int.reduceNeg, Int.reduceBEq, Int.reduceBNe, Int.reduceEq, Int.reduceAdd, Int.reduceSub, Int.reduceMul, cellv, sc, flatv, refs, refsF, refsC, hF.not0, hF.not1, hF.up0, hF.up1, ac5, h1, wakes_walk24, hht, hput, hstr, b8_append, hs, rep5, hmt, hn1]
        exact ⟨_, rfl⟩
      · have hn2 : n > 65536 := by rw [← Bool.not_eq_true, inR_true] at hi; omega
        simp (disch := (first | omega | (simp only [lnE] <;> omega) | (refine Fit.mono ‹Fit _ _ _› ?_ <;> (simp only [lnE] <;> omega)) | (refine Fit.draw ‹Fit _ _ _› ?_ ?_ <;> (simp only [lnE] <;> omega)) | (refine Fit.hid1 ‹Fit _ _ _› ?_ ?_ <;> (simp only [lnE] <;> omega)) | (refine Fit.hidc1 ‹Fit _ _ _› ?_ ?_ <;> (simp only [lnE] <;> omega)) | (refine Fit.hidc2 ‹Fit _ _ _› ?_ ?_ ?_ <;> (simp only [lnE] <;> omega)) | (refine Fit.draw1 ‹Fit _ _ _› ?_ ?_ ?_ <;> (simp only [lnE] <;> omega)) | (refine Fit.range0 ?_ ?_ <;> (simp only [lnE] <;> omega)) | fail)) only [syA, syB, argFr, D, E, T, C, undefv, eqF, aeq, sheqs, sheq, rdCells, cellsOf, fill, putAt, if_true, if_false, reduceIte, ↓reduceIte, reduceCtorEq, eq_self, Nat.reduceEqDiff, Nat.reduceAdd, Nat.reduceSub, Nat.reduceMul, Nat.reduceLT, Nat.reduceLeDiff, Nat.reducePow, Nat.reduceDiv, Nat.reduceMod, Int.reduceLT, Int.reduceLE, Int.reduceGT, Int.reduceGE, Int.reduceToNat, Int.reducePow, Int.reduceNeg, Int.reduceBEq, Int.reduceBNe, Int.reduceEq, Int.reduceAdd, Int.reduceSub, Int.reduceMul, cellv, sc, flatv, refs, refsF, refsC, hF.not0, hF.not1, hF.up0, hF.up1, ac5, h1, wakes_walk24, hht, hput, hstr, b8_append, hs, rep5, hmt, hn1, hn2]
        exact ⟨_, rfl⟩
    · rcases m_only hi hr.by_ with ⟨m, p, s, q, f1, f2, f3, f4, f5⟩ | ⟨s, q, f3, f4, f5⟩ | ⟨y, f5, f6⟩
      · have e1 : mTakeN n l = (⟨4, 0, 0, m, p, s, 4⟩, some q, 0) := by unfold mTakeN; rw [if_pos hi]; exact f5
        rw [e1] at hmt
        have hq : b8 (blockOf m p s ++ q) = b8 l := by rw [← f4]
        have hql : q.length ≤ 60 := by have := congrArg List.length f4; simp at this; omega
        have hmn := (inR_true.1 hi)
        have h8 := enc_len_le m (by omega)
        have h9 := enc_len_le p (by omega)
        have hbl : (blockOf m p s).length ≤ 20 := by simp [blockOf, be]; omega
        have hpb := fun nw => putblock_good n m p s hmn f1 f2 f3 (hp := hp ++ nw) (L := hp.length) (H := []) (d := []) (hF.mono (by simp))
        have hpe := fun nw => putend_walk s f3 (hp := hp ++ nw) (L := hp.length) (H := []) (d := []) (hF.mono (by simp))
        have hvm := fun nw => mvalid_walk n 0 0 m p 4 s (hp := hp ++ nw) (L := hp.length) (H := []) (d := []) 4 f3 (hF.mono (by simp))
        have hvt : mValid n ⟨4, 0, 0, m, p, s, 4⟩ = true := by
          have g1 : inR m 1 n = true := inR_true.2 (by omega)
          have g2 : inR p 1 m = true := inR_true.2 (by omega)
          simp [mValid, hi, mRight, g1, g2]
        rw [hvt] at hvm
        simp only [mtV, sl_some, slB_some, Option.getD_some] at hmt hpb hpe
        simp (disch := (first | omega | (simp only [lnE] <;> omega) | (refine Fit.mono ‹Fit _ _ _› ?_ <;> (simp only [lnE] <;> omega)) | (refine Fit.draw ‹Fit _ _ _› ?_ ?_ <;> (simp only [lnE] <;> omega)) | (refine Fit.hid1 ‹Fit _ _ _› ?_ ?_ <;> (simp only [lnE] <;> omega)) | (refine Fit.hidc1 ‹Fit _ _ _› ?_ ?_ <;> (simp only [lnE] <;> omega)) | (refine Fit.hidc2 ‹Fit _ _ _› ?_ ?_ ?_ <;> (simp only [lnE] <;> omega)) | (refine Fit.draw1 ‹Fit _ _ _› ?_ ?_ ?_ <;> (simp only [lnE] <;> omega)) | (refine Fit.range0 ?_ ?_ <;> (simp only [lnE] <;> omega)) | fail)) only [syA, syB, argFr, D, E, T, C, undefv, eqF, aeq, sheqs, sheq, rdCells, cellsOf, fill, putAt, if_true, if_false, reduceIte, ↓reduceIte, reduceCtorEq, eq_self, Nat.reduceEqDiff, Nat.reduceAdd, Nat.reduceSub, Nat.reduceMul, Nat.reduceLT, Nat.reduceLeDiff, Nat.reducePow, Nat.reduceDiv, Nat.reduceMod, Int.reduceLT, Int.reduceLE, Int.reduceGT, Int.reduceGE, Int.reduceToNat, Int.reducePow, Int.reduceNeg, Int.reduceBEq, Int.reduceBNe, Int.reduceEq, Int.reduceAdd, Int.reduceSub, Int.reduceMul, cellv, sc, flatv, refs, refsF, refsC, hF.not0, hF.not1, hF.up0, hF.up1, ac5, h1, wakes_walk24, hht, hput, hstr, b8_append, hs, rep5, hmt, hpb, hpe, hq, hvm]
        exact ⟨_, rfl⟩
      · have e1 : mTakeN n l = (⟨6, 0, 0, 0, 0, s, 4⟩, some q, 0) := by unfold mTakeN; rw [if_pos hi]; exact f5
        rw [e1] at hmt
        have hq : b8 (endOf s ++ q) = b8 l := by rw [← f4]
        have hql : q.length ≤ 60 := by have := congrArg List.length f4; simp at this; omega
        have hbl : (endOf s).length ≤ 20 := by simp [endOf, be]
        have hpe := fun nw => putend_walk s f3 (hp := hp ++ nw) (L := hp.length) (H := []) (d := []) (hF.mono (by simp))
        have hvm := fun nw => mvalid_walk n 0 0 0 0 4 s (hp := hp ++ nw) (L := hp.length) (H := []) (d := []) 6 f3 (hF.mono (by simp))
        have hvt : mValid n ⟨6, 0, 0, 0, 0, s, 4⟩ = true := by simp [mValid, hi, mRight]
        rw [hvt] at hvm
        simp only [mtV, sl_some, slB_some, Option.getD_some] at hmt hpe
        simp (disch := (first | omega | (simp only [lnE] <;> omega) | (refine Fit.mono ‹Fit _ _ _› ?_ <;> (simp only [lnE] <;> omega)) | (refine Fit.draw ‹Fit _ _ _› ?_ ?_ <;> (simp only [lnE] <;> omega)) | (refine Fit.hid1 ‹Fit _ _ _› ?_ ?_ <;> (simp only [lnE] <;> omega)) | (refine Fit.hidc1 ‹Fit _ _ _› ?_ ?_ <;> (simp only [lnE] <;> omega)) | (refine Fit.hidc2 ‹Fit _ _ _› ?_ ?_ ?_ <;> (simp only [lnE] <;> omega)) | (refine Fit.draw1 ‹Fit _ _ _› ?_ ?_ ?_ <;> (simp only [lnE] <;> omega)) | (refine Fit.range0 ?_ ?_ <;> (simp only [lnE] <;> omega)) | fail)) only [syA, syB, argFr, D, E, T, C, undefv, eqF, aeq, sheqs, sheq, rdCells, cellsOf, fill, putAt, if_true, if_false, reduceIte, ↓reduceIte, reduceCtorEq, eq_self, Nat.reduceEqDiff, Nat.reduceAdd, Nat.reduceSub, Nat.reduceMul, Nat.reduceLT, Nat.reduceLeDiff, Nat.reducePow, Nat.reduceDiv, Nat.reduceMod, Int.reduceLT, Int.reduceLE, Int.reduceGT, Int.reduceGE, Int.reduceToNat, Int.reducePow, Int.reduceNeg, Int.reduceBEq, Int.reduceBNe, Int.reduceEq, Int.reduceAdd, Int.reduceSub, Int.reduceMul, cellv, sc, flatv, refs, refsF, refsC, hF.not0, hF.not1, hF.up0, hF.up1, ac5, h1, wakes_walk24, hht, hput, hstr, b8_append, hs, rep5, hmt, hpe, hq, hvm]
        exact ⟨_, rfl⟩
      · have e1 : mTakeN n l = (mNone, none, y) := by unfold mTakeN; rw [if_pos hi]; exact f5
        rw [e1] at hmt
        simp only [mtV, mNone, sl_none, slB_none, List.append_nil] at hmt
        have hlp := only_loop (hq := hp ++ [.cells r.length true (u8s r), .cells 0 true [.int .i64 x], .cells (headOf x).length true (u8s (headOf x)), .cells 0 true [.int .i64 0, .int .i64 0, .int .i64 0, .int .i64 0, .int .i64 0, .int .u32 0, .int .i64 0]]) (L := hp.length) (H := []) (hF.mono (by simp)) hr.app (by omega) hi (by rw [f5]) f6 (l.length + 1) 0 (by omega) (.inl (by omega))
        obtain ⟨ex, fr, nx, g5, g6⟩ := hlp
        simp only [Int.natCast_zero, List.length_append, List.length_cons, List.length_nil, Nat.zero_add, Nat.reduceAdd] at g5
        have y0 : ¬ y = 0 := by omega
        have y2 : ¬ y = 2 := by omega
        rcases g6 with ⟨rfl, g6⟩ | ⟨rfl, rfl, g6⟩
        · simp (disch := (first | omega | (simp only [lnE] <;> omega) | (refine Fit.mono ‹Fit _ _ _› ?_ <;> (simp only [lnE] <;> omega)) | (refine Fit.draw ‹Fit _ _ _› ?_ ?_ <;> (simp only [lnE] <;> omega)) | (refine Fit.hid1 ‹Fit _ _ _› ?_ ?_ <;> (simp only [lnE] <;> omega)) | (refine Fit.hidc1 ‹Fit _ _ _› ?_ ?_ <;> (simp only [lnE] <;> omega)) | (refine Fit.hidc2 ‹Fit _ _ _› ?_ ?_ ?_ <;> (simp only [lnE] <;> omega)) | (refine Fit.draw1 ‹Fit _ _ _› ?_ ?_ ?_ <;> (simp only [lnE] <;> omega)) | (refine Fit.range0 ?_ ?_ <;> (simp only [lnE] <;> omega)) | fail)) only [syA, syB, argFr, D, E, T, C, undefv, eqF, aeq, sheqs, sheq, rdCells, cellsOf, fill, putAt, if_true, if_false, reduceIte, ↓reduceIte, reduceCtorEq, eq_self, Nat.reduceEqDiff, Nat.reduceAdd, Nat.reduceSub, Nat.reduceMul, Nat.reduceLT, Nat.reduceLeDiff, Nat.reducePow, Nat.reduceDiv, Nat.reduceMod, Int.reduceLT, Int.reduceLE, Int.reduceGT, Int.reduceGE, Int.reduceToNat, Int.reducePow, Int.reduceNeg, Int.reduceBEq, Int.reduceBNe, Int.reduceEq, Int.reduceAdd, Int.reduceSub, Int.reduceMul, cellv, sc, flatv, refs, refsF, refsC, hF.not0, hF.not1, hF.up0, hF.up1, ac5, h1, wakes_walk24, hht, hput, hstr, b8_append, hs, rep5, hmt, y0, y2, g5, g6]
          exact ⟨_, rfl⟩
        · simp (disch := (first | omega | (simp only [lnE] <;> omega) | (refine Fit.mono ‹Fit _ _ _› ?_ <;> (simp only [lnE] <;> omega)) | (refine Fit.draw ‹Fit _ _ _› ?_ ?_ <;> (simp only [lnE] <;> omega)) | (refine Fit.hid1 ‹Fit _ _ _› ?_ ?_ <;> (simp only [lnE] <;> omega)) | (refine Fit.hidc1 ‹Fit _ _ _› ?_ ?_ <;> (simp only [lnE] <;> omega)) | (refine Fit.hidc2 ‹Fit _ _ _› ?_ ?_ ?_ <;> (simp only [lnE] <;> omega)) | (refine Fit.draw1 ‹Fit _ _ _› ?_ ?_ ?_ <;> (simp only [lnE] <;> omega)) | (refine Fit.range0 ?_ ?_ <;> (simp only [lnE] <;> omega)) | fail)) only [syA, syB, argFr, D, E, T, C, undefv, eqF, aeq, sheqs, sheq, rdCells, cellsOf, fill, putAt, if_true, if_false, reduceIte, ↓reduceIte, reduceCtorEq, eq_self, Nat.reduceEqDiff, Nat.reduceAdd, Nat.reduceSub, Nat.reduceMul, Nat.reduceLT, Nat.reduceLeDiff, Nat.reducePow, Nat.reduceDiv, Nat.reduceMod, Int.reduceLT, Int.reduceLE, Int.reduceGT, Int.reduceGE, Int.reduceToNat, Int.reducePow, Int.reduceNeg, Int.reduceBEq, Int.reduceBNe, Int.reduceEq, Int.reduceAdd, Int.reduceSub, Int.reduceMul, cellv, sc, flatv, refs, refsF, refsC, hF.not0, hF.not1, hF.up0, hF.up1, ac5, h1, wakes_walk24, hht, hput, hstr, b8_append, hs, rep5, hmt, y0, y2, g5, g6]
          exact ⟨_, rfl⟩
  · rw [g1] at hht
    have x0 : ¬ x = 0 := by omega
    simp only [htV, sl_none, slB_none, List.append_nil] at hht
    rcases hi with hi | hi
    · have e1 : mTakeN n l = (mNone, none, 2) := by unfold mTakeN; rw [if_neg (by rw [hi]; simp)]
      rw [e1] at hmt
      simp only [mtV, mNone, sl_none, slB_none, List.append_nil] at hmt
      by_cases hn1 : n < 1
      · simp (disch := (first | omega | (simp only [lnE] <;> omega) | (refine Fit.mono ‹Fit _ _ _› ?_ <;> (simp only [lnE] <;> omega)) | (refine Fit.draw ‹Fit _ _ _› ?_ ?_ <;> (simp only [lnE] <;> omega)) | (refine Fit.hid1 ‹Fit _ _ _› ?_ ?_ <;> (simp only [lnE] <;> omega)) | (refine Fit.hidc1 ‹Fit _ _ _› ?_ ?_ <;> (simp only [lnE] <;> omega)) | (refine Fit.hidc2 ‹Fit _ _ _› ?_ ?_ ?_ <;> (simp only [lnE] <;> omega)) | (refine Fit.draw1 ‹Fit _ _ _› ?_ ?_ ?_ <;> (simp only [lnE] <;> omega)) | (refine Fit.range0 ?_ ?_ <;> (simp only [lnE] <;> omega)) | fail)) only [syA, syB, argFr, D, E, T, C, undefv, eqF, aeq, sheqs, sheq, rdCells, cellsOf, fill, putAt, if_true, if_false, reduceIte, ↓reduceIte, reduceCtorEq, eq_self, Nat.reduceEqDiff, Nat.reduceAdd, Nat.reduceSub, Nat.reduceMul, Nat.reduceLT, Nat.reduceLeDiff, Nat.reducePow, Nat.reduceDiv, Nat.reduceMod, Int.reduceLT, Int.reduceLE, Int.reduceGT, Int.reduceGE, Int.reduceToNat, Int.reducePow, Int.reduceNeg, Int.reduceBEq, Int.reduceBNe, Int.reduceEq, Int.reduceAdd, Int.reduceSub, Int.reduceMul, cellv, sc, flatv, refs, refsF, refsC, hF.not0, hF.not1, hF.up0, hF.up1, ac5, h1, wakes_walk24, hht, x0, rep5, hmt, hn1]
        exact ⟨_, rfl⟩
      · have hn2 : n > 65536 := by rw [← Bool.not_eq_true, inR_true] at hi; omega
        simp (disch := (first | omega | (simp only [lnE] <;> omega) | (refine Fit.mono ‹Fit _ _ _› ?_ <;> (simp only [lnE] <;> omega)) | (refine Fit.draw ‹Fit _ _ _› ?_ ?_ <;> (simp only [lnE] <;> omega)) | (refine Fit.hid1 ‹Fit _ _ _› ?_ ?_ <;> (simp only [lnE] <;> omega)) | (refine Fit.hidc1 ‹Fit _ _ _› ?_ ?_ <;> (simp only [lnE] <;> omega)) | (refine Fit.hidc2 ‹Fit _ _ _› ?_ ?_ ?_ <;> (simp only [lnE] <;> omega)) | (refine Fit.draw1 ‹Fit _ _ _› ?_ ?_ ?_ <;> (simp only [lnE] <;> omega)) | (refine Fit.range0 ?_ ?_ <;> (simp only [lnE] <;> omega)) | fail)) only [syA, syB, argFr, D, E, T, C, undefv, eqF, aeq, sheqs, sheq, rdCells, cellsOf, fill, putAt, if_true, if_false, reduceIte, ↓reduceIte, reduceCtorEq, eq_self, Nat.reduceEqDiff, Nat.reduceAdd, Nat.reduceSub, Nat.reduceMul, Nat.reduceLT, Nat.reduceLeDiff, Nat.reducePow, Nat.reduceDiv, Nat.reduceMod, Int.reduceLT, Int.reduceLE, Int.reduceGT, Int.reduceGE, Int.reduceToNat, Int.reducePow, Int.reduceNeg, Int.reduceBEq, Int.reduceBNe, Int.reduceEq, Int.reduceAdd, Int.reduceSub, Int.reduceMul, cellv, sc, flatv, refs, refsF, refsC, hF.not0, hF.not1, hF.up0, hF.up1, ac5, h1, wakes_walk24, hht, x0, rep5, hmt, hn1, hn2]
        exact ⟨_, rfl⟩
    · rcases m_only hi hr.by_ with ⟨m, p, s, q, f1, f2, f3, f4, f5⟩ | ⟨s, q, f3, f4, f5⟩ | ⟨y, f5, f6⟩
      · have e1 : mTakeN n l = (⟨4, 0, 0, m, p, s, 4⟩, some q, 0) := by unfold mTakeN; rw [if_pos hi]; exact f5
        rw [e1] at hmt
        have hq : b8 (blockOf m p s ++ q) = b8 l := by rw [← f4]
        have hql : q.length ≤ 60 := by have := congrArg List.length f4; simp at this; omega
        have hmn := (inR_true.1 hi)
        have h8 := enc_len_le m (by omega)
        have h9 := enc_len_le p (by omega)
        have hbl : (blockOf m p s).length ≤ 20 := by simp [blockOf, be]; omega
        have hpb := fun nw => putblock_good n m p s hmn f1 f2 f3 (hp := hp ++ nw) (L := hp.length) (H := []) (d := []) (hF.mono (by simp))
        have hpe := fun nw => putend_walk s f3 (hp := hp ++ nw) (L := hp.length) (H := []) (d := []) (hF.mono (by simp))
        have hvm := fun nw => mvalid_walk n 0 0 m p 4 s (hp := hp ++ nw) (L := hp.length) (H := []) (d := []) 4 f3 (hF.mono (by simp))
        have hvt : mValid n ⟨4, 0, 0, m, p, s, 4⟩ = true := by
          have g1 : inR m 1 n = true := inR_true.2 (by omega)
          have g2 : inR p 1 m = true := inR_true.2 (by omega)
          simp [mValid, hi, mRight, g1, g2]
        rw [hvt] at hvm
        simp only [mtV, sl_some, slB_some, Option.getD_some] at hmt hpb hpe
        simp (disch := (first | omega | (simp only [lnE] <;> omega) | (refine Fit.mono ‹Fit _ _ _› ?_ <;> (simp only [lnE] <;> omega)) | (refine Fit.draw ‹Fit _ _ _› ?_ ?_ <;> (simp only [lnE] <;> omega)) | (refine Fit.hid1 ‹Fit _ _ _› ?_ ?_ <;> (simp only [lnE] <;> omega)) | (refine Fit.hidc1 ‹Fit _ _ _› ?_ ?_ <;> (simp only [lnE] <;> omega)) | (refine Fit.hidc2 ‹Fit _ _ _› ?_ ?_ ?_ <;> (simp only [lnE] <;> omega)) | (refine Fit.draw1 ‹Fit _ _ _› ?_ ?_ ?_ <;> (simp only [lnE] <;> omega)) | (refine Fit.range0 ?_ ?_ <;> (simp only [lnE] <;> omega)) | fail)) only [syA, syB, argFr, D, E, T, C, undefv, eqF, aeq, sheqs, sheq, rdCells, cellsOf, fill, putAt, if_true, if_false, reduceIte, ↓reduceIte, reduceCtorEq, eq_self, Nat.reduceEqDiff, Nat.reduceAdd, Nat.reduceSub, Nat.reduceMul, Nat.reduceLT, Nat.reduceLeDiff, Nat.reducePow, Nat.reduceDiv, Nat.reduceMod, Int.reduceLT, Int.reduceLE, Int.reduceGT, Int.reduceGE, Int.reduceToNat, Int.reducePow, Int.reduceNeg, Int.reduceBEq, Int.reduceBNe, Int.reduceEq, Int.reduceAdd, Int.reduceSub, Int.reduceMul, cellv, sc, flatv, refs, refsF, refsC, hF.not0, hF.not1, hF.up0, hF.up1, ac5, h1, wakes_walk24, hht, x0, hstr, b8_append, rep5, hmt, hpb, hpe, hq, hvm]
        exact ⟨_, rfl⟩
      · have e1 : mTakeN n l = (⟨6, 0, 0, 0, 0, s, 4⟩, some q, 0) := by unfold mTakeN; rw [if_pos hi]; exact f5
        rw [e1] at hmt
        have hq : b8 (endOf s ++ q) = b8 l := by rw [← f4]
        have hql : q.length ≤ 60 := by have := congrArg List.length f4; simp at this; omega
        have hbl : (endOf s).length ≤ 20 := by simp [endOf, be]
        have hpe := fun nw => putend_walk s f3 (hp := hp ++ nw) (L := hp.length) (H := []) (d := []) (hF.mono (by simp))
        have hvm := fun nw => mvalid_walk n 0 0 0 0 4 s (hp := hp ++ nw) (L := hp.length) (H := []) (d := []) 6 f3 (hF.mono (by simp))
        have hvt : mValid n ⟨6, 0, 0, 0, 0, s, 4⟩ = true := by simp [mValid, hi, mRight]
        rw [hvt] at hvm
        simp only [mtV, sl_some, slB_some, Option.getD_some] at hmt hpe
        simp (disch := (first | omega | (simp only [lnE] <;> omega) | (refine Fit.mono ‹Fit _ _ _› ?_ <;> (simp only [lnE] <;> omega)) | (refine Fit.draw ‹Fit _ _ _› ?_ ?_ <;> (simp only [lnE] <;> omega)) | (refine Fit.hid1 ‹Fit _ _ _› ?_ ?_ <;> (simp only [lnE] <;> omega)) | (refine Fit.hidc1 ‹Fit _ _ _› ?_ ?_ <;> (simp only [lnE] <;> omega)) | (refine Fit.hidc2 ‹Fit _ _ _› ?_ ?_ ?_ <;> (simp only [lnE] <;> omega)) | (refine Fit.draw1 ‹Fit _ _ _› ?_ ?_ ?_ <;> (simp only [lnE] <;> omega)) | (refine Fit.range0 ?_ ?_ <;> (simp only [lnE] <;> omega)) | fail)) only [syA, syB, argFr, D, E, T, C, undefv, eqF, aeq, sheqs, sheq, rdCells, cellsOf, fill, putAt, if_true, if_false, reduceIte, ↓reduceIte, reduceCtorEq, eq_self, Nat.reduceEqDiff, Nat.reduceAdd, Nat.reduceSub, Nat.reduceMul, Nat.reduceLT, Nat.reduceLeDiff, Nat.reducePow, Nat.reduceDiv, Nat.reduceMod, Int.reduceLT, Int.reduceLE, Int.reduceGT, Int.reduceGE, Int.reduceToNat, Int.reducePow, Int.reduceNeg, Int.reduceBEq, Int.reduceBNe, Int.reduceEq, Int.reduceAdd, Int.reduceSub, Int.reduceMul, cellv, sc, flatv, refs, refsF, refsC, hF.not0, hF.not1, hF.up0, hF.up1, ac5, h1, wakes_walk24, hht, x0, hstr, b8_append, rep5, hmt, hpe, hq, hvm]
        exact ⟨_, rfl⟩
      · have e1 : mTakeN n l = (mNone, none, y) := by unfold mTakeN; rw [if_pos hi]; exact f5
        rw [e1] at hmt
        simp only [mtV, mNone, sl_none, slB_none, List.append_nil] at hmt
        have hlp := only_loop (hq := hp ++ [.cells 0 true [.int .i64 0], .cells 0 true [.int .i64 0, .int .i64 0, .int .i64 0, .int .i64 0, .int .i64 0, .int .u32 0, .int .i64 0]]) (L := hp.length) (H := []) (hF.mono (by simp)) hr.app (by omega) hi (by rw [f5]) f6 (l.length + 1) 0 (by omega) (.inl (by omega))
        obtain ⟨ex, fr, nx, g5, g6⟩ := hlp
        simp only [Int.natCast_zero, List.length_append, List.length_cons, List.length_nil, Nat.zero_add, Nat.reduceAdd] at g5
        have y0 : ¬ y = 0 := by omega
        have y2 : ¬ y = 2 := by omega
        rcases g6 with ⟨rfl, g6⟩ | ⟨rfl, rfl, g6⟩
        · simp (disch := (first | omega | (simp only [lnE] <;> omega) | (refine Fit.mono ‹Fit _ _ _› ?_ <;> (simp only [lnE] <;> omega)) | (refine Fit.draw ‹Fit _ _ _› ?_ ?_ <;> (simp only [lnE] <;> omega)) | (refine Fit.hid1 ‹Fit _ _ _› ?_ ?_ <;> (simp only [lnE] <;> omega)) | (refine Fit.hidc1 ‹Fit _ _ _› ?_ ?_ <;> (simp only [lnE] <;> omega)) | (refine Fit.hidc2 ‹Fit _ _ _› ?_ ?_ ?_ <;> (simp only [lnE] <;> omega)) | (refine Fit.draw1 ‹Fit _ _ _› ?_ ?_ ?_ <;> (simp only [lnE] <;> omega)) | (refine Fit.range0 ?_ ?_ <;> (simp only [lnE] <;> omega)) | fail)) only [syA, syB, argFr, D, E, T, C, undefv, eqF, aeq, sheqs, sheq, rdCells, cellsOf, fill, putAt, if_true, if_false, reduceIte, ↓reduceIte, reduceCtorEq, eq_self, Nat.reduceEqDiff, Nat.reduceAdd, Nat.reduceSub, Nat.reduceMul, Nat.reduceLT, Nat.reduceLeDiff, Nat.reducePow, Nat.reduceDiv, Nat.reduceMod, Int.reduceLT, Int.reduceLE, Int.reduceGT, Int.reduceGE, Int.reduceToNat, Int.reducePow, Int.reduceNeg, Int.reduceBEq, Int.reduceBNe, Int.reduceEq, Int.reduceAdd, Int.reduceSub, Int.reduceMul, cellv, sc, flatv, refs, refsF, refsC, hF.not0, hF.not1, hF.up0, hF.up1, ac5, h1, wakes_walk24, hht, x0, hstr, b8_append, rep5, hmt, y0, y2, g5, g6]
          exact ⟨_, rfl⟩
        · simp (disch := (first | omega | (simp only [lnE] <;> omega) | (refine Fit.mono ‹Fit _ _ _› ?_ <;> (simp only [lnE] <;> omega)) | (refine Fit.draw ‹Fit _ _ _› ?_ ?_ <;> (simp only [lnE] <;> omega)) | (refine Fit.hid1 ‹Fit _ _ _› ?_ ?_ <;> (simp only [lnE] <;> omega)) | (refine Fit.hidc1 ‹Fit _ _ _› ?_ ?_ <;> (simp only [lnE] <;> omega)) | (refine Fit.hidc2 ‹Fit _ _ _› ?_ ?_ ?_ <;> (simp only [lnE] <;> omega)) | (refine Fit.draw1 ‹Fit _ _ _› ?_ ?_ ?_ <;> (simp only [lnE] <;> omega)) | (refine Fit.range0 ?_ ?_ <;> (simp only [lnE] <;> omega)) | fail)) only [syA, syB, argFr, D, E, T, C, undefv, eqF, aeq, sheqs, sheq, rdCells, cellsOf, fill, putAt, if_true, if_false, reduceIte, ↓reduceIte, reduceCtorEq, eq_self, Nat.reduceEqDiff, Nat.reduceAdd, Nat.reduceSub, Nat.reduceMul, Nat.reduceLT, Nat.reduceLeDiff, Nat.reducePow, Nat.reduceDiv, Nat.reduceMod, Int.reduceLT, Int.reduceLE, Int.reduceGT, Int.reduceGE, Int.reduceToNat, Int.reducePow, Int.reduceNeg, Int.reduceBEq, Int.reduceBNe, Int.reduceEq, Int.reduceAdd, Int.reduceSub, Int.reduceMul, cellv, sc, flatv, refs, refsF, refsC, hF.not0, hF.not1, hF.up0, hF.up1, ac5, h1, wakes_walk24, hht, x0, hstr, b8_append, rep5, hmt, y0, y2, g5, g6]
          exact ⟨_, rfl⟩
theorem only_law24 (n : Int) (_ : -9223372036854775808 ≤ n) (_ : n ≤ 9223372036854775807) {hp : List Blk} {v : Value} {l : List Nat} (hr : Rd ⟨hp, hp.length, [], []⟩ v l) : ∃ σ', Lrun env (.func 5) [.int .i64 n, v] ⟨hp, hp.length, [], []⟩ = some (.bool true, σ') :=
  only_run24 n hr
end VarA
end Go.Proofs.Ytpjjkmfidghkjaa
