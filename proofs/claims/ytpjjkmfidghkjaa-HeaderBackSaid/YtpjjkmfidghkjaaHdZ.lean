/-
  HEADERS: the law that what was written is taken back, run on the abstract machine. Conditions: none.
-/
import Derived.Test.YtpjjkmfidghkjaaHdX
set_option linter.all false
namespace Go.Proofs.Ytpjjkmfidghkjaa
namespace VarA
open Go Go.RowKit AM ArEnv

set_option maxHeartbeats 2000000 in
theorem back_good24 {N M P s s2 : Nat} (hN : 1 ≤ N ∧ N ≤ 65536) (hM : 1 ≤ M ∧ M ≤ N) (hP : 1 ≤ P ∧ P ≤ M) (hs : s < 4294967296) (hs2 : s2 < 4294967296) {hp : List Blk} {a : Option Addr} {e : Nat} {l : List Nat} (hr : Rd ⟨hp, hp.length, [], []⟩ (.slice a l.length e) l) (hl : l.length ≤ 60) :
    ∃ σ', Lrun env (.func 4) [.agg #[.int .i64 N], .agg #[.int .i64 M, .int .i64 P, .int .u32 s], .int .u32 s2, .slice a l.length e] ⟨hp, hp.length, [], []⟩ = some (.bool true, σ') := by
  have hF : Fit hp.length hp.length [] := ⟨Nat.le_refl _, Low.nil _⟩
  rw [Lrun_sym 4 _ _ fn4]
  have hi : inR N 1 65536 = true := inR_true.2 (by omega)
  have c0 : ¬ (l.length : Int) > 60 := by omega
  have c1 : ¬ (N : Int) < 1 := by omega
  have c2 : ¬ (N : Int) > 65536 := by omega
  have c3 : ¬ (M : Int) < 1 := by omega
  have c4 : ¬ (M : Int) > N := by omega
  have c5 : ¬ (P : Int) < 1 := by omega
  have c6 : ¬ (P : Int) > M := by omega
  have hstr : ∀ nw L d, St.str ⟨hp ++ nw, L, [], d⟩ (.slice a l.length e) = some (b8 l) := fun nw L d => (hr.app).str
  have hnews : ∀ nw L d, St.news ⟨hp ++ nw, L, [], d⟩ 1 (.slice a l.length e) = some (l.length, u8s l) := fun nw L d => (hr.app).news
  have hput := fun nw => hput_good N hN.1 hN.2 (hp := hp ++ nw) (L := hp.length) (H := []) (d := []) (hF.mono (by simp))
  have hpb := fun nw => putblock_good N M P s (by omega) (by omega) hP hs (hp := hp ++ nw) (L := hp.length) (H := []) (d := []) (hF.mono (by simp))
  have hpe := fun nw => putend_walk s2 hs2 (hp := hp ++ nw) (L := hp.length) (H := []) (d := []) (hF.mono (by simp))
  have hE5 : (endOf s2).length = 5 := rfl
  simp only [sl_some, slB_some, hE5] at hput hpb hpe
  -- what is known of the bytes
  have n5 := enc_len_le N (by omega)
  have m5 := enc_len_le M (by omega)
  have p5 := enc_len_le P (by omega)
  have n1 := enc_len N
  have m1 := enc_len M
  have p1 := enc_len P
  have k1 := headOf_len N
  have k2 : (blockOf M P s).length = (enc M).length + (enc P).length + 5 := by simp [blockOf, be]; omega
  have n3 := leTail_len 2 (N / 128) (by omega)
  have m3 := leTail_len 2 (M / 128) (by omega)
  have p3 := leTail_len 2 (P / 128) (by omega)
  have b1 : By (headOf N) := By.append (by intro x hx; simp at hx; omega) (enc_by N)
  have b2 : By (blockOf M P s) := ((By.append (by intro x hx; simp at hx; omega) (enc_by M)).append (enc_by P)).append (be_by s)
  have b3 : By (endOf s2) := By.append (l := [0]) (m := be s2) (by intro x hx; simp at hx; omega) (be_by s2)
  have q1 := h_back hN.1 hN.2 hr.by_
  have q2 := h_short hN.1 hN.2
  have q3 := m_back (n := N) hi (by omega) hP hs hr.by_
  have q4 := m_short (n := N) (s := s) hi (m := M) (p := P) (by omega) hP
  have q5 := m_back_end (n := N) hi hs2 l
  have q6 := m_short_end (n := N) (s := s2) hi
  have tn : ∀ b, mTakeN N b = mTake N mNone b := fun b => by unfold mTakeN; rw [if_pos hi]
  generalize hA : headOf N = A at *
  generalize hB : blockOf M P s = B at *
  generalize hE : endOf s2 = XE at *
  clear hA hB hE
  obtain ⟨AL, hAL⟩ : ∃ x, x = A ++ l := ⟨_, rfl⟩
  obtain ⟨BL, hBL⟩ : ∃ x, x = B ++ l := ⟨_, rfl⟩
  obtain ⟨EL, hEL⟩ : ∃ x, x = XE ++ l := ⟨_, rfl⟩
  have a1 := append_lit0 (hp := hp ++ [.cells 0 true [.int .i64 N], .cells 0 true [.int .i64 M, .int .i64 P, .int .u32 s], .cells A.length true (u8s A), .cells B.length true (u8s B), .cells 5 true (u8s XE)]) (L := hp.length) (H := []) (d := []) (l := A) (hF.mono (by simp)) (by omega)
  have a2 := append_full (hp := hp ++ [.cells 0 true [.int .i64 N], .cells 0 true [.int .i64 M, .int .i64 P, .int .u32 s], .cells A.length true (u8s A), .cells B.length true (u8s B), .cells 5 true (u8s XE), .cells A.length true (u8s A)]) (L := hp.length) (H := []) (d := []) (b := hp.length + 5) (l0 := A) (l := l) (by rw [get_new]; rfl) (by omega) rfl (by omega)
  have a3 := append_lit0 (hp := hp ++ [.cells 0 true [.int .i64 N], .cells 0 true [.int .i64 M, .int .i64 P, .int .u32 s], .cells A.length true (u8s A), .cells B.length true (u8s B), .cells 5 true (u8s XE), .cells AL.length true (u8s AL), .cells l.length true (u8s l), .cells 0 true [.int .i64 N]]) (L := hp.length + 8) (H := []) (d := []) (l := B) ⟨by simp, Low.nil _⟩ (by omega)
  have a4 := append_full (hp := hp ++ [.cells 0 true [.int .i64 N], .cells 0 true [.int .i64 M, .int .i64 P, .int .u32 s], .cells A.length true (u8s A), .cells B.length true (u8s B), .cells 5 true (u8s XE), .cells AL.length true (u8s AL), .cells l.length true (u8s l), .cells 0 true [.int .i64 N], .cells B.length true (u8s B)]) (L := hp.length + 8) (H := []) (d := []) (b := hp.length + 8) (l0 := B) (l := l) (by rw [get_new]; rfl) (by omega) rfl (by omega)
  have a5 := append_lit0 (hp := hp ++ [.cells 0 true [.int .i64 N], .cells 0 true [.int .i64 M, .int .i64 P, .int .u32 s], .cells A.length true (u8s A), .cells B.length true (u8s B), .cells 5 true (u8s XE), .cells AL.length true (u8s AL), .cells l.length true (u8s l), .cells 0 true [.int .i64 N], .cells BL.length true (u8s BL), .cells l.length true (u8s l), .cells 0 true [.int .i64 4, .int .i64 0, .int .i64 0, .int .i64 M, .int .i64 P, .int .u32 s, .int .i64 4]]) (L := hp.length + 11) (H := []) (d := []) (l := XE) ⟨by simp, Low.nil _⟩ (by omega)
  have a6 := append_full (hp := hp ++ [.cells 0 true [.int .i64 N], .cells 0 true [.int .i64 M, .int .i64 P, .int .u32 s], .cells A.length true (u8s A), .cells B.length true (u8s B), .cells 5 true (u8s XE), .cells AL.length true (u8s AL), .cells l.length true (u8s l), .cells 0 true [.int .i64 N], .cells BL.length true (u8s BL), .cells l.length true (u8s l), .cells 0 true [.int .i64 4, .int .i64 0, .int .i64 0, .int .i64 M, .int .i64 P, .int .u32 s, .int .i64 4], .cells XE.length true (u8s XE)]) (L := hp.length + 11) (H := []) (d := []) (b := hp.length + 11) (l0 := XE) (l := l) (by rw [get_new]; rfl) (by omega) rfl (by omega)
  have hbA := b1.append hr.by_
  have hbB := b2.append hr.by_
  have hbE := b3.append hr.by_
  have hlA : (A ++ l).length ≤ 1000 := by rw [List.length_append]; omega
  have hlB : (B ++ l).length ≤ 1000 := by rw [List.length_append]; omega
  have hlE : (XE ++ l).length ≤ 1000 := by rw [List.length_append]; omega
  rw [← hAL] at a2 hbA hlA q1
  rw [← hBL] at a4 hbB hlB q3
  rw [← hEL] at a6 hbE hlE q5
  clear hAL hBL hEL
  have r1 := Rd.whole (hp := hp ++ [.cells 0 true [.int .i64 N], .cells 0 true [.int .i64 M, .int .i64 P, .int .u32 s], .cells A.length true (u8s A), .cells B.length true (u8s B), .cells 5 true (u8s XE), .cells AL.length true (u8s AL)]) (L := hp.length) (H := []) (d := []) (b := hp.length + 5) (g := AL.length) (e := 1) (l := AL) (by rw [get_new]; rfl) rfl hbA (.inr rfl)
  have t1 := htake_walk (d := []) (hF.mono (by simp)) r1 hlA
  rw [q1] at t1
  have r2 := Rd.whole (hp := hp ++ [.cells 0 true [.int .i64 N], .cells 0 true [.int .i64 M, .int .i64 P, .int .u32 s], .cells A.length true (u8s A), .cells B.length true (u8s B), .cells 5 true (u8s XE), .cells AL.length true (u8s AL), .cells l.length true (u8s l), .cells 0 true [.int .i64 N], .cells BL.length true (u8s BL)]) (L := hp.length) (H := []) (d := []) (b := hp.length + 8) (g := BL.length) (e := 1) (l := BL) (by rw [get_new]; rfl) rfl hbB (.inr rfl)
  have t2 := mtake_walk (d := []) (N : Int) (hF.mono (by simp)) r2 hlB
  rw [tn, q3] at t2
  have r3 := Rd.whole (hp := hp ++ [.cells 0 true [.int .i64 N], .cells 0 true [.int .i64 M, .int .i64 P, .int .u32 s], .cells A.length true (u8s A), .cells B.length true (u8s B), .cells 5 true (u8s XE), .cells AL.length true (u8s AL), .cells l.length true (u8s l), .cells 0 true [.int .i64 N], .cells BL.length true (u8s BL), .cells l.length true (u8s l), .cells 0 true [.int .i64 4, .int .i64 0, .int .i64 0, .int .i64 M, .int .i64 P, .int .u32 s, .int .i64 4], .cells EL.length true (u8s EL)]) (L := hp.length) (H := []) (d := []) (b := hp.length + 11) (g := EL.length) (e := 1) (l := EL) (by rw [get_new]; rfl) rfl hbE (.inr rfl)
  have t3 := mtake_walk (d := []) (N : Int) (hF.mono (by simp)) r3 hlE
  rw [tn, q5] at t3
  have r4 := (Rd.whole (hp := hp ++ [.cells 0 true [.int .i64 N], .cells 0 true [.int .i64 M, .int .i64 P, .int .u32 s], .cells A.length true (u8s A), .cells B.length true (u8s B), .cells 5 true (u8s XE), .cells AL.length true (u8s AL), .cells l.length true (u8s l), .cells 0 true [.int .i64 N], .cells BL.length true (u8s BL), .cells l.length true (u8s l), .cells 0 true [.int .i64 4, .int .i64 0, .int .i64 0, .int .i64 M, .int .i64 P, .int .u32 s, .int .i64 4], .cells EL.length true (u8s EL), .cells l.length true (u8s l), .cells 0 true [.int .i64 6, .int .i64 0, .int .i64 0, .int .i64 0, .int .i64 0, .int .u32 s2, .int .i64 4]]) (L := hp.length) (H := []) (d := []) (b := hp.length + 2) (g := A.length) (e := 1) (l := A) (by rw [get_new]; rfl) rfl b1 (.inr rfl)).upto' (j := A.length - 1) (by omega)
  have t4 := htake_walk (d := []) (hF.mono (by simp)) r4 (by simp; omega)
  rw [q2] at t4
  have r5 := (Rd.whole (hp := hp ++ [.cells 0 true [.int .i64 N], .cells 0 true [.int .i64 M, .int .i64 P, .int .u32 s], .cells A.length true (u8s A), .cells B.length true (u8s B), .cells 5 true (u8s XE), .cells AL.length true (u8s AL), .cells l.length true (u8s l), .cells 0 true [.int .i64 N], .cells BL.length true (u8s BL), .cells l.length true (u8s l), .cells 0 true [.int .i64 4, .int .i64 0, .int .i64 0, .int .i64 M, .int .i64 P, .int .u32 s, .int .i64 4], .cells EL.length true (u8s EL), .cells l.length true (u8s l), .cells 0 true [.int .i64 6, .int .i64 0, .int .i64 0, .int .i64 0, .int .i64 0, .int .u32 s2, .int .i64 4], .cells 0 true [.int .i64 0]]) (L := hp.length) (H := []) (d := []) (b := hp.length + 3) (g := B.length) (e := 1) (l := B) (by rw [get_new]; rfl) rfl b2 (.inr rfl)).upto' (j := B.length - 1) (by omega)
  have t5 := mtake_walk (d := []) (N : Int) (hF.mono (by simp)) r5 (by simp; omega)
  rw [tn, q4] at t5
  have r6 := (Rd.whole (hp := hp ++ [.cells 0 true [.int .i64 N], .cells 0 true [.int .i64 M, .int .i64 P, .int .u32 s], .cells A.length true (u8s A), .cells B.length true (u8s B), .cells 5 true (u8s XE), .cells AL.length true (u8s AL), .cells l.length true (u8s l), .cells 0 true [.int .i64 N], .cells BL.length true (u8s BL), .cells l.length true (u8s l), .cells 0 true [.int .i64 4, .int .i64 0, .int .i64 0, .int .i64 M, .int .i64 P, .int .u32 s, .int .i64 4], .cells EL.length true (u8s EL), .cells l.length true (u8s l), .cells 0 true [.int .i64 6, .int .i64 0, .int .i64 0, .int .i64 0, .int .i64 0, .int .u32 s2, .int .i64 4], .cells 0 true [.int .i64 0], .cells 0 true [.int .i64 0, .int .i64 0, .int .i64 0, .int .i64 0, .int .i64 0, .int .u32 0, .int .i64 0]]) (L := hp.length) (H := []) (d := []) (b := hp.length + 4) (g := 5) (e := 1) (l := XE) (by rw [get_new]; rfl) rfl b3 (.inr rfl)).upto' (j := 4) (by omega)
  have t6 := mtake_walk (d := []) (N : Int) (hF.mono (by simp)) r6 (by simp; omega)
  rw [tn, q6] at t6
  clear r1 r2 r3 r4 r5 r6
  rw [hE5] at a5 a6
  simp only [sl_some, slB_some, sl_none, slB_none, htV, mtV, mNone, Option.getD_some, Option.getD_none, Int.natCast_zero, List.append_assoc, List.cons_append, List.nil_append, List.append_nil, List.length_append, List.length_cons, List.length_nil, Nat.zero_add, Nat.reduceAdd, set_new, set_new0, List.set_cons_succ, List.set_cons_zero] at a1 a2 a3 a4 a5 a6 t1 t2 t3 t4 t5 t6
  have e1 : ¬ (A.length : Int) < 4 := by omega
  have e2 : ¬ (A.length : Int) > 6 := by omega
  have e3 : ¬ (B.length : Int) < 7 := by omega
  have e4 : ¬ (B.length : Int) > 11 := by omega
  have e5 : 0 ≤ (A.length : Int) - 1 ∧ (A.length : Int) - 1 ≤ (A.length : Int) := by omega
  have e6 : ((A.length : Int) - 1).toNat = A.length - 1 := by omega
  have e7 : 0 ≤ (B.length : Int) - 1 ∧ (B.length : Int) - 1 ≤ (B.length : Int) := by omega
  have e8 : ((B.length : Int) - 1).toNat = B.length - 1 := by omega
  have tkA : (u8s A).take A.length = u8s A := take_u8s A
  have tkB : (u8s B).take B.length = u8s B := take_u8s B
  have tkE : (u8s XE).take 5 = u8s XE := by have := take_u8s XE; rwa [hE5] at this
  simp (disch := (first | omega | (simp only [lnE] <;> omega) | (refine Fit.mono ‹Fit _ _ _› ?_ <;> (simp only [lnE] <;> omega)) | (refine Fit.draw ‹Fit _ _ _› ?_ ?_ <;> (simp only [lnE] <;> omega)) | (refine Fit.hid1 ‹Fit _ _ _› ?_ ?_ <;> (simp only [lnE] <;> omega)) | (refine Fit.hidc1 ‹Fit _ _ _› ?_ ?_ <;> (simp only [lnE] <;> omega)) | (refine Fit.hidc2 ‹Fit _ _ _› ?_ ?_ ?_ <;> (simp only [lnE] <;> omega)) | (refine Fit.draw1 ‹Fit _ _ _› ?_ ?_ ?_ <;> (simp only [lnE] <;> omega)) | (refine Fit.range0 ?_ ?_ <;> (simp only [lnE] <;> omega)) | fail)) only [syA, syB, argFr, D, E, T, C, undefv, eqF, aeq, sheqs, sheq, rdCells, cellsOf, fill, putAt, if_true, if_false, reduceIte, ↓reduceIte, reduceCtorEq, eq_self, Nat.reduceEqDiff, Nat.reduceAdd, Nat.reduceSub, Nat.reduceMul, Nat.reduceLT, Nat.reduceLeDiff, Nat.reducePow, Nat.reduceDiv, Nat.reduceMod, Int.reduceLT, Int.reduceLE, Int.reduceGT, Int.reduceGE, Int.reduceToNat, Int.reducePow, Int.reduceNeg, Int.reduceBEq, Int.reduceBNe, Int.reduceEq, Int.reduceAdd, Int.reduceSub, Int.reduceMul, cellv, sc, flatv, refs, refsF, refsC, hF.not0, hF.not1, hF.up0, hF.up1, ac4, c0, c1, c2, c3, c4, c5, c6, hput, hpb, hpe, hE5, small, tkA, tkB, tkE, hnews, hstr, a1, a2, a3, a4, a5, a6, t1, t2, t3, t4, t5, t6, e1, e2, e3, e4, e5, e6, e7, e8, rep5, rep7, wakes_walk24]
  exact ⟨_, rfl⟩
theorem back_law24 (N : Int) (_ : -9223372036854775808 ≤ N ∧ N ≤ 9223372036854775807) (M P : Int) (s : Nat) (hs : s < 4294967296) (s2 : Nat) (hs2 : s2 < 4294967296) {hp : List Blk} {v : Value} {l : List Nat} (hr : Rd ⟨hp, hp.length, [], []⟩ v l) :
    ∃ σ', Lrun env (.func 4) [.agg #[.int .i64 N], .agg #[.int .i64 M, .int .i64 P, .int .u32 s], .int .u32 s2, v] ⟨hp, hp.length, [], []⟩ = some (.bool true, σ') := by
  have hF : Fit hp.length hp.length [] := ⟨Nat.le_refl _, Low.nil _⟩
  obtain ⟨a, e, rfl⟩ := hr.len
  by_cases hg : l.length ≤ 60 ∧ (1 ≤ N ∧ N ≤ 65536) ∧ (1 ≤ M ∧ M ≤ N) ∧ (1 ≤ P ∧ P ≤ M)
  · obtain ⟨g0, g1, g2, g3⟩ := hg
    obtain ⟨n, rfl⟩ : ∃ x : Nat, N = x := ⟨N.toNat, by omega⟩
    obtain ⟨m, rfl⟩ : ∃ x : Nat, M = x := ⟨M.toNat, by omega⟩
    obtain ⟨p, rfl⟩ : ∃ x : Nat, P = x := ⟨P.toNat, by omega⟩
    exact back_good24 (by omega) (by omega) (by omega) hs hs2 hr g0
  rw [Lrun_sym 4 _ _ fn4]
  by_cases c0 : (l.length : Int) > 60
  · simp (disch := (first | omega | (simp only [lnE] <;> omega) | (refine Fit.mono ‹Fit _ _ _› ?_ <;> (simp only [lnE] <;> omega)) | (refine Fit.draw ‹Fit _ _ _› ?_ ?_ <;> (simp only [lnE] <;> omega)) | (refine Fit.hid1 ‹Fit _ _ _› ?_ ?_ <;> (simp only [lnE] <;> omega)) | (refine Fit.hidc1 ‹Fit _ _ _› ?_ ?_ <;> (simp only [lnE] <;> omega)) | (refine Fit.hidc2 ‹Fit _ _ _› ?_ ?_ ?_ <;> (simp only [lnE] <;> omega)) | (refine Fit.draw1 ‹Fit _ _ _› ?_ ?_ ?_ <;> (simp only [lnE] <;> omega)) | (refine Fit.range0 ?_ ?_ <;> (simp only [lnE] <;> omega)) | fail)) only [syA, syB, argFr, D, E, T, C, undefv, eqF, aeq, sheqs, sheq, rdCells, cellsOf, fill, putAt, if_true, if_false, reduceIte, ↓reduceIte, reduceCtorEq, eq_self, Nat.reduceEqDiff, Nat.reduceAdd, Nat.reduceSub, Nat.reduceMul, Nat.reduceLT, Nat.reduceLeDiff, Nat.reducePow, Nat.reduceDiv, Nat.reduceMod, Int.reduceLT, Int.reduceLE, Int.reduceGT, Int.reduceGE, Int.reduceToNat, Int.reducePow, Int.reduceNeg, Int.reduceBEq, Int.reduceBNe, Int.reduceEq, Int.reduceAdd, Int.reduceSub, Int.reduceMul, cellv, sc, flatv, refs, refsF, refsC, hF.not0, hF.not1, hF.up0, hF.up1, ac4, c0, wakes_walk24]
    exact ⟨_, rfl⟩
  by_cases c1 : N < 1
  · simp (disch := (first | omega | (simp only [lnE] <;> omega) | (refine Fit.mono ‹Fit _ _ _› ?_ <;> (simp only [lnE] <;> omega)) | (refine Fit.draw ‹Fit _ _ _› ?_ ?_ <;> (simp only [lnE] <;> omega)) | (refine Fit.hid1 ‹Fit _ _ _› ?_ ?_ <;> (simp only [lnE] <;> omega)) | (refine Fit.hidc1 ‹Fit _ _ _› ?_ ?_ <;> (simp only [lnE] <;> omega)) | (refine Fit.hidc2 ‹Fit _ _ _› ?_ ?_ ?_ <;> (simp only [lnE] <;> omega)) | (refine Fit.draw1 ‹Fit _ _ _› ?_ ?_ ?_ <;> (simp only [lnE] <;> omega)) | (refine Fit.range0 ?_ ?_ <;> (simp only [lnE] <;> omega)) | fail)) only [syA, syB, argFr, D, E, T, C, undefv, eqF, aeq, sheqs, sheq, rdCells, cellsOf, fill, putAt, if_true, if_false, reduceIte, ↓reduceIte, reduceCtorEq, eq_self, Nat.reduceEqDiff, Nat.reduceAdd, Nat.reduceSub, Nat.reduceMul, Nat.reduceLT, Nat.reduceLeDiff, Nat.reducePow, Nat.reduceDiv, Nat.reduceMod, Int.reduceLT, Int.reduceLE, Int.reduceGT, Int.reduceGE, Int.reduceToNat, Int.reducePow, Int.reduceNeg, Int.reduceBEq, Int.reduceBNe, Int.reduceEq, Int.reduceAdd, Int.reduceSub, Int.reduceMul, cellv, sc, flatv, refs, refsF, refsC, hF.not0, hF.not1, hF.up0, hF.up1, ac4, c0, c1, wakes_walk24]
    exact ⟨_, rfl⟩
  by_cases c2 : N > 65536
  · simp (disch := (first | omega | (simp only [lnE] <;> omega) | (refine Fit.mono ‹Fit _ _ _› ?_ <;> (simp only [lnE] <;> omega)) | (refine Fit.draw ‹Fit _ _ _› ?_ ?_ <;> (simp only [lnE] <;> omega)) | (refine Fit.hid1 ‹Fit _ _ _› ?_ ?_ <;> (simp only [lnE] <;> omega)) | (refine Fit.hidc1 ‹Fit _ _ _› ?_ ?_ <;> (simp only [lnE] <;> omega)) | (refine Fit.hidc2 ‹Fit _ _ _› ?_ ?_ ?_ <;> (simp only [lnE] <;> omega)) | (refine Fit.draw1 ‹Fit _ _ _› ?_ ?_ ?_ <;> (simp only [lnE] <;> omega)) | (refine Fit.range0 ?_ ?_ <;> (simp only [lnE] <;> omega)) | fail)) only [syA, syB, argFr, D, E, T, C, undefv, eqF, aeq, sheqs, sheq, rdCells, cellsOf, fill, putAt, if_true, if_false, reduceIte, ↓reduceIte, reduceCtorEq, eq_self, Nat.reduceEqDiff, Nat.reduceAdd, Nat.reduceSub, Nat.reduceMul, Nat.reduceLT, Nat.reduceLeDiff, Nat.reducePow, Nat.reduceDiv, Nat.reduceMod, Int.reduceLT, Int.reduceLE, Int.reduceGT, Int.reduceGE, Int.reduceToNat, Int.reducePow, Int.reduceNeg, Int.reduceBEq, Int.reduceBNe, Int.reduceEq, Int.reduceAdd, Int.reduceSub, Int.reduceMul, cellv, sc, flatv, refs, refsF, refsC, hF.not0, hF.not1, hF.up0, hF.up1, ac4, c0, c1, c2, wakes_walk24]
    exact ⟨_, rfl⟩
  by_cases c3 : M < 1
  · simp (disch := (first | omega | (simp only [lnE] <;> omega) | (refine Fit.mono ‹Fit _ _ _› ?_ <;> (simp only [lnE] <;> omega)) | (refine Fit.draw ‹Fit _ _ _› ?_ ?_ <;> (simp only [lnE] <;> omega)) | (refine Fit.hid1 ‹Fit _ _ _› ?_ ?_ <;> (simp only [lnE] <;> omega)) | (refine Fit.hidc1 ‹Fit _ _ _› ?_ ?_ <;> (simp only [lnE] <;> omega)) | (refine Fit.hidc2 ‹Fit _ _ _› ?_ ?_ ?_ <;> (simp only [lnE] <;> omega)) | (refine Fit.draw1 ‹Fit _ _ _› ?_ ?_ ?_ <;> (simp only [lnE] <;> omega)) | (refine Fit.range0 ?_ ?_ <;> (simp only [lnE] <;> omega)) | fail)) only [syA, syB, argFr, D, E, T, C, undefv, eqF, aeq, sheqs, sheq, rdCells, cellsOf, fill, putAt, if_true, if_false, reduceIte, ↓reduceIte, reduceCtorEq, eq_self, Nat.reduceEqDiff, Nat.reduceAdd, Nat.reduceSub, Nat.reduceMul, Nat.reduceLT, Nat.reduceLeDiff, Nat.reducePow, Nat.reduceDiv, Nat.reduceMod, Int.reduceLT, Int.reduceLE, Int.reduceGT, Int.reduceGE, Int.reduceToNat, Int.reducePow, Int.reduceNeg, Int.reduceBEq, Int.reduceBNe, Int.reduceEq, Int.reduceAdd, Int.reduceSub, Int.reduceMul, cellv, sc, flatv, refs, refsF, refsC, hF.not0, hF.not1, hF.up0, hF.up1, ac4, c0, c1, c2, c3, wakes_walk24]
    exact ⟨_, rfl⟩
  by_cases c4 : M > N
  · simp (disch := (first | omega | (simp only [lnE] <;> omega) | (refine Fit.mono ‹Fit _ _ _› ?_ <;> (simp only [lnE] <;> omega)) | (refine Fit.draw ‹Fit _ _ _› ?_ ?_ <;> (simp only [lnE] <;> omega)) | (refine Fit.hid1 ‹Fit _ _ _› ?_ ?_ <;> (simp only [lnE] <;> omega)) | (refine Fit.hidc1 ‹Fit _ _ _› ?_ ?_ <;> (simp only [lnE] <;> omega)) | (refine Fit.hidc2 ‹Fit _ _ _› ?_ ?_ ?_ <;> (simp only [lnE] <;> omega)) | (refine Fit.draw1 ‹Fit _ _ _› ?_ ?_ ?_ <;> (simp only [lnE] <;> omega)) | (refine Fit.range0 ?_ ?_ <;> (simp only [lnE] <;> omega)) | fail)) only [syA, syB, argFr, D, E, T, C, undefv, eqF, aeq, sheqs, sheq, rdCells, cellsOf, fill, putAt, if_true, if_false, reduceIte, ↓reduceIte, reduceCtorEq, eq_self, Nat.reduceEqDiff, Nat.reduceAdd, Nat.reduceSub, Nat.reduceMul, Nat.reduceLT, Nat.reduceLeDiff, Nat.reducePow, Nat.reduceDiv, Nat.reduceMod, Int.reduceLT, Int.reduceLE, Int.reduceGT, Int.reduceGE, Int.reduceToNat, Int.reducePow, Int.reduceNeg, Int.reduceBEq, Int.reduceBNe, Int.reduceEq, Int.reduceAdd, Int.reduceSub, Int.reduceMul, cellv, sc, flatv, refs, refsF, refsC, hF.not0, hF.not1, hF.up0, hF.up1, ac4, c0, c1, c2, c3, c4, wakes_walk24]
    exact ⟨_, rfl⟩
  by_cases c5 : P < 1
  · simp (disch := (first | omega | (simp only [lnE] <;> omega) | (refine Fit.mono ‹Fit _ _ _› ?_ <;> (simp only [lnE] <;> omega)) | (refine Fit.draw ‹Fit _ _ _› ?_ ?_ <;> (simp only [lnE] <;> omega)) | (refine Fit.hid1 ‹Fit _ _ _› ?_ ?_ <;> (simp only [lnE] <;> omega)) | (refine Fit.hidc1 ‹Fit _ _ _› ?_ ?_ <;> (simp only [lnE] <;> omega)) | (refine Fit.hidc2 ‹Fit _ _ _› ?_ ?_ ?_ <;> (simp only [lnE] <;> omega)) | (refine Fit.draw1 ‹Fit _ _ _› ?_ ?_ ?_ <;> (simp only [lnE] <;> omega)) | (refine Fit.range0 ?_ ?_ <;> (simp only [lnE] <;> omega)) | fail)) only [syA, syB, argFr, D, E, T, C, undefv, eqF, aeq, sheqs, sheq, rdCells, cellsOf, fill, putAt, if_true, if_false, reduceIte, ↓reduceIte, reduceCtorEq, eq_self, Nat.reduceEqDiff, Nat.reduceAdd, Nat.reduceSub, Nat.reduceMul, Nat.reduceLT, Nat.reduceLeDiff, Nat.reducePow, Nat.reduceDiv, Nat.reduceMod, Int.reduceLT, Int.reduceLE, Int.reduceGT, Int.reduceGE, Int.reduceToNat, Int.reducePow, Int.reduceNeg, Int.reduceBEq, Int.reduceBNe, Int.reduceEq, Int.reduceAdd, Int.reduceSub, Int.reduceMul, cellv, sc, flatv, refs, refsF, refsC, hF.not0, hF.not1, hF.up0, hF.up1, ac4, c0, c1, c2, c3, c4, c5, wakes_walk24]
    exact ⟨_, rfl⟩
  by_cases c6 : P > M
  · simp (disch := (first | omega | (simp only [lnE] <;> omega) | (refine Fit.mono ‹Fit _ _ _› ?_ <;> (simp only [lnE] <;> omega)) | (refine Fit.draw ‹Fit _ _ _› ?_ ?_ <;> (simp only [lnE] <;> omega)) | (refine Fit.hid1 ‹Fit _ _ _› ?_ ?_ <;> (simp only [lnE] <;> omega)) | (refine Fit.hidc1 ‹Fit _ _ _› ?_ ?_ <;> (simp only [lnE] <;> omega)) | (refine Fit.hidc2 ‹Fit _ _ _› ?_ ?_ ?_ <;> (simp only [lnE] <;> omega)) | (refine Fit.draw1 ‹Fit _ _ _› ?_ ?_ ?_ <;> (simp only [lnE] <;> omega)) | (refine Fit.range0 ?_ ?_ <;> (simp only [lnE] <;> omega)) | fail)) only [syA, syB, argFr, D, E, T, C, undefv, eqF, aeq, sheqs, sheq, rdCells, cellsOf, fill, putAt, if_true, if_false, reduceIte, ↓reduceIte, reduceCtorEq, eq_self, Nat.reduceEqDiff, Nat.reduceAdd, Nat.reduceSub, Nat.reduceMul, Nat.reduceLT, Nat.reduceLeDiff, Nat.reducePow, Nat.reduceDiv, Nat.reduceMod, Int.reduceLT, Int.reduceLE, Int.reduceGT, Int.reduceGE, Int.reduceToNat, Int.reducePow, Int.reduceNeg, Int.reduceBEq, Int.reduceBNe, Int.reduceEq, Int.reduceAdd, Int.reduceSub, Int.reduceMul, cellv, sc, flatv, refs, refsF, refsC, hF.not0, hF.not1, hF.up0, hF.up1, ac4, c0, c1, c2, c3, c4, c5, c6, wakes_walk24]
    exact ⟨_, rfl⟩
  exact absurd ⟨by omega, by omega, by omega, by omega⟩ hg
end VarA
end Go.Proofs.Ytpjjkmfidghkjaa
