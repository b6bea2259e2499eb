/-
  LENGTH TABLES: Read, on the abstract machine. Conditions: none.
-/
import Derived.Test.YtlphmnhkkhcjfaaLtN
set_option linter.all false
section
namespace Go.Proofs.Ytlphmnhkkhcjfaa
namespace LtA
open Go Go.RowKit AM ArEnv
variable {hp : List Blk} {L : Nat} {H d : List Nat}

/-- A slice of numbers that can be read. -/
def RdI (hp : List Blk) (H : List Nat) (v : Value) (l : List Int) : Prop :=
  (v = .slice none 0 0 ∧ l = []) ∨ ∃ b o g e pl cs, v = .slice (some ⟨b, o, some g⟩) l.length e ∧ H.contains b = false ∧ hp[b]? = some (.cells g pl cs) ∧ ∀ i (h : i < l.length), cs[o + i]? = some (.int .i64 l[i])
theorem RdI.len {v : Value} {l : List Int} (h : RdI hp H v l) : ∃ p e, v = .slice p l.length e := by
  rcases h with ⟨rfl, rfl⟩ | ⟨b, o, g, e, pl, cs, rfl, _⟩
  · exact ⟨_, _, rfl⟩
  · exact ⟨_, _, rfl⟩
theorem RdI.app {v : Value} {l : List Int} (h : RdI hp H v l) (nw : List Blk) : RdI (hp ++ nw) H v l := by
  rcases h with h | ⟨b, o, g, e, pl, cs, h1, h2, h3, h4⟩
  · exact .inl h
  · exact .inr ⟨b, o, g, e, pl, cs, h1, h2, by rw [List.getElem?_append_left (List.getElem?_eq_some_iff.1 h3).1, h3], h4⟩
theorem RdI.at_ {p : Option Addr} {n e : Nat} {l : List Int} (h : RdI hp H (.slice p n e) l) {i : Nat} (hi : i < l.length) : ∃ b o g pl cs, p = some ⟨b, o, some g⟩ ∧ H.contains b = false ∧ hp[b]? = some (.cells g pl cs) ∧ cs[o + i]? = some (.int .i64 l[i]) := by
  rcases h with ⟨h1, rfl⟩ | ⟨b, o, g, e', pl, cs, h1, h2, h3, h4⟩
  · simp at hi
  · cases h1
    exact ⟨b, o, g, pl, cs, rfl, h2, h3, h4 i hi⟩
/-- What Read gives from a state on: the lengths, how many bits, the error. -/
def readF (c : Ts) : List Int → Nat → List Nat × Int × Int
  | [], _ => (zs, 0, 50)
  | b :: l, i => if b = 0 ∨ b = 1 then (if (nextF c b.toNat).2 then (if (nextF c b.toNat).1.sym = 258 then ((nextF c b.toNat).1.l, (i : Int) + 1, 0) else readF (nextF c b.toNat).1 l (i + 1)) else (zs, 0, 100)) else (zs, 0, 2)
theorem u8s_refs (l : List Nat) : (u8s l).flatMap refsC = [] := by
  rw [List.flatMap_eq_nil_iff]
  intro v hv
  obtain ⟨n, _, rfl⟩ := List.mem_map.1 hv
  rfl
theorem nextF_len {c : Ts} (h : c.l.length = 258) (b : Nat) : (nextF c b).1.l.length = 258 := by
  unfold nextF
  split
  · exact h
  · split
    · split
      · show (c.l.set _ _).length = 258
        rw [List.length_set]; exact h
      · exact h
    · split
      · exact h
      · exact h
theorem nextF_sym {c : Ts} (h : c.sym < 258) (b : Nat) : (nextF c b).1.sym ≤ 258 := by
  unfold nextF
  split
  · exact Int.le_of_lt h
  · split
    · split
      · show c.sym + 1 ≤ 258
        omega
      · exact Int.le_of_lt h
    · split
      · exact Int.le_of_lt h
      · exact Int.le_of_lt h
def ReadEnd (n : Nat) (q : List Nat × Int × Int) (ex : Ex) (fr : Fr) (nx : List Blk) : Prop :=
  fr.get 2 = some (.pointer (some ⟨n, 0, some 0⟩)) ∧ ((ex = .ret ∧ q.1.length = 258 ∧ nx[0]? = some (.cells 0 true (u8s q.1)) ∧ fr.get 3 = some (.int .i64 q.2.1) ∧ fr.get 4 = some (.int .i64 q.2.2)) ∨ (ex = .exit 0 ∧ nx[0]? = some (.cells 0 true (u8s zs)) ∧ q = (zs, 0, 50)))
theorem ReadEnd.ret {n : Nat} {l : List Nat} {x y : Int} {fr : Fr} {b : Blk} {nx : List Blk} (h : fr.get 2 = some (.pointer (some ⟨n, 0, some 0⟩))) (hl : l.length = 258) (hb : b = .cells 0 true (u8s l)) (h3 : fr.get 3 = some (.int .i64 x)) (h4 : fr.get 4 = some (.int .i64 y)) : ReadEnd n (l, x, y) .ret fr (b :: nx) :=
  ⟨h, .inl ⟨rfl, hl, by rw [hb]; rfl, h3, h4⟩⟩
theorem ReadEnd.out {n : Nat} {fr : Fr} {b : Blk} {nx : List Blk} (h : fr.get 2 = some (.pointer (some ⟨n, 0, some 0⟩))) (hb : b = .cells 0 true (u8s zs)) : ReadEnd n (zs, 0, 50) (.exit 0) fr (b :: nx) :=
  ⟨h, .inr ⟨rfl, by rw [hb]; rfl, rfl⟩⟩
theorem read_loop {v : Value} {l : List Int} (R : RdI hp H v l) (hl : l.length ≤ 9223372036854775806) (hF : Fit hp.length L H) : ∀ (rest : List Int) (i : Nat) (c : Ts), l.drop i = rest → i ≤ l.length → TsOk c →
    ∃ ex fr nx, Liter env lb13_0 [10, 11, 12, 5, 2] (hp.length + 2) [(10, v), (11, .int .i64 l.length), (12, .int .i64 i), (5, .pointer (some ⟨hp.length + 1, 0, some 0⟩)), (2, .pointer (some ⟨hp.length, 0, some 0⟩))] ⟨hp ++ [.cells 0 true (u8s zs), .cells 0 true (tsC c)], L, H, []⟩
      = some (ex, fr, ⟨hp ++ nx, L, H, []⟩) ∧ ReadEnd hp.length (readF c rest i) ex fr nx
  | [], i, c, hd, hi, o => by
    have e1 : i = l.length := by have := congrArg List.length hd; simp at this; omega
    subst e1
    rw [iter_by lb13_0.eq_1]
    simp (disch := (first | omega | (simp only [lnE] <;> omega) | (refine Fit.mono ‹Fit _ _ _› ?_ <;> (simp only [lnE] <;> omega)) | (refine Fit.draw ‹Fit _ _ _› ?_ ?_ <;> (simp only [lnE] <;> omega)) | (refine Fit.hid1 ‹Fit _ _ _› ?_ ?_ <;> (simp only [lnE] <;> omega)) | (refine Fit.hidc1 ‹Fit _ _ _› ?_ ?_ <;> (simp only [lnE] <;> omega)) | (refine Fit.hidc2 ‹Fit _ _ _› ?_ ?_ ?_ <;> (simp only [lnE] <;> omega)) | (refine Fit.draw1 ‹Fit _ _ _› ?_ ?_ ?_ <;> (simp only [lnE] <;> omega)) | (refine Fit.range0 ?_ ?_ <;> (simp only [lnE] <;> omega)) | fail)) only [syA, syB, argFr, D, E, T, C, undefv, eqF, aeq, sheqs, sheq, rdCells, cellsOf, fill, putAt, if_true, if_false, reduceIte, ↓reduceIte, reduceCtorEq, eq_self, Nat.reduceEqDiff, Nat.reduceAdd, Nat.reduceSub, Nat.reduceMul, Nat.reduceLT, Nat.reduceLeDiff, Nat.reducePow, Nat.reduceDiv, Nat.reduceMod, Int.reduceLT, Int.reduceLE, Int.reduceGT, Int.reduceGE, Int.reduceToNat, Int.reducePow, Int.reduceNeg, Int.reduceBEq, Int.reduceBNe, Int.reduceEq, Int.reduceAdd, Int.reduceSub, Int.reduceMul, cellv, sc, flatv, refs, refsF, refsC, hF.not0, hF.not1, hF.up0, hF.up1]
    exact ⟨_, _, _, rfl, ReadEnd.out rfl rfl⟩
  | b :: rest, i, c, hd, hi, o => by
    have hil : i < l.length := by have := congrArg List.length hd; simp at this; omega
    have hli : l[i] = b := by have := List.drop_eq_getElem_cons hil; rw [hd] at this; exact (List.cons.inj this).1.symm
    have hlr : l.drop (i + 1) = rest := by have := List.drop_eq_getElem_cons hil; rw [hd] at this; exact (List.cons.inj this).2.symm
    obtain ⟨p, e', hv⟩ := R.len
    subst hv
    obtain ⟨bb, oo, g, pl, cs, rfl, hh, hb, hcell⟩ := R.at_ hil
    rw [hli] at hcell
    have hbl := (List.getElem?_eq_some_iff.1 hb).1
    have h1 : (i : Int) < (l.length : Nat) := by omega
    have h0 : (0 : Int) ≤ (i : Int) := by omega
    have hz := zs_length
    have hzq := zs_eq
    have htk : (u8s zs).take 258 = u8s zs := List.take_of_length_le (by rw [u8s_length, hz]; omega)
    have hpz : putAt (u8s zs) 0 (u8s zs) = u8s zs := putAt_full rfl
    have hfd : b.fdiv 2 = b / 2 := fdiv_pos _ (by decide)
    have h21 : (2 : Int) ^ (1 : Nat) = 2 := rfl
    rw [iter_by lb13_0.eq_1]
    by_cases hb01 : b = 0 ∨ b = 1
    · have hq : ¬ ¬ b / 2 = 0 := by omega
      have hq' : b / 2 = 0 := by omega
      have ho := o.len
      obtain ⟨bn, hbn⟩ : ∃ bn : Nat, b = (bn : Nat) := ⟨b.toNat, by omega⟩
      subst hbn
      have hnx := fun hp L H d hF => next_walk (hp := hp) (L := L) (H := H) (d := d) o (b := bn) (by omega) hF
      have hln := nextF_len o.len bn
      have hsy := nextF_sym o.sym1 bn
      have hrd : readF c ((bn : Int) :: rest) i = if (nextF c bn).2 then (if (nextF c bn).1.sym = 258 then ((nextF c bn).1.l, (i : Int) + 1, 0) else readF (nextF c bn).1 rest (i + 1)) else (zs, 0, 100) := by
        rw [readF, if_pos hb01, Int.toNat_natCast]
      rw [hrd]
      have hok := fun h1 h2 => nextF_ok o (b := bn) (by omega) h1 h2
      obtain ⟨c2, hc2⟩ : ∃ c2, c2 = (nextF c bn).1 := ⟨_, rfl⟩
      rw [← hc2] at hnx hln hsy hok ⊢
      have pz : putAt (tsC z0) 0 (tsC c2) = tsC c2 := putAt_full (by rw [tsC_length hln, tsC_length (c := z0) hz])
      have pc : putAt (tsC c) 0 (tsC c2) = tsC c2 := putAt_full (by rw [tsC_length hln, tsC_length ho])
      have lz : (tsC z0).length = 262 := tsC_length (c := z0) hz
      have ty := tsC_sym hln
      have tl := tsC_lens hln
      cases hf : (nextF c bn).2 with
      | false =>
        rw [hf] at hnx
        rw [if_neg (by simp)]
        simp (disch := (first | omega | (simp only [lnE] <;> omega) | (refine Fit.mono ‹Fit _ _ _› ?_ <;> (simp only [lnE] <;> omega)) | (refine Fit.draw ‹Fit _ _ _› ?_ ?_ <;> (simp only [lnE] <;> omega)) | (refine Fit.hid1 ‹Fit _ _ _› ?_ ?_ <;> (simp only [lnE] <;> omega)) | (refine Fit.hidc1 ‹Fit _ _ _› ?_ ?_ <;> (simp only [lnE] <;> omega)) | (refine Fit.hidc2 ‹Fit _ _ _› ?_ ?_ ?_ <;> (simp only [lnE] <;> omega)) | (refine Fit.draw1 ‹Fit _ _ _› ?_ ?_ ?_ <;> (simp only [lnE] <;> omega)) | (refine Fit.range0 ?_ ?_ <;> (simp only [lnE] <;> omega)) | fail)) only [syA, syB, argFr, D, E, T, C, undefv, eqF, aeq, sheqs, sheq, rdCells, cellsOf, fill, putAt, if_true, if_false, reduceIte, ↓reduceIte, reduceCtorEq, eq_self, Nat.reduceEqDiff, Nat.reduceAdd, Nat.reduceSub, Nat.reduceMul, Nat.reduceLT, Nat.reduceLeDiff, Nat.reducePow, Nat.reduceDiv, Nat.reduceMod, Int.reduceLT, Int.reduceLE, Int.reduceGT, Int.reduceGE, Int.reduceToNat, Int.reducePow, Int.reduceNeg, Int.reduceBEq, Int.reduceBNe, Int.reduceEq, Int.reduceAdd, Int.reduceSub, Int.reduceMul, cellv, sc, flatv, refs, refsF, refsC, hF.not0, hF.not1, hF.up0, hF.up1, h0, h1, hh, hb, hcell, h21, hfd, hq', hnx, z0_eq, tsC_refs, tsC_cellv, tsC_sc, tsC_take ho, tsC_take hln, tsC_length hln, tsC_length ho, lz, pz, pc, u8s_cellv, u8s_scs, htk, hz, hpz]
        exact ⟨_, _, _, rfl, ReadEnd.ret rfl hz rfl rfl rfl⟩
      | true =>
        rw [hf] at hnx hok
        rw [if_pos rfl]
        by_cases hs : c2.sym = 258
        · rw [if_pos hs]
          rw [hs] at ty
          have pl2 : putAt (u8s zs) 0 (u8s c2.l) = u8s c2.l := putAt_full (by rw [u8s_length, u8s_length, hz, hln])
          simp (disch := (first | omega | (simp only [lnE] <;> omega) | (refine Fit.mono ‹Fit _ _ _› ?_ <;> (simp only [lnE] <;> omega)) | (refine Fit.draw ‹Fit _ _ _› ?_ ?_ <;> (simp only [lnE] <;> omega)) | (refine Fit.hid1 ‹Fit _ _ _› ?_ ?_ <;> (simp only [lnE] <;> omega)) | (refine Fit.hidc1 ‹Fit _ _ _› ?_ ?_ <;> (simp only [lnE] <;> omega)) | (refine Fit.hidc2 ‹Fit _ _ _› ?_ ?_ ?_ <;> (simp only [lnE] <;> omega)) | (refine Fit.draw1 ‹Fit _ _ _› ?_ ?_ ?_ <;> (simp only [lnE] <;> omega)) | (refine Fit.range0 ?_ ?_ <;> (simp only [lnE] <;> omega)) | fail)) only [syA, syB, argFr, D, E, T, C, undefv, eqF, aeq, sheqs, sheq, rdCells, cellsOf, fill, putAt, if_true, if_false, reduceIte, ↓reduceIte, reduceCtorEq, eq_self, Nat.reduceEqDiff, Nat.reduceAdd, Nat.reduceSub, Nat.reduceMul, Nat.reduceLT, Nat.reduceLeDiff, Nat.reducePow, Nat.reduceDiv, Nat.reduceMod, Int.reduceLT, Int.reduceLE, Int.reduceGT, Int.reduceGE, Int.reduceToNat, Int.reducePow, Int.reduceNeg, Int.reduceBEq, Int.reduceBNe, Int.reduceEq, Int.reduceAdd, Int.reduceSub, Int.reduceMul, cellv, sc, flatv, refs, refsF, refsC, hF.not0, hF.not1, hF.up0, hF.up1, h0, h1, hh, hb, hcell, h21, hfd, hq', hnx, z0_eq, tsC_refs, tsC_cellv, tsC_sc, tsC_take ho, tsC_take hln, tsC_length hln, tsC_length ho, lz, pz, pc, u8s_cellv, u8s_scs, htk, hz, hln, hpz, ty, tl, pl2]
          exact ⟨_, _, _, rfl, ReadEnd.ret rfl hln rfl rfl rfl⟩
        · rw [if_neg hs]
          have hs' : ¬ c2.sym = 258 := hs
          obtain ⟨ex, fr, nx, e1, e2⟩ := read_loop R hl hF rest (i + 1) c2 hlr (by omega) (hok rfl (by omega))
          simp only [Int.natCast_add, Int.natCast_one] at e1
          simp (disch := (first | omega | (simp only [lnE] <;> omega) | (refine Fit.mono ‹Fit _ _ _› ?_ <;> (simp only [lnE] <;> omega)) | (refine Fit.draw ‹Fit _ _ _› ?_ ?_ <;> (simp only [lnE] <;> omega)) | (refine Fit.hid1 ‹Fit _ _ _› ?_ ?_ <;> (simp only [lnE] <;> omega)) | (refine Fit.hidc1 ‹Fit _ _ _› ?_ ?_ <;> (simp only [lnE] <;> omega)) | (refine Fit.hidc2 ‹Fit _ _ _› ?_ ?_ ?_ <;> (simp only [lnE] <;> omega)) | (refine Fit.draw1 ‹Fit _ _ _› ?_ ?_ ?_ <;> (simp only [lnE] <;> omega)) | (refine Fit.range0 ?_ ?_ <;> (simp only [lnE] <;> omega)) | fail)) only [syA, syB, argFr, D, E, T, C, undefv, eqF, aeq, sheqs, sheq, rdCells, cellsOf, fill, putAt, if_true, if_false, reduceIte, ↓reduceIte, reduceCtorEq, eq_self, Nat.reduceEqDiff, Nat.reduceAdd, Nat.reduceSub, Nat.reduceMul, Nat.reduceLT, Nat.reduceLeDiff, Nat.reducePow, Nat.reduceDiv, Nat.reduceMod, Int.reduceLT, Int.reduceLE, Int.reduceGT, Int.reduceGE, Int.reduceToNat, Int.reducePow, Int.reduceNeg, Int.reduceBEq, Int.reduceBNe, Int.reduceEq, Int.reduceAdd, Int.reduceSub, Int.reduceMul, cellv, sc, flatv, refs, refsF, refsC, hF.not0, hF.not1, hF.up0, hF.up1, h0, h1, hh, hb, hcell, h21, hfd, hq', hnx, z0_eq, tsC_refs, tsC_cellv, tsC_sc, tsC_take ho, tsC_take hln, tsC_length hln, tsC_length ho, lz, pz, pc, u8s_cellv, u8s_scs, htk, hz, hln, hpz, ty, tl, hs']
          rw [gcFr_cut 2 (by simp) (by
            intro p hp' r hr
            simp only [List.mem_cons, List.not_mem_nil, or_false] at hp'
            rcases hp' with rfl | rfl | rfl | rfl | rfl
            · simp [refs, refsF, refsC] at hr; omega
            · simp [refs, refsF, refsC] at hr
            · simp [refs, refsF, refsC] at hr
            · simp [refs, refsF, refsC] at hr; omega
            · simp [refs, refsF, refsC] at hr; omega)]
          simp only [List.take_succ_cons, List.take_zero, againX_some]
          exact ⟨ex, fr, nx, e1, e2⟩
    · have hq' : ¬ b / 2 = 0 := by omega
      have hrd : readF c (b :: rest) i = (zs, 0, 2) := by rw [readF, if_neg hb01]
      rw [hrd]
      simp (disch := (first | omega | (simp only [lnE] <;> omega) | (refine Fit.mono ‹Fit _ _ _› ?_ <;> (simp only [lnE] <;> omega)) | (refine Fit.draw ‹Fit _ _ _› ?_ ?_ <;> (simp only [lnE] <;> omega)) | (refine Fit.hid1 ‹Fit _ _ _› ?_ ?_ <;> (simp only [lnE] <;> omega)) | (refine Fit.hidc1 ‹Fit _ _ _› ?_ ?_ <;> (simp only [lnE] <;> omega)) | (refine Fit.hidc2 ‹Fit _ _ _› ?_ ?_ ?_ <;> (simp only [lnE] <;> omega)) | (refine Fit.draw1 ‹Fit _ _ _› ?_ ?_ ?_ <;> (simp only [lnE] <;> omega)) | (refine Fit.range0 ?_ ?_ <;> (simp only [lnE] <;> omega)) | fail)) only [syA, syB, argFr, D, E, T, C, undefv, eqF, aeq, sheqs, sheq, rdCells, cellsOf, fill, putAt, if_true, if_false, reduceIte, ↓reduceIte, reduceCtorEq, eq_self, Nat.reduceEqDiff, Nat.reduceAdd, Nat.reduceSub, Nat.reduceMul, Nat.reduceLT, Nat.reduceLeDiff, Nat.reducePow, Nat.reduceDiv, Nat.reduceMod, Int.reduceLT, Int.reduceLE, Int.reduceGT, Int.reduceGE, Int.reduceToNat, Int.reducePow, Int.reduceNeg, Int.reduceBEq, Int.reduceBNe, Int.reduceEq, Int.reduceAdd, Int.reduceSub, Int.reduceMul, cellv, sc, flatv, refs, refsF, refsC, hF.not0, hF.not1, hF.up0, hF.up1, h0, h1, hh, hb, hcell, h21, hfd, hq', u8s_cellv, u8s_scs, htk, hz, hpz]
      exact ⟨_, _, _, rfl, ReadEnd.ret rfl hz rfl rfl rfl⟩
theorem z0_ok : TsOk z0 := ⟨zs_length, fun x hx => by rw [List.eq_of_mem_replicate hx]; decide, by decide, by decide, by decide, by decide, by decide, by decide, fun _ => by decide⟩
theorem read_walk {v : Value} {l : List Int} (R : RdI hp H v l) (hl : l.length ≤ 9223372036854775806) (hF : Fit hp.length L H) :
    Lrun env (.func 13) [v] ⟨hp, L, H, d⟩ = some (.tuple #[.agg (u8s (readF z0 l 0).1).toArray, .int .i64 (readF z0 l 0).2.1, .int .i64 (readF z0 l 0).2.2], ⟨hp, L, H, d⟩) := by
  rw [Lrun_sym 13 _ _ fn13]
  obtain ⟨ex, fr, nx, e1, e2, e3⟩ := read_loop R hl hF l 0 z0 rfl (by omega) z0_ok
  simp only [Int.natCast_zero] at e1
  have hz := zs_length
  have hzq := zs_eq
  have htk : (u8s zs).take 258 = u8s zs := List.take_of_length_le (by rw [u8s_length, hz]; omega)
  have hpz : putAt (u8s zs) 0 (u8s zs) = u8s zs := putAt_full rfl
  have z0q : u8s zs ++ [.int .i64 0, .int .i64 0, .int .i64 0, .int .i64 0] = tsC z0 := rfl
  obtain ⟨p, e', rfl⟩ := R.len
  generalize readF z0 l 0 = q at *
  rcases e3 with ⟨rfl, h1, h2, h3, h4⟩ | ⟨rfl, h2, h3⟩
  · obtain ⟨b, nx', rfl⟩ : ∃ b nx', nx = b :: nx' := by
      cases nx with
      | nil => cases h2
      | cons b nx' => exact ⟨b, nx', rfl⟩
    simp only [List.getElem?_cons_zero, Option.some.injEq] at h2
    subst h2
    have htq : (u8s q.1).take 258 = u8s q.1 := List.take_of_length_le (by rw [u8s_length, h1]; omega)
    have hq258 : (258 ≤ q.1.length) = True := eq_true (by omega)
    simp (disch := (first | omega | (simp only [lnE] <;> omega) | (refine Fit.mono ‹Fit _ _ _› ?_ <;> (simp only [lnE] <;> omega)) | (refine Fit.draw ‹Fit _ _ _› ?_ ?_ <;> (simp only [lnE] <;> omega)) | (refine Fit.hid1 ‹Fit _ _ _› ?_ ?_ <;> (simp only [lnE] <;> omega)) | (refine Fit.hidc1 ‹Fit _ _ _› ?_ ?_ <;> (simp only [lnE] <;> omega)) | (refine Fit.hidc2 ‹Fit _ _ _› ?_ ?_ ?_ <;> (simp only [lnE] <;> omega)) | (refine Fit.draw1 ‹Fit _ _ _› ?_ ?_ ?_ <;> (simp only [lnE] <;> omega)) | (refine Fit.range0 ?_ ?_ <;> (simp only [lnE] <;> omega)) | fail)) only [syA, syB, argFr, D, E, T, C, undefv, eqF, aeq, sheqs, sheq, rdCells, cellsOf, fill, putAt, if_true, if_false, reduceIte, ↓reduceIte, reduceCtorEq, eq_self, Nat.reduceEqDiff, Nat.reduceAdd, Nat.reduceSub, Nat.reduceMul, Nat.reduceLT, Nat.reduceLeDiff, Nat.reducePow, Nat.reduceDiv, Nat.reduceMod, Int.reduceLT, Int.reduceLE, Int.reduceGT, Int.reduceGE, Int.reduceToNat, Int.reducePow, Int.reduceNeg, Int.reduceBEq, Int.reduceBNe, Int.reduceEq, Int.reduceAdd, Int.reduceSub, Int.reduceMul, cellv, sc, flatv, refs, refsF, refsC, hF.not0, hF.not1, hF.up0, hF.up1, ac13, z0q, zs_eq, e1, e2, h3, h4, htq, h1, hq258, u8s_refs]
  · obtain ⟨b, nx', rfl⟩ : ∃ b nx', nx = b :: nx' := by
      cases nx with
      | nil => cases h2
      | cons b nx' => exact ⟨b, nx', rfl⟩
    simp only [List.getElem?_cons_zero, Option.some.injEq] at h2
    subst h2 h3
    simp (disch := (first | omega | (simp only [lnE] <;> omega) | (refine Fit.mono ‹Fit _ _ _› ?_ <;> (simp only [lnE] <;> omega)) | (refine Fit.draw ‹Fit _ _ _› ?_ ?_ <;> (simp only [lnE] <;> omega)) | (refine Fit.hid1 ‹Fit _ _ _› ?_ ?_ <;> (simp only [lnE] <;> omega)) | (refine Fit.hidc1 ‹Fit _ _ _› ?_ ?_ <;> (simp only [lnE] <;> omega)) | (refine Fit.hidc2 ‹Fit _ _ _› ?_ ?_ ?_ <;> (simp only [lnE] <;> omega)) | (refine Fit.draw1 ‹Fit _ _ _› ?_ ?_ ?_ <;> (simp only [lnE] <;> omega)) | (refine Fit.range0 ?_ ?_ <;> (simp only [lnE] <;> omega)) | fail)) only [syA, syB, argFr, D, E, T, C, undefv, eqF, aeq, sheqs, sheq, rdCells, cellsOf, fill, putAt, if_true, if_false, reduceIte, ↓reduceIte, reduceCtorEq, eq_self, Nat.reduceEqDiff, Nat.reduceAdd, Nat.reduceSub, Nat.reduceMul, Nat.reduceLT, Nat.reduceLeDiff, Nat.reducePow, Nat.reduceDiv, Nat.reduceMod, Int.reduceLT, Int.reduceLE, Int.reduceGT, Int.reduceGE, Int.reduceToNat, Int.reducePow, Int.reduceNeg, Int.reduceBEq, Int.reduceBNe, Int.reduceEq, Int.reduceAdd, Int.reduceSub, Int.reduceMul, cellv, sc, flatv, refs, refsF, refsC, hF.not0, hF.not1, hF.up0, hF.up1, ac13, z0q, zs_eq, e1, e2, u8s_cellv, u8s_scs, htk, hz, hpz, u8s_refs]
end LtA
end Go.Proofs.Ytlphmnhkkhcjfaa
end
