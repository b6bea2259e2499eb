/-
  LENGTH TABLES: the law of what was written. Conditions: none.
-/
import Derived.Test.YtlphmnhkkhcjfaaLtY
set_option linter.all false
section
namespace Go.Proofs.Ytlphmnhkkhcjfaa
namespace LtA
open Go Go.RowKit AM ArEnv Bt
variable {hp : List Blk} {L : Nat} {H d : List Nat}

theorem step_ok {c o : Ts} {i b : Nat} {r : List Nat} {e : Ts} (h : Come c i) (hb : b < 2) (ht : trail c (b :: r) = some e) : ∃ o, stepF c (b : Int) = (o, decide (o.sym = 258), 0) ∧ Come o (i + 1) ∧ trail o r = some e := by
  simp only [trail] at ht
  split at ht
  · rename_i hc
    refine ⟨(nextF c b).1, ?_, h.next hc.1 hb hc.2, ht⟩
    unfold stepF
    rw [if_pos ⟨h.vld, by omega, by omega⟩, Int.toNat_natCast, if_pos hc.2]
  · cases ht
theorem lback_loop {hq : List Blk} {A : List Nat} {eb lb : Nat} {fin : Ts} (hA : Bits A) (hE : hq[eb]? = some (.cells A.length true (is A))) (hH : H.contains eb = false) (hlb : lb < hq.length) (hAl : A.length ≤ 8002) (hfs : fin.sym = 258) (hF : Fit hq.length L H) : ∀ (k i : Nat) (c : Ts), i + k = A.length → Come c i → trail c (A.drop i) = some fin →
    ∃ fr, Liter env lb3_0 [15, 7, 3, 16] (hq.length + 1) [(15, .pointer (some ⟨hq.length, 0, some 0⟩)), (7, .slice (some ⟨eb, 0, some A.length⟩) A.length 1), (3, .pointer (some ⟨lb, 0, some 0⟩)), (16, .int .i64 i)] ⟨hq ++ [.cells 0 true (tsC c)], L, H, []⟩
      = some (.exit 0, fr, ⟨hq ++ [.cells 0 true (tsC fin)], L, H, []⟩) ∧ fr.get 15 = some (.pointer (some ⟨hq.length, 0, some 0⟩)) ∧ fr.get 3 = some (.pointer (some ⟨lb, 0, some 0⟩))
  | 0, i, c, hi, hc, ht => by
    obtain rfl : i = A.length := by omega
    rw [List.drop_length, trail] at ht
    simp only [Option.some.injEq] at ht
    subst ht
    rw [iter_by lb3_0.eq_1]
    simp (disch := (first | omega | (simp only [lnE] <;> omega) | (refine Fit.mono ‹Fit _ _ _› ?_ <;> (simp only [lnE] <;> omega)) | (refine Fit.draw ‹Fit _ _ _› ?_ ?_ <;> (simp only [lnE] <;> omega)) | (refine Fit.hid1 ‹Fit _ _ _› ?_ ?_ <;> (simp only [lnE] <;> omega)) | (refine Fit.hidc1 ‹Fit _ _ _› ?_ ?_ <;> (simp only [lnE] <;> omega)) | (refine Fit.hidc2 ‹Fit _ _ _› ?_ ?_ ?_ <;> (simp only [lnE] <;> omega)) | (refine Fit.draw1 ‹Fit _ _ _› ?_ ?_ ?_ <;> (simp only [lnE] <;> omega)) | (refine Fit.range0 ?_ ?_ <;> (simp only [lnE] <;> omega)) | fail)) only [syA, syB, argFr, D, E, T, C, undefv, eqF, aeq, sheqs, sheq, rdCells, cellsOf, fill, putAt, if_true, if_false, reduceIte, ↓reduceIte, reduceCtorEq, eq_self, Nat.reduceEqDiff, Nat.reduceAdd, Nat.reduceSub, Nat.reduceMul, Nat.reduceLT, Nat.reduceLeDiff, Nat.reducePow, Nat.reduceDiv, Nat.reduceMod, Int.reduceLT, Int.reduceLE, Int.reduceGT, Int.reduceGE, Int.reduceToNat, Int.reducePow, Int.reduceNeg, Int.reduceBEq, Int.reduceBNe, Int.reduceEq, Int.reduceAdd, Int.reduceSub, Int.reduceMul, cellv, sc, flatv, refs, refsF, refsC, hF.not0, hF.not1, hF.up0, hF.up1]
    exact ⟨_, rfl, rfl, rfl⟩
  | k + 1, i, c, hi, hc, ht => by
    have hil : i < A.length := by omega
    have i1 : (i : Int) < (A.length : Nat) := by omega
    have i0 : (0 : Int) ≤ (i : Int) := by omega
    have hel := (List.getElem?_eq_some_iff.1 hE).1
    rw [List.drop_eq_getElem_cons hil] at ht
    have hb2 := hA A[i] (List.getElem_mem hil)
    obtain ⟨o, h1, h2, h3⟩ := step_ok (o := c) hc hb2 ht
    have hG := hc.gs (by omega)
    have hS := fun hp L H d hF => step_walk (hp := hp) (L := L) (H := H) (d := d) hG (bit := A[i]) hF
    simp only [h1] at hS
    have hlc := hc.len
    have hlo := h2.len
    have hz := zs_length
    have lz : (tsC z0).length = 262 := tsC_length (c := z0) hz
    have z0q : u8s zs ++ [.int .i64 0, .int .i64 0, .int .i64 0, .int .i64 0] = tsC z0 := rfl
    have po : putAt (tsC z0) 0 (tsC o) = tsC o := putAt_full (by rw [lz, tsC_length hlo])
    have po2 : putAt (tsC c) 0 (tsC o) = tsC o := putAt_full (by rw [tsC_length hlc, tsC_length hlo])
    have hcell : (is A)[i]? = some (.int .i64 (A[i] : Nat)) := by simp [is, hil]
    have hdone : decide (o.sym = 258) = decide ((i : Int) = (A.length : Nat) - 1) := by
      rw [decide_eq_decide]
      by_cases e : i + 1 = A.length
      · rw [e, List.drop_length, trail] at h3
        simp only [Option.some.injEq] at h3
        subst h3
        exact ⟨fun _ => by omega, fun _ => hfs⟩
      · rw [List.drop_eq_getElem_cons (by omega)] at h3
        simp only [trail] at h3
        split at h3
        · rename_i hh
          exact ⟨fun h => by omega, fun h => by omega⟩
        · cases h3
    rw [hdone] at hS
    have hbq : ((i : Int) == (A.length : Nat) - 1) = decide ((i : Int) = (A.length : Nat) - 1) := int_beq _ _
    obtain ⟨fr, f1, f2⟩ := lback_loop hA hE hH hlb hAl hfs hF k (i + 1) o (by omega) h2 h3
    simp only [Int.natCast_add, Int.natCast_one] at f1
    rw [iter_by lb3_0.eq_1]
    simp (disch := (first | omega | (simp only [lnE] <;> omega) | (refine Fit.mono ‹Fit _ _ _› ?_ <;> (simp only [lnE] <;> omega)) | (refine Fit.draw ‹Fit _ _ _› ?_ ?_ <;> (simp only [lnE] <;> omega)) | (refine Fit.hid1 ‹Fit _ _ _› ?_ ?_ <;> (simp only [lnE] <;> omega)) | (refine Fit.hidc1 ‹Fit _ _ _› ?_ ?_ <;> (simp only [lnE] <;> omega)) | (refine Fit.hidc2 ‹Fit _ _ _› ?_ ?_ ?_ <;> (simp only [lnE] <;> omega)) | (refine Fit.draw1 ‹Fit _ _ _› ?_ ?_ ?_ <;> (simp only [lnE] <;> omega)) | (refine Fit.range0 ?_ ?_ <;> (simp only [lnE] <;> omega)) | fail)) only [syA, syB, argFr, D, E, T, C, undefv, eqF, aeq, sheqs, sheq, rdCells, cellsOf, fill, putAt, if_true, if_false, reduceIte, ↓reduceIte, reduceCtorEq, eq_self, Nat.reduceEqDiff, Nat.reduceAdd, Nat.reduceSub, Nat.reduceMul, Nat.reduceLT, Nat.reduceLeDiff, Nat.reducePow, Nat.reduceDiv, Nat.reduceMod, Int.reduceLT, Int.reduceLE, Int.reduceGT, Int.reduceGE, Int.reduceToNat, Int.reducePow, Int.reduceNeg, Int.reduceBEq, Int.reduceBNe, Int.reduceEq, Int.reduceAdd, Int.reduceSub, Int.reduceMul, cellv, sc, flatv, refs, refsF, refsC, hF.not0, hF.not1, hF.up0, hF.up1, i0, i1, hE, hH, hcell, hS, zs_eq, z0q, lz, po, po2, tsC_take hlc, tsC_length hlc, tsC_take hlo, tsC_length hlo, tsC_refs, tsC_cellv, tsC_sc, hbq]
    rw [gcFr_cut 1 (by simp) (by
      intro p hp' r hr
      simp only [List.mem_cons, List.not_mem_nil, or_false] at hp'
      rcases hp' with rfl | rfl | rfl | rfl
      · simp [refs, refsF, refsC] at hr; omega
      · simp [refs, refsF, refsC] at hr; omega
      · simp [refs, refsF, refsC] at hr; omega
      · simp [refs, refsF, refsC] at hr)]
    simp only [List.take_succ_cons, List.take_zero, againX_some]
    exact ⟨fr, f1, f2⟩
theorem lback_bad {x : List Nat} {l : List Int} {v : Value} {less : Int} (hx : x.length = 258) (hx8 : By x) (R : RdI hp [] v l) (ht : kTable x = false) :
    ∃ σ', Lrun env (.func 3) [.agg (u8s x).toArray, v, .int .i64 less] ⟨hp, hp.length, [], []⟩ = some (.bool true, σ') := by
  rw [Lrun_sym 3 _ _ fn3]
  have hF : Fit hp.length hp.length [] := ⟨Nat.le_refl _, Low.nil _⟩
  have hW := fun hp L H d hF => wakes10 (hp := hp) (L := L) (H := H) (d := d) hF
  obtain ⟨p, e', rfl⟩ := R.len
  have htx : (u8s x).take 258 = u8s x := take258 hx
  have hO := fun hp L H d hF => of_bad (hp := hp) (L := L) (H := H) (d := d) hx hx8 ht hF
  have hT := fun hp L H d hF => rtable_walk (hp := hp) (L := L) (H := H) (d := d) hx hx8 hF
  rw [ht] at hT
  by_cases c1 : (l.length : Int) > 60
  · simp (disch := (first | omega | (simp only [lnE] <;> omega) | (refine Fit.mono ‹Fit _ _ _› ?_ <;> (simp only [lnE] <;> omega)) | (refine Fit.draw ‹Fit _ _ _› ?_ ?_ <;> (simp only [lnE] <;> omega)) | (refine Fit.hid1 ‹Fit _ _ _› ?_ ?_ <;> (simp only [lnE] <;> omega)) | (refine Fit.hidc1 ‹Fit _ _ _› ?_ ?_ <;> (simp only [lnE] <;> omega)) | (refine Fit.hidc2 ‹Fit _ _ _› ?_ ?_ ?_ <;> (simp only [lnE] <;> omega)) | (refine Fit.draw1 ‹Fit _ _ _› ?_ ?_ ?_ <;> (simp only [lnE] <;> omega)) | (refine Fit.range0 ?_ ?_ <;> (simp only [lnE] <;> omega)) | fail)) only [syA, syB, argFr, D, E, T, C, undefv, eqF, aeq, sheqs, sheq, rdCells, cellsOf, fill, putAt, if_true, if_false, reduceIte, ↓reduceIte, reduceCtorEq, eq_self, Nat.reduceEqDiff, Nat.reduceAdd, Nat.reduceSub, Nat.reduceMul, Nat.reduceLT, Nat.reduceLeDiff, Nat.reducePow, Nat.reduceDiv, Nat.reduceMod, Int.reduceLT, Int.reduceLE, Int.reduceGT, Int.reduceGE, Int.reduceToNat, Int.reducePow, Int.reduceNeg, Int.reduceBEq, Int.reduceBNe, Int.reduceEq, Int.reduceAdd, Int.reduceSub, Int.reduceMul, cellv, sc, flatv, refs, refsF, refsC, hF.not0, hF.not1, hF.up0, hF.up1, ac3, hW, c1, hx, htx, le258 hx, u8s_cellv, u8s_scs]
    exact ⟨_, rfl⟩
  · simp (disch := (first | omega | (simp only [lnE] <;> omega) | (refine Fit.mono ‹Fit _ _ _› ?_ <;> (simp only [lnE] <;> omega)) | (refine Fit.draw ‹Fit _ _ _› ?_ ?_ <;> (simp only [lnE] <;> omega)) | (refine Fit.hid1 ‹Fit _ _ _› ?_ ?_ <;> (simp only [lnE] <;> omega)) | (refine Fit.hidc1 ‹Fit _ _ _› ?_ ?_ <;> (simp only [lnE] <;> omega)) | (refine Fit.hidc2 ‹Fit _ _ _› ?_ ?_ ?_ <;> (simp only [lnE] <;> omega)) | (refine Fit.draw1 ‹Fit _ _ _› ?_ ?_ ?_ <;> (simp only [lnE] <;> omega)) | (refine Fit.range0 ?_ ?_ <;> (simp only [lnE] <;> omega)) | fail)) only [syA, syB, argFr, D, E, T, C, undefv, eqF, aeq, sheqs, sheq, rdCells, cellsOf, fill, putAt, if_true, if_false, reduceIte, ↓reduceIte, reduceCtorEq, eq_self, Nat.reduceEqDiff, Nat.reduceAdd, Nat.reduceSub, Nat.reduceMul, Nat.reduceLT, Nat.reduceLeDiff, Nat.reducePow, Nat.reduceDiv, Nat.reduceMod, Int.reduceLT, Int.reduceLE, Int.reduceGT, Int.reduceGE, Int.reduceToNat, Int.reducePow, Int.reduceNeg, Int.reduceBEq, Int.reduceBNe, Int.reduceEq, Int.reduceAdd, Int.reduceSub, Int.reduceMul, cellv, sc, flatv, refs, refsF, refsC, hF.not0, hF.not1, hF.up0, hF.up1, ac3, hW, c1, hx, htx, le258 hx, u8s_cellv, u8s_scs, hO, hT]
    exact ⟨_, rfl⟩
theorem ints_cellv (l : List Int) : (l.map (Value.int .i64)).all cellv = true := by simp [cellv, sc]
theorem ints_scv (l : List Int) : (l.map (Value.int .i64)).all sc = true := by simp [sc]
/-- Numbers behind bits. -/
theorem app_ints {b : Nat} {A : List Nat} {l : List Int} (hb : hp[b]? = some (.cells A.length true (is A))) (hL : L ≤ b) (hh : H.contains b = false) (h0 : l.length ≠ 0) (hs : A.length + l.length ≤ 1048576) :
    St.append ⟨hp, L, H, d⟩ true 1 (.slice (some ⟨b, 0, some A.length⟩) A.length 1) l.length (l.map (Value.int .i64)) = some (.slice (some ⟨b, 0, some (A.length + l.length)⟩) (A.length + l.length) 1, ⟨hp.set b (.cells (A.length + l.length) true (is A ++ l.map (Value.int .i64))), L, H, d⟩) := by
  have hsm : small (A.length + l.length) = true := by simp [small, hs]
  have hbl : St.blk ⟨hp, L, H, d⟩ ⟨b, 0, some A.length⟩ = some (true, is A) := by unfold St.blk; rw [hh, hb]; simp
  have h1 : ¬ b < L := by omega
  have lA : (is A).length = A.length := is_length A
  unfold St.append
  simp only [h0, if_false, h1, decide_false, Bool.false_or, ne_eq, not_true_eq_false, Bool.false_eq_true, hbl, Option.bind_some, ints_cellv, ints_scv, Bool.or_true, Bool.and_self, if_true, Nat.mul_one, Nat.zero_add, lA, hsm, Bool.and_true, decide_true, addDirty, Bool.true_or]
theorem lback_good {x : List Nat} {l : List Int} {v : Value} {less : Int} (hx : x.length = 258) (hx8 : By x) (R : (v = .slice none 0 0 ∧ l = []) ∨ ∃ b, v = .slice (some ⟨b, 0, some 0⟩) l.length 0 ∧ hp[b]? = some (.cells 0 true (l.map (Value.int .i64)))) (ht : kTable x = true) :
    ∃ σ', Lrun env (.func 3) [.agg (u8s x).toArray, v, .int .i64 less] ⟨hp, hp.length, [], []⟩ = some (.bool true, σ') := by
  rw [Lrun_sym 3 _ _ fn3]
  have hF : Fit hp.length hp.length [] := ⟨Nat.le_refl _, Low.nil _⟩
  have hW := fun hp L H d hF => wakes10 (hp := hp) (L := L) (H := H) (d := d) hF
  have htx : (u8s x).take 258 = u8s x := take258 hx
  by_cases c1 : (l.length : Int) > 60
  · rcases R with ⟨rfl, rfl⟩ | ⟨b, rfl, hb⟩
    · simp at c1
    · simp (disch := (first | omega | (simp only [lnE] <;> omega) | (refine Fit.mono ‹Fit _ _ _› ?_ <;> (simp only [lnE] <;> omega)) | (refine Fit.draw ‹Fit _ _ _› ?_ ?_ <;> (simp only [lnE] <;> omega)) | (refine Fit.hid1 ‹Fit _ _ _› ?_ ?_ <;> (simp only [lnE] <;> omega)) | (refine Fit.hidc1 ‹Fit _ _ _› ?_ ?_ <;> (simp only [lnE] <;> omega)) | (refine Fit.hidc2 ‹Fit _ _ _› ?_ ?_ ?_ <;> (simp only [lnE] <;> omega)) | (refine Fit.draw1 ‹Fit _ _ _› ?_ ?_ ?_ <;> (simp only [lnE] <;> omega)) | (refine Fit.range0 ?_ ?_ <;> (simp only [lnE] <;> omega)) | fail)) only [syA, syB, argFr, D, E, T, C, undefv, eqF, aeq, sheqs, sheq, rdCells, cellsOf, fill, putAt, if_true, if_false, reduceIte, ↓reduceIte, reduceCtorEq, eq_self, Nat.reduceEqDiff, Nat.reduceAdd, Nat.reduceSub, Nat.reduceMul, Nat.reduceLT, Nat.reduceLeDiff, Nat.reducePow, Nat.reduceDiv, Nat.reduceMod, Int.reduceLT, Int.reduceLE, Int.reduceGT, Int.reduceGE, Int.reduceToNat, Int.reducePow, Int.reduceNeg, Int.reduceBEq, Int.reduceBNe, Int.reduceEq, Int.reduceAdd, Int.reduceSub, Int.reduceMul, cellv, sc, flatv, refs, refsF, refsC, hF.not0, hF.not1, hF.up0, hF.up1, ac3, hW, c1, hx, htx, le258 hx, u8s_cellv, u8s_scs]
      exact ⟨_, rfl⟩
  have hEg := encF_ge x
  have hEl := encF_length (table_le ht)
  have hEn : (encF x).length ≠ 0 := by omega
  have hO := fun hp L H d hF => of_good (hp := hp) (L := L) (H := H) (d := d) hx hx8 ht hF
  have eI : ∀ j, slI j (encF x) = .slice (some ⟨j, 0, some (encF x).length⟩) (encF x).length 1 := fun j => if_neg hEn
  have eB : slIB (encF x) = [.cells (encF x).length true (is (encF x))] := if_neg hEn
  simp only [eI, eB] at hO
  have hrd := read_enc hx ht l
  have hEb := encF_bits x
  have htr := trail_enc hx ht
  obtain ⟨k, hk, hkl, hrl⟩ : ∃ k : Nat, min (max less 0) (((encF x).length : Int) - 1) = (k : Nat) ∧ k < (encF x).length ∧ readF z0 (il ((encF x).take k)) 0 = (zs, 0, 50) := by
    refine ⟨(min (max less 0) (((encF x).length : Int) - 1)).toNat, by omega, by omega, read_less hx ht (by omega)⟩
  obtain ⟨Ae, hE⟩ : ∃ Ae, Ae = encF x := ⟨_, rfl⟩
  rw [← hE] at hEg hEl hEn hO hrd hEb htr hk hkl hrl
  clear hE eI eB
  obtain ⟨fin, hfin⟩ : ∃ fin : Ts, fin = ⟨x, 258, 4, (x.getD 257 0 : Nat), 0⟩ := ⟨_, rfl⟩
  rw [← hfin] at htr
  have hcf := trail_come hEb come0 htr
  rw [Nat.zero_add] at hcf
  have hfl : fin.l = x := by rw [hfin]
  have hfs : fin.sym = 258 := by rw [hfin]
  have hflen : fin.l.length = 258 := by rw [hfl]; exact hx
  have tfl := tsC_lens hflen
  rw [hfl] at tfl
  have hV := fun hp L H d hF => valid_walk (hp := hp) (L := L) (H := H) (d := d) (hcf.gs (by omega)) hF
  rw [decide_eq_true hcf.vld] at hV
  have lE : (is Ae).length = Ae.length := is_length Ae
  have tE : (is Ae).take Ae.length = is Ae := List.take_of_length_le (by omega)
  have sm0 : small 0 = true := rfl
  have hz := zs_length
  have lz : (tsC z0).length = 262 := tsC_length (c := z0) hz
  have z0q : u8s zs ++ [.int .i64 0, .int .i64 0, .int .i64 0, .int .i64 0] = tsC z0 := rfl
  have pzx : putAt (u8s zs) 0 (u8s x) = u8s x := putAt_full (by rw [u8s_length, u8s_length, hx, hz])
  have pzz : putAt (u8s zs) 0 (u8s zs) = u8s zs := putAt_full rfl
  have htz : (u8s zs).take 258 = u8s zs := take258 hz
  have hq : sheqs (List.replicate 258 .nu) (u8s x) (u8s x) = some (decide (x = x)) := sheqs_u8 hx hx
  rw [decide_eq_true rfl] at hq
  have isn : is ([] : List Nat) = [] := rfl
  have a1 := append_isg (hp := hp ++ [.cells 0 true (u8s x), .cells Ae.length true (is Ae), .cells 0 true []]) (L := hp.length) (H := []) (d := []) (b := hp.length + 2) (g := 0) (l := []) (m := Ae) (by rw [get_new]; rfl) (by omega) (hF.not1 2) (by omega) (by simp; omega)
  rw [set_new] at a1
  simp only [isn, List.length_nil, Nat.zero_add, List.nil_append, List.set_cons_succ, List.set_cons_zero] at a1
  have cEl : (il Ae ++ l).map (fun b => Value.int .i64 b) = is Ae ++ l.map (Value.int .i64) := by rw [List.map_append, ← is_il]
  have lEl : (il Ae ++ l).length = Ae.length + l.length := by simp [il]
  have d1 := fun d => read_at (d := d) (hp := hp) (L := hp.length) (H := []) (nw := [Blk.cells 0 true (u8s x), Blk.cells Ae.length true (is Ae), Blk.cells (Ae.length + l.length) true (is Ae ++ l.map (Value.int .i64))]) (n := Ae.length + l.length) (g := Ae.length + l.length) (pl := true) 2 (il Ae ++ l) (by rw [cEl]; rfl) lEl (by omega) hF hrd
  have d2 := fun d (hF' : Fit (hp ++ [Blk.cells 0 true (u8s x), Blk.cells Ae.length true (is Ae), Blk.cells (Ae.length + l.length) true (is Ae ++ l.map (Value.int .i64)), Blk.cells 0 true (u8s x)]).length hp.length []) => read_walk (d := d) (rdI_at (hp := hp) (L := hp.length) (H := []) (nw := [Blk.cells 0 true (u8s x), Blk.cells Ae.length true (is Ae), Blk.cells (Ae.length + l.length) true (is Ae ++ l.map (Value.int .i64)), Blk.cells 0 true (u8s x)]) (o := 0) (n := k) (g := Ae.length) (pl := true) 1 (il (Ae.take k)) (il Ae) (by rw [is_il]; rfl) (by rw [List.drop_zero]; unfold il; rw [List.map_take]) (by unfold il; rw [List.length_map, List.length_take]; omega) hF) (by unfold il; rw [List.length_map, List.length_take]; omega) hF'
  rw [hrl] at d2
  obtain ⟨fr, f1, f2, f3⟩ := lback_loop (L := hp.length) (H := []) (hq := hp ++ [Blk.cells 0 true (u8s x), Blk.cells Ae.length true (is Ae), Blk.cells (Ae.length + l.length) true (is Ae ++ l.map (Value.int .i64)), Blk.cells 0 true (u8s x), Blk.cells 0 true (u8s zs)]) (A := Ae) (eb := hp.length + 1) (lb := hp.length) (fin := fin) hEb (by rw [get_new]; rfl) (hF.not1 1) (by simp) (by omega) hfs (hF.mono (by simp)) Ae.length 0 z0 (by omega) come0 (by rw [List.drop_zero]; exact htr)
  simp only [List.length_append, List.length_cons, List.length_nil, Nat.zero_add, Nat.reduceAdd, List.append_assoc, List.cons_append, List.nil_append, Int.natCast_zero] at f1 f2 f3
  have e262 : ¬ ((Ae.length : Nat) : Int) < 262 := by omega
  have e8002 : ¬ ((Ae.length : Nat) : Int) > 8002 := by omega
  have k0 : (0 : Int) ≤ (k : Int) := by omega
  have k1 : k ≤ Ae.length := by omega
  have k2 : (k : Int) ≤ (Ae.length : Nat) := by omega
  rcases R with ⟨rfl, rfl⟩ | ⟨b, rfl, hb⟩
  · simp only [List.length_nil, Nat.add_zero, List.map_nil, List.append_nil] at *
    simp (disch := (first | omega | (simp only [lnE] <;> omega) | (refine Fit.mono ‹Fit _ _ _› ?_ <;> (simp only [lnE] <;> omega)) | (refine Fit.draw ‹Fit _ _ _› ?_ ?_ <;> (simp only [lnE] <;> omega)) | (refine Fit.hid1 ‹Fit _ _ _› ?_ ?_ <;> (simp only [lnE] <;> omega)) | (refine Fit.hidc1 ‹Fit _ _ _› ?_ ?_ <;> (simp only [lnE] <;> omega)) | (refine Fit.hidc2 ‹Fit _ _ _› ?_ ?_ ?_ <;> (simp only [lnE] <;> omega)) | (refine Fit.draw1 ‹Fit _ _ _› ?_ ?_ ?_ <;> (simp only [lnE] <;> omega)) | (refine Fit.range0 ?_ ?_ <;> (simp only [lnE] <;> omega)) | fail)) only [syA, syB, argFr, D, E, T, C, undefv, eqF, aeq, sheqs, sheq, rdCells, cellsOf, fill, putAt, if_true, if_false, reduceIte, ↓reduceIte, reduceCtorEq, eq_self, Nat.reduceEqDiff, Nat.reduceAdd, Nat.reduceSub, Nat.reduceMul, Nat.reduceLT, Nat.reduceLeDiff, Nat.reducePow, Nat.reduceDiv, Nat.reduceMod, Int.reduceLT, Int.reduceLE, Int.reduceGT, Int.reduceGE, Int.reduceToNat, Int.reducePow, Int.reduceNeg, Int.reduceBEq, Int.reduceBNe, Int.reduceEq, Int.reduceAdd, Int.reduceSub, Int.reduceMul, cellv, sc, flatv, refs, refsF, refsC, hF.not0, hF.not1, hF.up0, hF.up1, ac3, hW, c1, hx, htx, le258 hx, u8s_cellv, u8s_scs, hO, lE, tE, sm0, zs_eq, z0q, lz, pzx, pzz, hz, htz, hq, a1, d1, d2, f1, f2, f3, hk, e262, e8002, k0, k1, k2, hV, tsC_take hflen, tsC_length hflen, tfl, append_zero]
    exact ⟨_, rfl⟩
  · by_cases cl : l.length = 0
    · obtain rfl := List.eq_nil_of_length_eq_zero cl
      simp only [List.length_nil, Nat.add_zero, List.map_nil, List.append_nil] at *
      have hb' := (List.getElem?_eq_some_iff.1 hb).1
      simp (disch := (first | omega | (simp only [lnE] <;> omega) | (refine Fit.mono ‹Fit _ _ _› ?_ <;> (simp only [lnE] <;> omega)) | (refine Fit.draw ‹Fit _ _ _› ?_ ?_ <;> (simp only [lnE] <;> omega)) | (refine Fit.hid1 ‹Fit _ _ _› ?_ ?_ <;> (simp only [lnE] <;> omega)) | (refine Fit.hidc1 ‹Fit _ _ _› ?_ ?_ <;> (simp only [lnE] <;> omega)) | (refine Fit.hidc2 ‹Fit _ _ _› ?_ ?_ ?_ <;> (simp only [lnE] <;> omega)) | (refine Fit.draw1 ‹Fit _ _ _› ?_ ?_ ?_ <;> (simp only [lnE] <;> omega)) | (refine Fit.range0 ?_ ?_ <;> (simp only [lnE] <;> omega)) | fail)) only [syA, syB, argFr, D, E, T, C, undefv, eqF, aeq, sheqs, sheq, rdCells, cellsOf, fill, putAt, if_true, if_false, reduceIte, ↓reduceIte, reduceCtorEq, eq_self, Nat.reduceEqDiff, Nat.reduceAdd, Nat.reduceSub, Nat.reduceMul, Nat.reduceLT, Nat.reduceLeDiff, Nat.reducePow, Nat.reduceDiv, Nat.reduceMod, Int.reduceLT, Int.reduceLE, Int.reduceGT, Int.reduceGE, Int.reduceToNat, Int.reducePow, Int.reduceNeg, Int.reduceBEq, Int.reduceBNe, Int.reduceEq, Int.reduceAdd, Int.reduceSub, Int.reduceMul, cellv, sc, flatv, refs, refsF, refsC, hF.not0, hF.not1, hF.up0, hF.up1, ac3, hW, c1, hx, htx, le258 hx, u8s_cellv, u8s_scs, hO, lE, tE, sm0, zs_eq, z0q, lz, pzx, pzz, hz, htz, hq, a1, d1, d2, f1, f2, f3, hk, e262, e8002, k0, k1, k2, hV, tsC_take hflen, tsC_length hflen, tfl, append_zero, hb]
      exact ⟨_, rfl⟩
    · have hb' := (List.getElem?_eq_some_iff.1 hb).1
      have a2 := app_ints (hp := hp ++ [.cells 0 true (u8s x), .cells Ae.length true (is Ae), .cells Ae.length true (is Ae)]) (L := hp.length) (H := []) (d := []) (b := hp.length + 2) (A := Ae) (l := l) (by rw [get_new]; rfl) (by omega) (hF.not1 2) cl (by omega)
      rw [set_new] at a2
      simp only [List.set_cons_succ, List.set_cons_zero] at a2
      have ll : (l.map (Value.int .i64)).length = l.length := List.length_map _
      have tl : (l.map (Value.int .i64)).take l.length = l.map (Value.int .i64) := List.take_of_length_le (by rw [ll]; exact Nat.le_refl _)
      have lle : (l.length ≤ l.length) = True := eq_true (Nat.le_refl _)
      simp (disch := (first | omega | (simp only [lnE] <;> omega) | (refine Fit.mono ‹Fit _ _ _› ?_ <;> (simp only [lnE] <;> omega)) | (refine Fit.draw ‹Fit _ _ _› ?_ ?_ <;> (simp only [lnE] <;> omega)) | (refine Fit.hid1 ‹Fit _ _ _› ?_ ?_ <;> (simp only [lnE] <;> omega)) | (refine Fit.hidc1 ‹Fit _ _ _› ?_ ?_ <;> (simp only [lnE] <;> omega)) | (refine Fit.hidc2 ‹Fit _ _ _› ?_ ?_ ?_ <;> (simp only [lnE] <;> omega)) | (refine Fit.draw1 ‹Fit _ _ _› ?_ ?_ ?_ <;> (simp only [lnE] <;> omega)) | (refine Fit.range0 ?_ ?_ <;> (simp only [lnE] <;> omega)) | fail)) only [syA, syB, argFr, D, E, T, C, undefv, eqF, aeq, sheqs, sheq, rdCells, cellsOf, fill, putAt, if_true, if_false, reduceIte, ↓reduceIte, reduceCtorEq, eq_self, Nat.reduceEqDiff, Nat.reduceAdd, Nat.reduceSub, Nat.reduceMul, Nat.reduceLT, Nat.reduceLeDiff, Nat.reducePow, Nat.reduceDiv, Nat.reduceMod, Int.reduceLT, Int.reduceLE, Int.reduceGT, Int.reduceGE, Int.reduceToNat, Int.reducePow, Int.reduceNeg, Int.reduceBEq, Int.reduceBNe, Int.reduceEq, Int.reduceAdd, Int.reduceSub, Int.reduceMul, cellv, sc, flatv, refs, refsF, refsC, hF.not0, hF.not1, hF.up0, hF.up1, ac3, hW, c1, hx, htx, le258 hx, u8s_cellv, u8s_scs, hO, lE, tE, sm0, zs_eq, z0q, lz, pzx, pzz, hz, htz, hq, a1, d1, d2, f1, f2, f3, hk, e262, e8002, k0, k1, k2, hV, tsC_take hflen, tsC_length hflen, tfl, a2, hb, ll, tl, lle]
      exact ⟨_, rfl⟩
theorem lback_arg (x : List Nat) (hx : x.length = 258) (hx8 : ∀ b ∈ x, b < 256) (l : List Int) (v : Value) {bs bs' : List Blk} (h : (v = .slice none 0 0 ∧ l.length = 0 ∧ bs' = []) ∨ (v = .slice (some ⟨bs.length, 0, some 0⟩) l.length 0 ∧ bs' = [.cells 0 true (l.map (Value.int .i64))])) (less : Int) (h0 : -9223372036854775808 ≤ less) (h1 : less ≤ 9223372036854775807) :
    ∃ σ', Lrun env (.func 3) [.agg (u8s x).toArray, v, .int .i64 less] ⟨bs ++ bs', (bs ++ bs').length, [], []⟩ = some (.bool true, σ') := by
  cases ht : kTable x with
  | false =>
    refine lback_bad (l := l) hx hx8 ?_ ht
    rcases h with ⟨rfl, h, rfl⟩ | ⟨rfl, rfl⟩
    · exact .inl ⟨rfl, List.eq_nil_of_length_eq_zero h⟩
    · exact .inr ⟨_, _, _, _, _, _, rfl, rfl, get_new0 .., fun i hi => by simp [hi]⟩
  | true =>
    refine lback_good (l := l) hx hx8 ?_ ht
    rcases h with ⟨rfl, h, rfl⟩ | ⟨rfl, rfl⟩
    · exact .inl ⟨rfl, List.eq_nil_of_length_eq_zero h⟩
    · exact .inr ⟨_, rfl, get_new0 ..⟩
end LtA
end Go.Proofs.Ytlphmnhkkhcjfaa
end
