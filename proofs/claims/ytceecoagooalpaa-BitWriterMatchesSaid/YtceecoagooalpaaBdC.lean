/-
  THE BIT WRITER's laws: the loop that carries out the operations. Conditions: none.
-/
import Derived.Test.YtceecoagooalpaaBdB
set_option linter.all false
section
namespace Go.Proofs.Ytceecoagooalpaa
namespace Bt
open Go Go.RowKit AM ArEnv

/-- Where each operation's bits begin. -/
def froms (ds : List Dd) (i : Nat) : List Nat := (List.range i).map fun j => (aft ds j).length
theorem froms_length (ds : List Dd) (i : Nat) : (froms ds i).length = i := by simp [froms]
theorem froms_snoc (ds : List Dd) (i : Nat) : froms ds (i + 1) = froms ds i ++ [(aft ds i).length] := by simp [froms, List.range_succ]
theorem froms_get (ds : List Dd) (n : Nat) {i : Nat} (hi : i < n) : (is (froms ds n))[i]? = some (.int .i64 ((aft ds i).length : Nat)) := by simp [is, froms, hi]
def frst (q : List Blk) (a : Nat) (ds : List Dd) (i : Nat) : List Blk := if i = 0 then q else wset (q ++ [.cells i true (is (froms ds i))]) a (q.length + 1) (aft ds i)
theorem slI_froms (k : Nat) (ds : List Dd) {i : Nat} (h : i ≠ 0) : slI k (froms ds i) = .slice (some ⟨k, 0, some i⟩) i 1 := by unfold slI; rw [froms_length, if_neg h]
theorem append_one {L : Nat} {H d : List Nat} {hq : List Blk} {b i x : Nat} {l : List Nat} (hl : l.length = i) (hb : hq[b]? = some (.cells i true (is l))) (hL : L ≤ b) (hh : H.contains b = false) (hs : i ≤ 100000) :
    St.append ⟨hq, L, H, d⟩ true 1 (.slice (some ⟨b, 0, some i⟩) i 1) 1 [.int .i64 (x : Nat)] = some (.slice (some ⟨b, 0, some (i + 1)⟩) (i + 1) 1, ⟨hq.set b (.cells (i + 1) true (is (l ++ [x]))), L, H, d⟩) := by
  subst hl
  exact append_is (m := [x]) hb hL hh (by simp) (by simp; omega)
theorem append_new {L : Nat} {H d : List Nat} {hq : List Blk} {x : Nat} :
    St.append ⟨hq, L, H, d⟩ true 1 (.slice none 0 0) 1 [.int .i64 (x : Nat)] = some (.slice (some ⟨hq.length, 0, some 1⟩) 1 1, ⟨hq ++ [.cells 1 true (is [x])], L, H, d⟩) :=
  append_is0 (m := [x]) (by simp) (by simp)
section
variable {q P P2 P3 P4 : List Blk} {L : Nat} {H : List Nat} {a : Nat}
/-- A round. -/
theorem back_step {ds : List Dd} {v s4 s5 s6 : Value} {i : Nat} {D0 D1 D2 : List Nat} {l : List Nat} (hi : i < ds.length) (hds : ds.length ≤ 60) (R : Rw P2 H v ds) (hF : Fit P.length L H) (hln : l.length ≤ 100000)
    (hlen : Lrun env (.func 27) [.pointer (some ⟨a, 0, some 0⟩)] ⟨P, L, H, D0⟩ = some (.int .i64 l.length, ⟨P, L, H, D0⟩))
    (happ : St.append ⟨P ++ [.cells 0 true [.int .i64 l.length]], L, H, D0⟩ true 1 s4 1 [.int .i64 l.length] = some (s5, ⟨P2, L, H, D0⟩))
    (hdoes : Lrun env (.func 24) [.pointer (some ⟨a, 0, some 0⟩), .agg (drow ds[i]).toArray] ⟨P2, L, H, D0⟩ = some (.tuple #[.int .i64 (dnum l ds[i]), .bool (dok ds[i])], ⟨P3, L, H, D1⟩))
    (hgc : gcFr q.length [(4, s5), (5, .int .i64 ((i : Int) + 1)), (3, .pointer (some ⟨a, 0, some 0⟩)), (0, v)] ⟨P3, L, H, D1⟩ = some ([(4, s6), (5, .int .i64 ((i : Int) + 1)), (3, .pointer (some ⟨a, 0, some 0⟩)), (0, v)], ⟨P4, L, H, D2⟩)) :
    Liter env lb9_1 [4, 5, 3, 0] q.length [(4, s4), (5, .int .i64 i), (3, .pointer (some ⟨a, 0, some 0⟩)), (0, v)] ⟨P, L, H, D0⟩
      = Liter env lb9_1 [4, 5, 3, 0] q.length [(4, s6), (5, .int .i64 ((i : Int) + 1)), (3, .pointer (some ⟨a, 0, some 0⟩)), (0, v)] ⟨P4, L, H, D2⟩ := by
  rw [iter_by lb9_1.eq_1]
  obtain ⟨b, cs, rfl, hh, hb, r0, r1, r2, r3, r4⟩ := R.at_ hi
  have hi1 : (i : Int) < (ds.length : Nat) := by omega
  have hi0 : (0 : Int) ≤ (i : Int) := by omega
  simp (disch := (first | omega | (simp only [lnE] <;> omega) | (refine Fit.mono ‹Fit _ _ _› ?_ <;> (simp only [lnE] <;> omega)) | (refine Fit.draw ‹Fit _ _ _› ?_ ?_ <;> (simp only [lnE] <;> omega)) | (refine Fit.hid1 ‹Fit _ _ _› ?_ ?_ <;> (simp only [lnE] <;> omega)) | (refine Fit.draw1 ‹Fit _ _ _› ?_ ?_ ?_ <;> (simp only [lnE] <;> omega)) | (refine Fit.range0 ?_ ?_ <;> (simp only [lnE] <;> omega)) | fail)) only [syA, syB, argFr, D, E, T, C, undefv, eqF, aeq, sheqs, sheq, rdCells, cellsOf, fill, putAt, if_true, if_false, reduceIte, ↓reduceIte, reduceCtorEq, eq_self, Nat.reduceEqDiff, Nat.reduceAdd, Nat.reduceSub, Nat.reduceMul, Nat.reduceLT, Nat.reduceLeDiff, Nat.reducePow, Nat.reduceDiv, Nat.reduceMod, Int.reduceLT, Int.reduceLE, Int.reduceGT, Int.reduceGE, Int.reduceToNat, Int.reducePow, Int.reduceNeg, Int.reduceBEq, Int.reduceBNe, Int.reduceEq, Int.reduceAdd, Int.reduceSub, Int.reduceMul, cellv, sc, flatv, refs, refsF, refsC, hF.not0, hF.not1, hF.up0, hF.up1, hi0, hi1, hlen, sm1, happ, hh, hb, r3, r4, hdoes, hgc]
theorem Ws.app0 {hp : List Blk} (w : Ws hp L H a hp.length []) (hF : Fit hp.length L H) (nw : List Blk) : Ws (hp ++ nw) L H a (hp.length + nw.length) [] := by
  have := w.app hF nw
  rwa [if_pos (show ([] : List Nat).length = 0 from rfl)] at this
theorem back_next {ds : List Dd} {v : Value} (w : Ws q L H a q.length []) (hds : ds.length ≤ 60) (hok : ∀ d ∈ ds, DOk d) (R : Rw q H v ds) (hF : Fit q.length L H) {i : Nat} (hi : i < ds.length) :
    Liter env lb9_1 [4, 5, 3, 0] q.length [(4, slI q.length (froms ds i)), (5, .int .i64 i), (3, .pointer (some ⟨a, 0, some 0⟩)), (0, v)] ⟨frst q a ds i, L, H, dirt a [] (aft ds i)⟩
      = Liter env lb9_1 [4, 5, 3, 0] q.length [(4, slI q.length (froms ds (i + 1))), (5, .int .i64 ((i : Int) + 1)), (3, .pointer (some ⟨a, 0, some 0⟩)), (0, v)] ⟨frst q a ds (i + 1), L, H, dirt a [] (aft ds (i + 1))⟩ := by
  have hlt := w.lt
  have hvr := R.refs
  have hd := hok ds[i] (List.getElem_mem hi)
  have hl := aft_length ds i
  have hb := aft_bits ds i
  have hs := aft_succ ds hi
  have hdt := dirt_trans (l := []) (l' := aft ds i) (m := aft ds (i + 1)) (by simp) (by rw [hs]; simp) a
  have hfl := froms_length ds i
  have e6 : slI q.length (froms ds (i + 1)) = .slice (some ⟨q.length, 0, some (i + 1)⟩) (i + 1) 1 := slI_froms _ _ (by omega)
  have e7 : frst q a ds (i + 1) = wset (q ++ [.cells (i + 1) true (is (froms ds (i + 1)))]) a (q.length + 1) (aft ds (i + 1)) := if_neg (by omega)
  rw [e6, e7]
  have hRm : ∀ hq : List Blk, (∀ b, b < q.length → b ≠ a → hq[b]? = q[b]?) → Rw hq H v ds := fun hq hh => by
    rcases R with h | ⟨b, h1, h2, h3⟩
    · exact .inl h
    · refine .inr ⟨b, h1, h2, ?_⟩
      rw [hh b (List.getElem?_eq_some_iff.1 h3).1 (fun e => by subst e; have := w.w.symm.trans h3; simp [Wr] at this), h3]
  by_cases h0 : i = 0
  · subst h0
    have e1 : frst q a ds 0 = q := rfl
    have e2 : slI q.length (froms ds 0) = .slice none 0 0 := rfl
    have e3 : aft ds 0 = [] := rfl
    rw [e3] at hs hdt hl hb
    rw [e1, e2, e3]
    have f1 : froms ds 1 = [0] := rfl
    have W2 := w.app0 hF [Blk.cells 0 true [.int .i64 0], .cells 1 true (is [0])]
    have hdoes := does_walk W2 hd (by simp) (hF.mono (by simp)) (dirt a [] [])
    rw [← hs, hdt] at hdoes
    have hf := wset_app w [Blk.cells 0 true [.int .i64 0], .cells 1 true (is [0])] (aft ds 1)
    simp only [List.length_cons, List.length_nil, Nat.zero_add, Nat.reduceAdd] at hf hdoes
    rw [hf] at hdoes
    refine back_step (l := []) hi hds (hRm (q ++ [Blk.cells 0 true [.int .i64 0], .cells 1 true (is [0])]) fun b h1 h2 => by rw [List.getElem?_append_left h1]) hF (by simp) (len_walk w.v hF _) ?_ hdoes (gc_two w (nw := [Blk.cells 0 true [.int .i64 0], .cells 1 true (is [0])] ++ wbl (aft ds 1)) (x := 1) (y := 2) (g := 1) (cs := is (froms ds 1)) rfl (by decide) (fun h => by unfold wbl; rw [if_neg h]; rfl) hvr)
    have := append_new (L := L) (H := H) (d := dirt a [] []) (hq := q ++ [Blk.cells 0 true [.int .i64 0]]) (x := 0)
    simp only [List.length_append, List.length_cons, List.length_nil, Nat.zero_add, List.append_assoc, List.cons_append, List.nil_append] at this
    exact this
  · have e1 : frst q a ds i = wset (q ++ [.cells i true (is (froms ds i))]) a (q.length + 1) (aft ds i) := if_neg h0
    have e2 : slI q.length (froms ds i) = .slice (some ⟨q.length, 0, some i⟩) i 1 := slI_froms _ _ h0
    have wf := wset_app w [.cells i true (is (froms ds i))] (aft ds i)
    simp only [List.length_cons, List.length_nil, Nat.zero_add] at wf
    rw [e1, e2]
    have fs := froms_snoc ds i
    by_cases hl0 : (aft ds i).length = 0
    · have hn : aft ds i = [] := List.eq_nil_of_length_eq_zero hl0
      rw [hn] at hs hdt fs
      rw [hn, wset_nil rfl]
      have W1 := w.app0 hF [Blk.cells i true (is (froms ds i))]
      have W2 := w.app0 hF [Blk.cells (i + 1) true (is (froms ds (i + 1))), .cells 0 true [.int .i64 0]]
      have hdoes := does_walk W2 hd (by simp) (hF.mono (by simp)) (dirt a [] [])
      rw [← hs, hdt] at hdoes
      have hf := wset_app w [Blk.cells (i + 1) true (is (froms ds (i + 1))), .cells 0 true [.int .i64 0]] (aft ds (i + 1))
      simp only [List.length_cons, List.length_nil, Nat.zero_add, Nat.reduceAdd] at hf hdoes
      rw [hf] at hdoes
      refine back_step (l := []) hi hds (hRm _ fun b h1 h2 => by rw [List.getElem?_append_left h1]) (hF.mono (by simp)) (by simp) (len_walk W1.v (hF.mono (by simp)) _) ?_ hdoes (gc_two w (nw := [Blk.cells (i + 1) true (is (froms ds (i + 1))), .cells 0 true [.int .i64 0]] ++ wbl (aft ds (i + 1))) (x := 0) (y := 2) (g := i + 1) (cs := is (froms ds (i + 1))) rfl (by decide) (fun h => by unfold wbl; rw [if_neg h]; rfl) hvr)
      have := append_one (L := L) (H := H) (d := dirt a [] []) (hq := q ++ [Blk.cells i true (is (froms ds i)), .cells 0 true [.int .i64 0]]) (b := q.length) (x := 0) hfl (get_new0 _) hF.1 hF.not0 (by omega)
      rw [set_new0, show froms ds i ++ [0] = froms ds (i + 1) from fs.symm] at this
      simp only [List.append_assoc, List.cons_append, List.nil_append]
      exact this
    · have W1 := w.app0 hF [Blk.cells i true (is (froms ds i))]
      have W1' := W1.wset (m := aft ds i) (fun _ => rfl) hb
      have W2 := w.app0 hF [Blk.cells (i + 1) true (is (froms ds (i + 1)))]
      have W2' := W2.wset (m := aft ds i) (fun _ => rfl) hb
      have wf2 := wset_app w [.cells (i + 1) true (is (froms ds (i + 1)))] (aft ds i)
      simp only [List.length_cons, List.length_nil, Nat.zero_add] at wf2 W1' W2'
      have ewb : wbl (aft ds i) = [Wb (aft ds i)] := if_neg hl0
      rw [wf, ewb] at W1'
      rw [wf2, ewb] at W2'
      rw [wf, ewb]
      have hF1 : Fit (q.set a (Wr (q.length + 1) (aft ds i)) ++ ([Blk.cells i true (is (froms ds i))] ++ [Wb (aft ds i)])).length L H := hF.mono (by simp)
      have hF2 : Fit (q.set a (Wr (q.length + 1) (aft ds i)) ++ ([Blk.cells (i + 1) true (is (froms ds (i + 1)))] ++ [Wb (aft ds i)])).length L H := hF.mono (by simp)
      have W3 := W2'.app hF2 [Blk.cells 0 true [.int .i64 (aft ds i).length]]
      rw [if_neg hl0] at W3
      have hs' : (aft ds (i + 1)).length ≠ 0 := by rw [hs]; simp; intro h; exact absurd (by rw [h]; rfl) hl0
      have hdoes := does_walk W3 hd (by omega) (hF.mono (by simp)) (dirt a [] (aft ds i))
      rw [← hs, hdt] at hdoes
      have hx : wset (q.set a (Wr (q.length + 1) (aft ds i)) ++ ([Blk.cells (i + 1) true (is (froms ds (i + 1)))] ++ [Wb (aft ds i)]) ++ [Blk.cells 0 true [.int .i64 (aft ds i).length]]) a (q.length + 1) (aft ds (i + 1)) = q.set a (Wr (q.length + 1) (aft ds (i + 1))) ++ [Blk.cells (i + 1) true (is (froms ds (i + 1))), Wb (aft ds (i + 1)), Blk.cells 0 true [.int .i64 (aft ds i).length]] := by
        rw [wset_old hs' (by simp), List.append_assoc, List.set_append_left _ _ (by simpa using hlt), List.set_set, List.set_append_right _ _ (by simp)]
        simp
      rw [hx] at hdoes
      refine back_step (l := aft ds i) hi hds (hRm _ fun b h1 h2 => by rw [List.append_assoc, List.getElem?_append_left (by simpa using h1), List.getElem?_set_ne (Ne.symm h2)]) hF1 (by omega) (len_walk W1'.v hF1 _) ?_ hdoes (gc_two w (nw := [Blk.cells (i + 1) true (is (froms ds (i + 1))), Wb (aft ds (i + 1)), Blk.cells 0 true [.int .i64 (aft ds i).length]]) (x := 0) (y := 1) (g := i + 1) (cs := is (froms ds (i + 1))) rfl (by decide) (fun _ => rfl) hvr)
      have hql : (q.set a (Wr (q.length + 1) (aft ds i))).length = q.length := by simp
      have := append_one (L := L) (H := H) (d := dirt a [] (aft ds i)) (hq := q.set a (Wr (q.length + 1) (aft ds i)) ++ [Blk.cells i true (is (froms ds i)), Wb (aft ds i), .cells 0 true [.int .i64 (aft ds i).length]]) (b := q.length) (x := (aft ds i).length) hfl (by rw [List.getElem?_append_right (by simp)]; simp) hF.1 hF.not0 (by omega)
      rw [List.set_append_right _ _ (by simp), ← fs, hql, Nat.sub_self, List.set_cons_zero] at this
      simp only [List.append_assoc, List.cons_append, List.nil_append]
      exact this
end
end Bt
end Go.Proofs.Ytceecoagooalpaa
end
