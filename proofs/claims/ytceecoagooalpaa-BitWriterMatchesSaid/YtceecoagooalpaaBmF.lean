/-
  THE BIT WRITER's laws: all operations against the reference; the law. Conditions: none.
-/
import Derived.Test.YtceecoagooalpaaBmE
set_option linter.all false
section
namespace Go.Proofs.Ytceecoagooalpaa
namespace Bt
open Go Go.RowKit AM ArEnv
variable {q P P1 P2 P4 : List Blk} {L : Nat} {H : List Nat} {a r kw kr : Nat}

def eD (r : Nat) (l : List Nat) (d : Dd) : List Nat := if d.pad then (if padN l = 0 then [] else [r]) else if fitsV d.v d.w then dirR r (l ++ piece l d) else []
theorem eD_cases (r : Nat) (l : List Nat) (d : Dd) : eD r l d = [] ∨ eD r l d = [r] := by
  unfold eD dirR
  split
  · split
    · exact .inl rfl
    · exact .inr rfl
  · split
    · split
      · exact .inl rfl
      · exact .inr rfl
    · exact .inl rfl
theorem eD_nil {r : Nat} {d : Dd} (h : (piece [] d).length = 0) : eD r [] d = [] := by
  unfold eD dirR
  split
  · rfl
  · split
    · rw [List.nil_append, if_pos h]
    · rfl
theorem eD_some {r : Nat} {d : Dd} (h : (piece [] d).length ≠ 0) : eD r [] d = [r] := by
  unfold eD dirR
  cases hp : d.pad with
  | true =>
    exfalso; apply h; unfold piece; rw [if_pos hp]; rfl
  | false =>
    rw [if_neg (by simp)]
    cases hf : fitsV d.v d.w with
    | true => rw [if_pos rfl, List.nil_append, if_neg h]
    | false => exfalso; apply h; unfold piece; rw [if_neg (by simp [hp]), if_neg (by simp [hf])]; rfl
theorem refop_pad {l : List Nat} {d : Dd} (w : Rs P1 L H r kr l) (hs : l.length ≤ 100000) (hF : Fit P1.length L H) (D1 : List Nat) (hp : d.pad = true) :
    Lrun env (.func 25) [.pointer (some ⟨r, 0, some 0⟩)] ⟨P1, L, H, D1⟩ = some (.int .i64 (padN l), ⟨rset P1 r kr (l ++ piece l d), L, H, joinDirty D1 (eD r l d)⟩) := by
  rw [refpad_walk w hs hF D1]
  have e : l ++ piece l d = padB l := by unfold piece padB; rw [if_pos hp]
  unfold eD
  rw [e, if_pos hp]
theorem rset_self {l : List Nat} (w : Rs P1 L H r kr l) : rset P1 r kr l = P1 := by
  by_cases h0 : l.length = 0
  · rw [rset_nil h0]
  · rw [rset_old h0 (w.klt h0), set_same w.w, set_same (w.b h0)]
theorem refop_put {l : List Nat} {d : Dd} (w : Rs P1 L H r kr l) (hs : l.length ≤ 100000) (hF : Fit P1.length L H) (hd : DOk d) (D1 : List Nat) (hp : d.pad = false) :
    Lrun env (.func 26) [.pointer (some ⟨r, 0, some 0⟩), .int .u32 d.v, .int .i64 d.w] ⟨P1, L, H, D1⟩ = some (.bool (fitsV d.v d.w), ⟨rset P1 r kr (l ++ piece l d), L, H, joinDirty D1 (eD r l d)⟩) := by
  unfold eD
  rw [if_neg (by simp [hp])]
  cases hf : fitsV d.v d.w with
  | false =>
    have e : piece l d = [] := by unfold piece; rw [if_neg (by simp [hp]), if_neg (by simp [hf])]
    rw [e, List.append_nil, rset_self w, refput_bad hd.1 hf hF D1]
    rfl
  | true =>
    have e : piece l d = bitsAt d.v d.w.toNat := by unfold piece; rw [if_neg (by simp [hp]), if_pos hf]
    have hf' := hf
    unfold fitsV at hf'
    rw [decide_eq_true_eq] at hf'
    have hw : d.w = ((d.w.toNat : Nat) : Int) := by omega
    have := refput_walk w (v := d.v) (n := d.w.toNat) hd.1 (by omega) (by omega) hF hf'.2.2 D1
    rw [← hw] at this
    rw [e, this]
    rfl
theorem join_sub1 (r a : Nat) (E : List Nat) (h : E = [] ∨ E = [r]) : joinDirty [r, a] E = [r, a] := by
  rcases h with rfl | rfl <;> simp [joinDirty]
theorem join_sub2 (r a : Nat) (l m : List Nat) : joinDirty [r, a] (dirt a l m) = [r, a] := by
  unfold dirt; split <;> simp [joinDirty]
theorem match_next {ds : List Dd} {vd vb : Value} {at_ width : Int} (w : Ws q L H a q.length []) (s : Rs q L H r q.length []) (har : a ≠ r) (hds : ds.length ≤ 60) (hok : ∀ d ∈ ds, DOk d) (R : Rw q H vd ds) (hvb : ∀ z ∈ refs vb, z < q.length) (hF : Fit q.length L H) {i : Nat} (hi : i < ds.length) :
    Liter env lb8_0 [10, 9, 0, 2, 3, 1, 11] q.length (mfr r a vd vb at_ width i) ⟨ms q a r (aft ds i), L, H, md a r (aft ds i)⟩
      = Liter env lb8_0 [10, 9, 0, 2, 3, 1, 11] q.length (mfr r a vd vb at_ width ((i : Int) + 1)) ⟨ms q a r (aft ds (i + 1)), L, H, md a r (aft ds (i + 1))⟩ := by
  have hal := w.lt
  have hrl := s.lt
  have hd := hok ds[i] (List.getElem_mem hi)
  have hl := aft_length ds i
  have hl1 := aft_length ds (i + 1)
  have hb := aft_bits ds i
  have hb1 := aft_bits ds (i + 1)
  have hs := aft_succ ds hi
  have hvd := R.refs
  have hfr : ∀ p ∈ mfr r a vd vb at_ width ((i : Int) + 1), ∀ z ∈ refs p.2, z < q.length := by
    intro p hp z hz
    unfold mfr at hp
    simp only [List.mem_cons, List.not_mem_nil, or_false] at hp
    rcases hp with rfl | rfl | rfl | rfl | rfl | rfl | rfl
    · simp only [rs_ptr, List.mem_cons, List.not_mem_nil, or_false] at hz; omega
    · simp only [rs_ptr, List.mem_cons, List.not_mem_nil, or_false] at hz; omega
    · exact hvd z hz
    · simp [rs_int] at hz
    · simp [rs_int] at hz
    · exact hvb z hz
    · simp [rs_int] at hz
  have hRm : ∀ hq : List Blk, (∀ b, b < q.length → b ≠ a → b ≠ r → hq[b]? = q[b]?) → Rw hq H vd ds := fun hq hh => by
    rcases R with h | ⟨b, h1, h2, h3⟩
    · exact .inl h
    · refine .inr ⟨b, h1, h2, ?_⟩
      rw [hh b (List.getElem?_eq_some_iff.1 h3).1 (fun e => by subst e; have := w.w.symm.trans h3; simp [Wr] at this) (fun e => by subst e; have := s.w.symm.trans h3; simp [Rr] at this), h3]
  generalize hl0 : aft ds i = l at *
  generalize hl0' : aft ds (i + 1) = l' at *
  by_cases h0 : l.length = 0
  · have hn : l = [] := List.eq_nil_of_length_eq_zero h0
    subst hn
    have e1 : ms q a r [] = q := rfl
    have e2 : md a r [] = [] := rfl
    rw [e1, e2]
    have hdoes := does_walk w hd (by simp) hF []
    rw [← hs] at hdoes
    by_cases h1 : l'.length = 0
    · have hn' : l' = [] := List.eq_nil_of_length_eq_zero h1
      have hE : eD r [] ds[i] = [] := eD_nil (by rw [hn', List.nil_append] at hs; rw [← hs]; rfl)
      rw [hn', wset_nil rfl, dirt_self, joinDirty_nil] at hdoes
      have e3 : ms q a r l' = q := if_pos h1
      have e4 : md a r l' = [] := if_pos h1
      rw [e3, e4]
      refine match_step (l := []) (l' := l') (P2 := q) (D1 := []) (kw := q.length) (kr := q.length) hi hds R R hd (by omega) (by rw [hn']; exact Bits.nil) hF.1 hF hdoes ?_ ?_ (by rw [hn']; exact w.v) (by rw [hn']; exact s.w) s.aH (fun h => absurd h1 h) (fun h => absurd h1 h) ?_
      · intro hp
        have := refop_pad s (by simp) hF [] hp
        rwa [← hs, hn', rset_nil rfl, hE, joinDirty_nil] at this
      · intro hp
        have := refop_put s (by simp) hF hd [] hp
        rwa [← hs, hn', rset_nil rfl, hE, joinDirty_nil] at this
      · have e5 : slB (nb l') (ob l') = [] := by unfold ob; rw [if_pos h1]; rfl
        rw [e5, List.append_nil, List.append_nil]
        exact gcFr_same _ _ _ _ _ (Nat.le_refl _)
    · have hE : eD r [] ds[i] = [r] := eD_some (by rw [List.nil_append] at hs; rw [← hs]; exact h1)
      rw [wset_new h1, dirt_new rfl h1, show joinDirty [] [a] = [a] from rfl] at hdoes
      have e3 : ms q a r l' = (q.set a (Wr (q.length + 1) l')).set r (Rr q.length l') ++ [Ib l', Wb l'] := if_neg h1
      have e4 : md a r l' = [r, a] := if_neg h1
      rw [e3, e4]
      have hP1l : (q.set a (Wr q.length l') ++ [Wb l']).length = q.length + 1 := by simp
      have hF1 : Fit (q.set a (Wr q.length l') ++ [Wb l']).length L H := hF.mono (by simp)
      have s1 : Rs (q.set a (Wr q.length l') ++ [Wb l']) L H r (q.set a (Wr q.length l') ++ [Wb l']).length [] :=
        ⟨by rw [List.getElem?_append_left (by simpa using hrl), List.getElem?_set_ne har, s.w]; rfl, fun h => absurd rfl h, fun _ => rfl, s.aL, by rw [hP1l]; have := hF.1; omega, s.aH, by rw [hP1l]; exact hF.not1 1, by rw [hP1l]; omega, Bits.nil⟩
      have hP2 : rset (q.set a (Wr q.length l') ++ [Wb l']) r (q.set a (Wr q.length l') ++ [Wb l']).length l' = (q.set a (Wr (q.length + 0) l')).set r (Rr (q.length + 1) l') ++ [Wb l', Ib l'] := by
        rw [rset_new h1, hP1l, List.set_append_left _ _ (by simpa using hrl), List.append_assoc]; rfl
      have hj : joinDirty [a] [r] = [r, a] := by
        have : ([a] : List Nat).contains r = false := by simp; exact Ne.symm har
        simp [joinDirty, this, Ne.symm har]
      refine match_step (l := []) (l' := l') (P2 := (q.set a (Wr (q.length + 0) l')).set r (Rr (q.length + 1) l') ++ [Wb l', Ib l']) (D1 := [a]) (kw := q.length) (kr := q.length + 1) hi hds R (hRm _ fun b h1 h2 h3 => by rw [List.getElem?_append_left (by simpa using h1), List.getElem?_set_ne (Ne.symm h2)]) hd (by omega) hb1 (by have := hF.1; simp; omega) (hF.mono (by simp)) hdoes ?_ ?_ ⟨?_, fun _ => ?_, w.aH, fun _ => hF.not0, hb1⟩ ?_ s.aH (fun _ => ?_) (fun _ => hF.not1 1) ?_
      · intro hp
        have := refop_pad s1 (by simp) hF1 [a] hp
        rwa [← hs, hP2, hE, hj] at this
      · intro hp
        have := refop_put s1 (by simp) hF1 hd [a] hp
        rwa [← hs, hP2, hE, hj] at this
      · rw [List.getElem?_append_left (by simpa using hal), List.getElem?_set_ne (Ne.symm har), List.getElem?_set_self hal]; rfl
      · rw [List.getElem?_append_right (by simp)]; simp
      · rw [List.getElem?_append_left (by simpa using hrl), List.getElem?_set_self (by simpa using hrl)]
      · rw [List.getElem?_append_right (by simp)]; simp
      · rw [List.append_assoc]
        exact gc_pair (nw := [Wb l', Ib l'] ++ (slB (nb l') (ob l') ++ slB (nb l') (ob l'))) (x := 1) (y := 0) hal hrl har h1 rfl rfl (by decide) hfr
  · have h1 : l'.length ≠ 0 := by rw [hs, List.length_append]; omega
    have e1 : ms q a r l = (q.set a (Wr (q.length + 1) l)).set r (Rr q.length l) ++ [Ib l, Wb l] := if_neg h0
    have e2 : md a r l = [r, a] := if_neg h0
    have e3 : ms q a r l' = (q.set a (Wr (q.length + 1) l')).set r (Rr q.length l') ++ [Ib l', Wb l'] := if_neg h1
    have e4 : md a r l' = [r, a] := if_neg h1
    rw [e1, e2, e3, e4]
    have hFm : ∀ (x y : Blk) (u v : Blk), Fit ((q.set a x).set r y ++ [u, v]).length L H := fun x y u v => hF.mono (by simp)
    have wP : Ws ((q.set a (Wr (q.length + 1) l)).set r (Rr q.length l) ++ [Ib l, Wb l]) L H a (q.length + 1) l :=
      ⟨by rw [List.getElem?_append_left (by simpa using hal), List.getElem?_set_ne (Ne.symm har), List.getElem?_set_self hal], fun _ => by rw [List.getElem?_append_right (by simp)]; simp, fun h => absurd h h0, w.aL, by have := hF.1; omega, w.aH, hF.not1 1, by omega, hb⟩
    have hdoes := does_walk wP hd (by omega) (hFm _ _ _ _) [r, a]
    have hP1 : wset ((q.set a (Wr (q.length + 1) l)).set r (Rr q.length l) ++ [Ib l, Wb l]) a (q.length + 1) l' = (q.set a (Wr (q.length + 1) l')).set r (Rr q.length l) ++ [Ib l, Wb l'] := by
      rw [wset_old h1 (by simp), List.set_append_left _ _ (by simpa using hal), List.set_comm _ _ (Ne.symm har), List.set_set, List.set_append_right _ _ (by simp)]
      simp
    rw [← hs, hP1, join_sub2] at hdoes
    have s1 : Rs ((q.set a (Wr (q.length + 1) l')).set r (Rr q.length l) ++ [Ib l, Wb l']) L H r q.length l :=
      ⟨by rw [List.getElem?_append_left (by simpa using hrl), List.getElem?_set_self (by simpa using hrl)], fun _ => by rw [List.getElem?_append_right (by simp)]; simp, fun h => absurd h h0, s.aL, hF.1, s.aH, hF.not0, by omega, hb⟩
    have hP2 : rset ((q.set a (Wr (q.length + 1) l')).set r (Rr q.length l) ++ [Ib l, Wb l']) r q.length l' = (q.set a (Wr (q.length + 1) l')).set r (Rr q.length l') ++ [Ib l', Wb l'] := by
      rw [rset_old h1 (by simp), List.set_append_left _ _ (by simpa using hrl), List.set_set, List.set_append_right _ _ (by simp)]
      simp
    refine match_step (l := l) (l' := l') (P2 := (q.set a (Wr (q.length + 1) l')).set r (Rr q.length l') ++ [Ib l', Wb l']) (D1 := [r, a]) (kw := q.length + 1) (kr := q.length) hi hds (hRm _ fun b h1 h2 h3 => by rw [List.getElem?_append_left (by simpa using h1), List.getElem?_set_ne (Ne.symm h3), List.getElem?_set_ne (Ne.symm h2)]) (hRm _ fun b h1 h2 h3 => by rw [List.getElem?_append_left (by simpa using h1), List.getElem?_set_ne (Ne.symm h3), List.getElem?_set_ne (Ne.symm h2)]) hd (by omega) hb1 (by have := hF.1; simp; omega) (hFm _ _ _ _) hdoes ?_ ?_ ⟨?_, fun _ => ?_, w.aH, fun _ => hF.not1 1, hb1⟩ ?_ s.aH (fun _ => ?_) (fun _ => hF.not0) ?_
    · intro hp
      have := refop_pad s1 (by omega) (hFm _ _ _ _) [r, a] hp
      rwa [← hs, hP2, join_sub1 _ _ _ (eD_cases _ _ _)] at this
    · intro hp
      have := refop_put s1 (by omega) (hFm _ _ _ _) hd [r, a] hp
      rwa [← hs, hP2, join_sub1 _ _ _ (eD_cases _ _ _)] at this
    · rw [List.getElem?_append_left (by simpa using hal), List.getElem?_set_ne (Ne.symm har), List.getElem?_set_self hal]
    · rw [List.getElem?_append_right (by simp)]; simp
    · rw [List.getElem?_append_left (by simpa using hrl), List.getElem?_set_self (by simpa using hrl)]
    · rw [List.getElem?_append_right (by simp)]; simp
    · rw [List.append_assoc]
      exact gc_pair (nw := [Ib l', Wb l'] ++ (slB (nb l') (ob l') ++ slB (nb l') (ob l'))) (x := 0) (y := 1) hal hrl har h1 rfl rfl (by decide) hfr
theorem match_loop {ds : List Dd} {vd vb : Value} {at_ width : Int} (w : Ws q L H a q.length []) (s : Rs q L H r q.length []) (har : a ≠ r) (hds : ds.length ≤ 60) (hok : ∀ d ∈ ds, DOk d) (R : Rw q H vd ds) (hvb : ∀ z ∈ refs vb, z < q.length) (hF : Fit q.length L H) : ∀ (n i : Nat), i + n = ds.length →
    ∃ fr, Liter env lb8_0 [10, 9, 0, 2, 3, 1, 11] q.length (mfr r a vd vb at_ width i) ⟨ms q a r (aft ds i), L, H, md a r (aft ds i)⟩
      = some (.exit 0, fr, ⟨ms q a r (after ds), L, H, md a r (after ds)⟩) ∧ fr.get 1 = some vb ∧ fr.get 2 = some (.int .i64 at_) ∧ fr.get 3 = some (.int .i64 width)
  | 0, i, e => by
    obtain rfl : i = ds.length := by omega
    obtain ⟨p, e, rfl⟩ := R.len
    rw [iter_by lb8_0.eq_1, aft_all]
    unfold mfr
    simp (disch := (first | omega | (simp only [lnE] <;> omega) | (refine Fit.mono ‹Fit _ _ _› ?_ <;> (simp only [lnE] <;> omega)) | (refine Fit.draw ‹Fit _ _ _› ?_ ?_ <;> (simp only [lnE] <;> omega)) | (refine Fit.hid1 ‹Fit _ _ _› ?_ ?_ <;> (simp only [lnE] <;> omega)) | (refine Fit.draw1 ‹Fit _ _ _› ?_ ?_ ?_ <;> (simp only [lnE] <;> omega)) | (refine Fit.range0 ?_ ?_ <;> (simp only [lnE] <;> omega)) | fail)) only [syA, syB, argFr, D, E, T, C, undefv, eqF, aeq, sheqs, sheq, rdCells, cellsOf, fill, putAt, if_true, if_false, reduceIte, ↓reduceIte, reduceCtorEq, eq_self, Nat.reduceEqDiff, Nat.reduceAdd, Nat.reduceSub, Nat.reduceMul, Nat.reduceLT, Nat.reduceLeDiff, Nat.reducePow, Nat.reduceDiv, Nat.reduceMod, Int.reduceLT, Int.reduceLE, Int.reduceGT, Int.reduceGE, Int.reduceToNat, Int.reducePow, Int.reduceNeg, Int.reduceBEq, Int.reduceBNe, Int.reduceEq, Int.reduceAdd, Int.reduceSub, Int.reduceMul, cellv, sc, flatv, refs, refsF, refsC]
    exact ⟨_, rfl, rfl, rfl, rfl⟩
  | n + 1, i, e => by
    have hi : i < ds.length := by omega
    rw [match_next w s har hds hok R hvb hF hi]
    have := match_loop w s har hds hok R hvb hF (at_ := at_) (width := width) n (i + 1) (by omega)
    simp only [Int.natCast_add, Int.natCast_one] at this
    exact this
theorem ms_old {l : List Nat} {b : Nat} (hb : b < q.length) (ha : b ≠ a) (hr : b ≠ r) : (ms q a r l)[b]? = q[b]? := by
  unfold ms
  split
  · rfl
  · rw [List.getElem?_append_left (by simpa using hb), List.getElem?_set_ne (Ne.symm hr), List.getElem?_set_ne (Ne.symm ha)]
theorem ms_le {l : List Nat} : q.length ≤ (ms q a r l).length := by
  unfold ms
  split
  · exact Nat.le_refl _
  · simp
theorem mem_md {l : List Nat} {t : Nat} (h : t ∈ md a r l) : t = r ∨ t = a := by
  unfold md at h
  split at h
  · cases h
  · simpa using h
/-- The law. -/
theorem match_run (ds : List Dd) (hok : ∀ d ∈ ds, DOk d) {bs : List Blk} {vd vb : Value} {l : List Nat} (RD : Rw bs [] vd ds) (RB : Rd ⟨bs, bs.length, [], []⟩ vb l) (p : Int) (hp0 : -9223372036854775808 ≤ p) (hp1 : p ≤ 9223372036854775807) (wd : Int) (hw0 : -9223372036854775808 ≤ wd) (hw1 : wd ≤ 9223372036854775807) :
    ∃ σ', Lrun env (.func 8) [vd, vb, .int .i64 p, .int .i64 wd] ⟨bs, bs.length, [], []⟩ = some (.bool true, σ') := by
  rw [Lrun_sym 8 _ _ fn8]
  have hF : Fit bs.length bs.length [] := ⟨Nat.le_refl _, Low.nil _⟩
  have lD := RD.len
  have lB := RB.len
  by_cases h1 : (ds.length : Int) > 60
  · obtain ⟨p, e, rfl⟩ := lD
    simp (disch := (first | omega | (simp only [lnE] <;> omega) | (refine Fit.mono ‹Fit _ _ _› ?_ <;> (simp only [lnE] <;> omega)) | (refine Fit.draw ‹Fit _ _ _› ?_ ?_ <;> (simp only [lnE] <;> omega)) | (refine Fit.hid1 ‹Fit _ _ _› ?_ ?_ <;> (simp only [lnE] <;> omega)) | (refine Fit.draw1 ‹Fit _ _ _› ?_ ?_ ?_ <;> (simp only [lnE] <;> omega)) | (refine Fit.range0 ?_ ?_ <;> (simp only [lnE] <;> omega)) | fail)) only [syA, syB, argFr, D, E, T, C, undefv, eqF, aeq, sheqs, sheq, rdCells, cellsOf, fill, putAt, if_true, if_false, reduceIte, ↓reduceIte, reduceCtorEq, eq_self, Nat.reduceEqDiff, Nat.reduceAdd, Nat.reduceSub, Nat.reduceMul, Nat.reduceLT, Nat.reduceLeDiff, Nat.reducePow, Nat.reduceDiv, Nat.reduceMod, Int.reduceLT, Int.reduceLE, Int.reduceGT, Int.reduceGE, Int.reduceToNat, Int.reducePow, Int.reduceNeg, Int.reduceBEq, Int.reduceBNe, Int.reduceEq, Int.reduceAdd, Int.reduceSub, Int.reduceMul, cellv, sc, flatv, refs, refsF, refsC, hF.not0, hF.not1, hF.up0, hF.up1, ac8, h1, wakes_walk]
    exact ⟨_, rfl⟩
  by_cases h2 : (l.length : Int) > 300
  · obtain ⟨p, e, rfl⟩ := lD
    obtain ⟨p', e', rfl⟩ := lB
    simp (disch := (first | omega | (simp only [lnE] <;> omega) | (refine Fit.mono ‹Fit _ _ _› ?_ <;> (simp only [lnE] <;> omega)) | (refine Fit.draw ‹Fit _ _ _› ?_ ?_ <;> (simp only [lnE] <;> omega)) | (refine Fit.hid1 ‹Fit _ _ _› ?_ ?_ <;> (simp only [lnE] <;> omega)) | (refine Fit.draw1 ‹Fit _ _ _› ?_ ?_ ?_ <;> (simp only [lnE] <;> omega)) | (refine Fit.range0 ?_ ?_ <;> (simp only [lnE] <;> omega)) | fail)) only [syA, syB, argFr, D, E, T, C, undefv, eqF, aeq, sheqs, sheq, rdCells, cellsOf, fill, putAt, if_true, if_false, reduceIte, ↓reduceIte, reduceCtorEq, eq_self, Nat.reduceEqDiff, Nat.reduceAdd, Nat.reduceSub, Nat.reduceMul, Nat.reduceLT, Nat.reduceLeDiff, Nat.reducePow, Nat.reduceDiv, Nat.reduceMod, Int.reduceLT, Int.reduceLE, Int.reduceGT, Int.reduceGE, Int.reduceToNat, Int.reducePow, Int.reduceNeg, Int.reduceBEq, Int.reduceBNe, Int.reduceEq, Int.reduceAdd, Int.reduceSub, Int.reduceMul, cellv, sc, flatv, refs, refsF, refsC, hF.not0, hF.not1, hF.up0, hF.up1, ac8, h1, h2, wakes_walk]
    exact ⟨_, rfl⟩
  have n1 := fun d => new_walk hF d
  have hbl : (bs ++ [Wr 0 [], Rr 0 []]).length = bs.length + 2 := by simp
  have hFq : Fit (bs ++ [Wr 0 [], Rr 0 []]).length bs.length [] := hF.mono (by simp)
  have w1 : Ws (bs ++ [Wr 0 [], Rr 0 []]) bs.length [] bs.length (bs ++ [Wr 0 [], Rr 0 []]).length [] :=
    ⟨get_new0 _, fun h => absurd rfl h, fun _ => rfl, Nat.le_refl _, by simp, rfl, rfl, by simp, Bits.nil⟩
  have s1 : Rs (bs ++ [Wr 0 [], Rr 0 []]) bs.length [] (bs.length + 1) (bs ++ [Wr 0 [], Rr 0 []]).length [] :=
    ⟨by rw [get_new]; rfl, fun h => absurd rfl h, fun _ => rfl, by omega, by simp, rfl, rfl, by simp, Bits.nil⟩
  have hvb := RB.refs
  obtain ⟨fr, lw, g1, g2, g3⟩ := match_loop (at_ := p) (width := wd) (vb := vb) w1 s1 (by omega) (by omega) hok (RD.app _) (fun z hz => by have := hvb z hz; simp only at this; rw [hbl]; omega) hFq ds.length 0 (by omega)
  have e1 : ms (bs ++ [Wr 0 [], Rr 0 []]) bs.length (bs.length + 1) (aft ds 0) = bs ++ [Wr 0 [], Rr 0 []] := rfl
  have e2 : md bs.length (bs.length + 1) (aft ds 0) = [] := rfl
  rw [e1, e2, hbl] at lw
  unfold mfr at lw
  simp only [Int.natCast_zero] at lw
  have RQ : Rd ⟨ms (bs ++ [Wr 0 [], Rr 0 []]) bs.length (bs.length + 1) (after ds), bs.length, [], []⟩ vb l := RB.more fun b x hx hh => by
    have hlt : b < bs.length := (List.getElem?_eq_some_iff.1 hx).1
    refine ⟨?_, rfl⟩
    rw [ms_old (by rw [hbl]; omega) (by omega) (by omega), List.getElem?_append_left hlt]
    exact hx
  have hD : ∀ t ∈ joinDirty [] (md bs.length (bs.length + 1) (after ds)), bs.length ≤ t := fun t ht => by
    rcases mem_join _ _ _ ht with ht | ht
    · cases ht
    · rcases mem_md ht with rfl | rfl <;> omega
  have hFQ : Fit (ms (bs ++ [Wr 0 [], Rr 0 []]) bs.length (bs.length + 1) (after ds)).length bs.length [] := hFq.mono ms_le
  have eW : Wr 0 [] = Blk.cells 0 false [.slice none 0 0, .int .i64 0] := rfl
  have eR : Rr 0 [] = Blk.cells 0 false [.slice none 0 0] := rfl
  generalize ms (bs ++ [Wr 0 [], Rr 0 []]) bs.length (bs.length + 1) (after ds) = Q at *
  generalize md bs.length (bs.length + 1) (after ds) = DD at *
  rw [eR] at lw
  have hal : (allBits l).length = 8 * l.length := bitsIn_length ..
  have o1 := fun d => of_walk (d := d) (RQ.locked (d' := d)) (by omega) hFQ
  have hFQ2 : Fit (Q ++ slIB (allBits l)).length bs.length [] := hFQ.mono (by simp)
  have o2 := fun d => refof_walk (d := d) ((RQ.app (nw := slIB (allBits l)) (L' := bs.length) (d' := d))) (by omega) hFQ2
  have hFQ3 : Fit ((Q ++ slIB (allBits l)) ++ slIB (allBits l)).length bs.length [] := hFQ2.mono (by simp)
  have o3 := fun d => ints_walk (hp := (Q ++ slIB (allBits l)) ++ slIB (allBits l)) (s := Q.length) (s2 := (Q ++ slIB (allBits l)).length) (l := allBits l) (fun h => by rw [slIB_some h, List.append_assoc]; exact get_new0 _) rfl (fun h => by rw [slIB_some h, get_new0]) rfl (by omega) hFQ3 d
  obtain ⟨pp, ee, rfl⟩ := lD
  obtain ⟨pp', ee', rfl⟩ := lB
  cases hgk : getOk l.length p wd with
  | false =>
    have k1 := fun d => get_bad (d := d) (RQ.locked (d' := d)) hp0 hp1 hw0 hw1 (by omega) hFQ hgk
    have k2 := fun d => refget_bad (d := d) (RQ.locked (d' := d)) hp0 hp1 hw0 hw1 (by omega) hFQ hgk
    by_cases h0 : l.length = 0
    · have e3 : ∀ k, slI k (allBits l) = .slice none 0 0 := fun k => if_pos (by omega)
      have e4 : slIB (allBits l) = [] := if_pos (by omega)
      simp only [e3, e4, List.append_nil] at o1 o2 o3
      simp (disch := (first | omega | (simp only [lnE] <;> omega) | (refine Fit.mono ‹Fit _ _ _› ?_ <;> (simp only [lnE] <;> omega)) | (refine Fit.draw ‹Fit _ _ _› ?_ ?_ <;> (simp only [lnE] <;> omega)) | (refine Fit.hid1 ‹Fit _ _ _› ?_ ?_ <;> (simp only [lnE] <;> omega)) | (refine Fit.draw1 ‹Fit _ _ _› ?_ ?_ ?_ <;> (simp only [lnE] <;> omega)) | (refine Fit.range0 ?_ ?_ <;> (simp only [lnE] <;> omega)) | fail)) only [syA, syB, argFr, D, E, T, C, undefv, eqF, aeq, sheqs, sheq, rdCells, cellsOf, fill, putAt, if_true, if_false, reduceIte, ↓reduceIte, reduceCtorEq, eq_self, Nat.reduceEqDiff, Nat.reduceAdd, Nat.reduceSub, Nat.reduceMul, Nat.reduceLT, Nat.reduceLeDiff, Nat.reducePow, Nat.reduceDiv, Nat.reduceMod, Int.reduceLT, Int.reduceLE, Int.reduceGT, Int.reduceGE, Int.reduceToNat, Int.reducePow, Int.reduceNeg, Int.reduceBEq, Int.reduceBNe, Int.reduceEq, Int.reduceAdd, Int.reduceSub, Int.reduceMul, cellv, sc, flatv, refs, refsF, refsC, hF.not0, hF.not1, hF.up0, hF.up1, ac8, h1, h2, n1, eR, lw, g1, g2, g3, k1, k2, o1, o2, o3, wakes_walk]
      exact gc_end hD _ _ _
    · simp only [slI_some (l := allBits l) (by omega), slIB_some (l := allBits l) (by omega), List.length_append, List.length_cons, List.length_nil, Nat.zero_add, List.append_assoc, List.cons_append, List.nil_append] at o1 o2 o3
      simp (disch := (first | omega | (simp only [lnE] <;> omega) | (refine Fit.mono ‹Fit _ _ _› ?_ <;> (simp only [lnE] <;> omega)) | (refine Fit.draw ‹Fit _ _ _› ?_ ?_ <;> (simp only [lnE] <;> omega)) | (refine Fit.hid1 ‹Fit _ _ _› ?_ ?_ <;> (simp only [lnE] <;> omega)) | (refine Fit.draw1 ‹Fit _ _ _› ?_ ?_ ?_ <;> (simp only [lnE] <;> omega)) | (refine Fit.range0 ?_ ?_ <;> (simp only [lnE] <;> omega)) | fail)) only [syA, syB, argFr, D, E, T, C, undefv, eqF, aeq, sheqs, sheq, rdCells, cellsOf, fill, putAt, if_true, if_false, reduceIte, ↓reduceIte, reduceCtorEq, eq_self, Nat.reduceEqDiff, Nat.reduceAdd, Nat.reduceSub, Nat.reduceMul, Nat.reduceLT, Nat.reduceLeDiff, Nat.reducePow, Nat.reduceDiv, Nat.reduceMod, Int.reduceLT, Int.reduceLE, Int.reduceGT, Int.reduceGE, Int.reduceToNat, Int.reducePow, Int.reduceNeg, Int.reduceBEq, Int.reduceBNe, Int.reduceEq, Int.reduceAdd, Int.reduceSub, Int.reduceMul, cellv, sc, flatv, refs, refsF, refsC, hF.not0, hF.not1, hF.up0, hF.up1, ac8, h1, h2, n1, eR, lw, g1, g2, g3, k1, k2, o1, o2, o3, wakes_walk]
      exact gc_end hD _ _ _
  | true =>
    unfold getOk at hgk
    rw [decide_eq_true_eq] at hgk
    obtain ⟨np, rfl⟩ := Int.eq_ofNat_of_zero_le hgk.1
    obtain ⟨nw, rfl⟩ := Int.eq_ofNat_of_zero_le hgk.2.1
    have k1 := fun d => get_walk (d := d) (RQ.locked (d' := d)) (p := np) (w := nw) (by omega) (by omega) (by omega) hFQ
    have k2 := fun d => refget_walk (d := d) (RQ.locked (d' := d)) (p := np) (w := nw) (by omega) (by omega) (by omega) hFQ
    by_cases h0 : l.length = 0
    · have e3 : ∀ k, slI k (allBits l) = .slice none 0 0 := fun k => if_pos (by omega)
      have e4 : slIB (allBits l) = [] := if_pos (by omega)
      simp only [e3, e4, List.append_nil] at o1 o2 o3
      simp (disch := (first | omega | (simp only [lnE] <;> omega) | (refine Fit.mono ‹Fit _ _ _› ?_ <;> (simp only [lnE] <;> omega)) | (refine Fit.draw ‹Fit _ _ _› ?_ ?_ <;> (simp only [lnE] <;> omega)) | (refine Fit.hid1 ‹Fit _ _ _› ?_ ?_ <;> (simp only [lnE] <;> omega)) | (refine Fit.draw1 ‹Fit _ _ _› ?_ ?_ ?_ <;> (simp only [lnE] <;> omega)) | (refine Fit.range0 ?_ ?_ <;> (simp only [lnE] <;> omega)) | fail)) only [syA, syB, argFr, D, E, T, C, undefv, eqF, aeq, sheqs, sheq, rdCells, cellsOf, fill, putAt, if_true, if_false, reduceIte, ↓reduceIte, reduceCtorEq, eq_self, Nat.reduceEqDiff, Nat.reduceAdd, Nat.reduceSub, Nat.reduceMul, Nat.reduceLT, Nat.reduceLeDiff, Nat.reducePow, Nat.reduceDiv, Nat.reduceMod, Int.reduceLT, Int.reduceLE, Int.reduceGT, Int.reduceGE, Int.reduceToNat, Int.reducePow, Int.reduceNeg, Int.reduceBEq, Int.reduceBNe, Int.reduceEq, Int.reduceAdd, Int.reduceSub, Int.reduceMul, cellv, sc, flatv, refs, refsF, refsC, hF.not0, hF.not1, hF.up0, hF.up1, ac8, h1, h2, n1, eR, lw, g1, g2, g3, k1, k2, o1, o2, o3, wakes_walk]
      exact gc_end hD _ _ _
    · simp only [slI_some (l := allBits l) (by omega), slIB_some (l := allBits l) (by omega), List.length_append, List.length_cons, List.length_nil, Nat.zero_add, List.append_assoc, List.cons_append, List.nil_append] at o1 o2 o3
      simp (disch := (first | omega | (simp only [lnE] <;> omega) | (refine Fit.mono ‹Fit _ _ _› ?_ <;> (simp only [lnE] <;> omega)) | (refine Fit.draw ‹Fit _ _ _› ?_ ?_ <;> (simp only [lnE] <;> omega)) | (refine Fit.hid1 ‹Fit _ _ _› ?_ ?_ <;> (simp only [lnE] <;> omega)) | (refine Fit.draw1 ‹Fit _ _ _› ?_ ?_ ?_ <;> (simp only [lnE] <;> omega)) | (refine Fit.range0 ?_ ?_ <;> (simp only [lnE] <;> omega)) | fail)) only [syA, syB, argFr, D, E, T, C, undefv, eqF, aeq, sheqs, sheq, rdCells, cellsOf, fill, putAt, if_true, if_false, reduceIte, ↓reduceIte, reduceCtorEq, eq_self, Nat.reduceEqDiff, Nat.reduceAdd, Nat.reduceSub, Nat.reduceMul, Nat.reduceLT, Nat.reduceLeDiff, Nat.reducePow, Nat.reduceDiv, Nat.reduceMod, Int.reduceLT, Int.reduceLE, Int.reduceGT, Int.reduceGE, Int.reduceToNat, Int.reducePow, Int.reduceNeg, Int.reduceBEq, Int.reduceBNe, Int.reduceEq, Int.reduceAdd, Int.reduceSub, Int.reduceMul, cellv, sc, flatv, refs, refsF, refsC, hF.not0, hF.not1, hF.up0, hF.up1, ac8, h1, h2, n1, eR, lw, g1, g2, g3, k1, k2, o1, o2, o3, wakes_walk]
      exact gc_end hD _ _ _
theorem match_arg (ds : List Dd) (hok : ∀ d ∈ ds, DOk d) (vd : Value) {bs bs' nw : List Blk} (h : (vd = .slice none 0 0 ∧ ds.length = 0 ∧ bs' = []) ∨ (vd = .slice (some ⟨bs.length, 0, some 0⟩) ds.length 0 ∧ bs' = [.cells 0 true (ds.map drow).flatten])) {vb : Value} {l : List Nat} (RB : Rd ⟨bs ++ bs' ++ nw, (bs ++ bs' ++ nw).length, [], []⟩ vb l) (p : Int) (hp0 : -9223372036854775808 ≤ p) (hp1 : p ≤ 9223372036854775807) (wd : Int) (hw0 : -9223372036854775808 ≤ wd) (hw1 : wd ≤ 9223372036854775807) :
    ∃ σ', Lrun env (.func 8) [vd, vb, .int .i64 p, .int .i64 wd] ⟨bs ++ bs' ++ nw, (bs ++ bs' ++ nw).length, [], []⟩ = some (.bool true, σ') :=
  match_run ds hok ((rw_arg h).app nw) RB p hp0 hp1 wd hw0 hw1
end Bt
end Go.Proofs.Ytceecoagooalpaa
end
