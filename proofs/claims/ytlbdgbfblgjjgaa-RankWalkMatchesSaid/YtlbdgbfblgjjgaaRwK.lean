/-
  RankWalkMatches: a walk and the reference return the same results for every call: the run. Conditions: none.
-/
import Derived.Test.YtlbdgbfblgjjgaaRwJ
set_option linter.all false
namespace Go.Proofs.Ytlbdgbfblgjjgaa
namespace ArA
open Go Go.RowKit AM ArEnv
section
variable {L : Nat} {H : List Nat} {r q w u : Nat} {A : Arn} {s t z kk ix : Nat} {x : List Nat} {v : Value}
theorem wB_told' {hq : List Blk} {L' : Nat} {d : List Nat} (hF : Fit hq.length L' H) (k : WkOk hq.length r q w L H A s t z kk ix x) {row told steps : Nat} :
    Lrun env (.func 38) [wkP w] ⟨put (hq.set w (wB r s t z ix kk x row told steps)) r q A, L', H, d⟩ = some (.int .i64 told, ⟨put (hq.set w (wB r s t z ix kk x row told steps)) r q A, L', H, d⟩) := by
  have hwr := k.wr
  have hwq := k.wq
  have hid := k.hid
  have k0 := k.ok
  have hlen : ∀ B, (hq.set w B).length = hq.length := fun B => List.length_set
  have hb : ∀ B, (hq.set w B)[w]? = some B := fun B => List.getElem?_set_self k.wn
  unfold wB
  rw [Lrun_sym 38 _ _ fn38]
  simp (disch := (first | omega | (simp only [lnE, put_length] <;> omega) | (refine Fit.mono ‹Fit _ _ _› ?_ <;> (simp only [lnE, put_length] <;> omega)) | (refine Fit.draw ‹Fit _ _ _› ?_ ?_ <;> (simp only [lnE, put_length] <;> omega)) | (refine Fit.hid1 ‹Fit _ _ _› ?_ ?_ <;> (simp only [lnE, put_length] <;> omega)) | (refine Fit.draw1 ‹Fit _ _ _› ?_ ?_ ?_ <;> (simp only [lnE, put_length] <;> omega)) | (refine Fit.range0 ?_ ?_ <;> (simp only [lnE, put_length] <;> omega)) | (refine ArOk.mono ‹ArOk _ _ _ _ _› ?_ <;> (simp only [lnE, put_length] <;> omega)) | (refine ArOk.hid ‹ArOk _ _ _ _ _› ?_ ?_ <;> (simp only [lnE, put_length] <;> omega)) | (refine ArOk.hid0 ‹ArOk _ _ _ _ _› ?_ ?_ <;> (simp only [lnE, put_length] <;> omega)) | ((intro xr hxr; simp [AM.refs, refsF, refsC] at hxr) <;> (simp only [lnE, put_length] <;> omega)) | fail)) only [syA, syB, argFr, D, E, T, C, undefv, eqF, aeq, sheqs, sheq, rdCells, cellsOf, fill, putAt, if_true, if_false, reduceIte, ↓reduceIte, reduceCtorEq, eq_self, Nat.reduceEqDiff, Nat.reduceAdd, Nat.reduceSub, Nat.reduceMul, Nat.reduceLT, Nat.reduceLeDiff, Nat.reducePow, Nat.reduceDiv, Nat.reduceMod, Int.reduceLT, Int.reduceLE, Int.reduceGT, Int.reduceGE, Int.reduceToNat, Int.reducePow, Int.reduceNeg, Int.reduceBEq, Int.reduceBNe, Int.reduceEq, Int.reduceAdd, Int.reduceSub, Int.reduceMul, cellv, sc, flatv, refs, refsF, refsC, syR, Int.le_refl, hF.not0, hF.not1, hF.up0, hF.up1, k0.hr, k0.hq, ac38, hb, hlen, hwr, hwq, hid, wk264]
theorem wB_steps' {hq : List Blk} {L' : Nat} {d : List Nat} (hF : Fit hq.length L' H) (k : WkOk hq.length r q w L H A s t z kk ix x) {row told steps : Nat} :
    Lrun env (.func 36) [wkP w] ⟨put (hq.set w (wB r s t z ix kk x row told steps)) r q A, L', H, d⟩ = some (.int .i64 steps, ⟨put (hq.set w (wB r s t z ix kk x row told steps)) r q A, L', H, d⟩) := by
  have hwr := k.wr
  have hwq := k.wq
  have hid := k.hid
  have k0 := k.ok
  have hlen : ∀ B, (hq.set w B).length = hq.length := fun B => List.length_set
  have hb : ∀ B, (hq.set w B)[w]? = some B := fun B => List.getElem?_set_self k.wn
  unfold wB
  rw [Lrun_sym 36 _ _ fn36]
  simp (disch := (first | omega | (simp only [lnE, put_length] <;> omega) | (refine Fit.mono ‹Fit _ _ _› ?_ <;> (simp only [lnE, put_length] <;> omega)) | (refine Fit.draw ‹Fit _ _ _› ?_ ?_ <;> (simp only [lnE, put_length] <;> omega)) | (refine Fit.hid1 ‹Fit _ _ _› ?_ ?_ <;> (simp only [lnE, put_length] <;> omega)) | (refine Fit.draw1 ‹Fit _ _ _› ?_ ?_ ?_ <;> (simp only [lnE, put_length] <;> omega)) | (refine Fit.range0 ?_ ?_ <;> (simp only [lnE, put_length] <;> omega)) | (refine ArOk.mono ‹ArOk _ _ _ _ _› ?_ <;> (simp only [lnE, put_length] <;> omega)) | (refine ArOk.hid ‹ArOk _ _ _ _ _› ?_ ?_ <;> (simp only [lnE, put_length] <;> omega)) | (refine ArOk.hid0 ‹ArOk _ _ _ _ _› ?_ ?_ <;> (simp only [lnE, put_length] <;> omega)) | ((intro xr hxr; simp [AM.refs, refsF, refsC] at hxr) <;> (simp only [lnE, put_length] <;> omega)) | fail)) only [syA, syB, argFr, D, E, T, C, undefv, eqF, aeq, sheqs, sheq, rdCells, cellsOf, fill, putAt, if_true, if_false, reduceIte, ↓reduceIte, reduceCtorEq, eq_self, Nat.reduceEqDiff, Nat.reduceAdd, Nat.reduceSub, Nat.reduceMul, Nat.reduceLT, Nat.reduceLeDiff, Nat.reducePow, Nat.reduceDiv, Nat.reduceMod, Int.reduceLT, Int.reduceLE, Int.reduceGT, Int.reduceGE, Int.reduceToNat, Int.reducePow, Int.reduceNeg, Int.reduceBEq, Int.reduceBNe, Int.reduceEq, Int.reduceAdd, Int.reduceSub, Int.reduceMul, cellv, sc, flatv, refs, refsF, refsC, syR, Int.le_refl, hF.not0, hF.not1, hF.up0, hF.up1, k0.hr, k0.hq, ac36, hb, hlen, hwr, hwq, hid, wk265]
/-- Both walks at the same point. -/
def two (hq : List Blk) (r q w u : Nat) (A : Arn) (s t z ix kk : Nat) (v : Value) (x : List Nat) (row told st row2 told2 st2 : Nat) : List Blk :=
  put ((hq.set w (wB r s t z ix kk x row told st)).set u (rB v ix kk row2 told2 st2)) r q A
structure TwOk (hq : List Blk) (r q w u : Nat) (L : Nat) (H : List Nat) (A : Arn) (s t z kk ix : Nat) (v : Value) (x : List Nat) : Prop where
  fit : Fit hq.length L H
  k : WkOk hq.length r q w L H A s t z kk ix x
  ne : w ≠ u
  ur : r ≠ u
  uq : q ≠ u
  un : u < hq.length
  uL : L ≤ u
  hid : H.contains u = false
  rd : ∀ B B', Rd ⟨put ((hq.set w B).set u B') r q A, L, H, []⟩ v x
variable {hq : List Blk} {d : List Nat} {row told st row2 told2 st2 : Nat}
theorem two_w (T : TwOk hq r q w u L H A s t z kk ix v x) : two hq r q w u A s t z ix kk v x row told st row2 told2 st2 = put ((hq.set u (rB v ix kk row2 told2 st2)).set w (wB r s t z ix kk x row told st)) r q A := by
  unfold two; rw [List.set_comm _ _ T.ne]
theorem two_u (T : TwOk hq r q w u L H A s t z kk ix v x) : two hq r q w u A s t z ix kk v x row told st row2 told2 st2 = (put (hq.set w (wB r s t z ix kk x row told st)) r q A).set u (rB v ix kk row2 told2 st2) := by
  unfold two; rw [put_set_o T.ur T.uq]
theorem two_get (T : TwOk hq r q w u L H A s t z kk ix v x) : (two hq r q w u A s t z ix kk v x row told st row2 told2 st2)[u]? = some (rB v ix kk row2 told2 st2) := by
  unfold two; rw [put_o T.ur T.uq]; exact List.getElem?_set_self (by rw [List.length_set]; exact T.un)
theorem two_len (hq : List Blk) (r q w u : Nat) (A : Arn) (s t z ix kk : Nat) (v : Value) (x : List Nat) (row told st row2 told2 st2 : Nat) : (two hq r q w u A s t z ix kk v x row told st row2 told2 st2).length = hq.length := by
  unfold two; simp [put_length]
theorem two_set (T : TwOk hq r q w u L H A s t z kk ix v x) {a b c : Nat} : (two hq r q w u A s t z ix kk v x row told st row2 told2 st2).set u (.cells 0 false [v, .int .i64 ix, .int .i64 kk, .int .i64 a, .int .i64 b, .int .i64 c]) = two hq r q w u A s t z ix kk v x row told st a b c := by
  rw [two_u T, List.set_set]; exact (two_u T (row2 := a) (told2 := b) (st2 := c)).symm
theorem TwOk.ku (T : TwOk hq r q w u L H A s t z kk ix v x) {B : Blk} : WkOk (hq.set u B).length r q w L H A s t z kk ix x := by rw [List.length_set]; exact T.k
theorem TwOk.fu (T : TwOk hq r q w u L H A s t z kk ix v x) {B : Blk} : Fit (hq.set u B).length L H := by rw [List.length_set]; exact T.fit
theorem TwOk.rf (T : TwOk hq r q w u L H A s t z kk ix v x) {B : Blk} : RfOk (put (hq.set w B) r q A) u L H v x ix kk where
  fit := by rw [put_length, List.length_set]; exact T.fit
  un := by rw [put_length, List.length_set]; exact T.un
  uL := T.uL
  hid := T.hid
  rd := fun B' => by rw [put_set_o T.ur T.uq]; exact T.rd _ _
  kk1 := T.k.kk1
  ixm := T.k.ixm
  small := T.k.small
theorem tw_next (T : TwOk hq r q w u L H A s t z kk ix v x) (ht : told < x.length) (hs : st ≤ 1099511627776) (hp1 : row ≤ x.length) (hne : row ≠ ix) (hx : atR ix row < x.length) :
    Lrun env (.func 37) [wkP w] ⟨two hq r q w u A s t z ix kk v x row told st row2 told2 st2, L, H, d⟩ = some (.tuple #[.int .u8 (x[atR ix row] : Nat), .bool true], ⟨two hq r q w u A s t z ix kk v x (nxR x ix row) (told + 1) (st + 1 + atR ix row % kk) row2 told2 st2, L, H, d⟩) := by
  rw [two_w T, two_w T]; exact wB_next T.fu T.ku ht hs hp1 hne hx
theorem tw_done (T : TwOk hq r q w u L H A s t z kk ix v x) (h : told = x.length ∨ row = ix) :
    Lrun env (.func 37) [wkP w] ⟨two hq r q w u A s t z ix kk v x row told st row2 told2 st2, L, H, d⟩ = some (.tuple #[.int .u8 0, .bool false], ⟨two hq r q w u A s t z ix kk v x row told st row2 told2 st2, L, H, d⟩) := by
  rw [two_w T]; exact wB_done T.fu T.ku h
theorem tw_valid (T : TwOk hq r q w u L H A s t z kk ix v x) (hk : kk ≤ 65536) (hs : st + x.length * 65536 ≤ 1099511627776) :
    Lrun env (.func 35) [wkP w] ⟨two hq r q w u A s t z ix kk v x row told st row2 told2 st2, L, H, d⟩ = some (.bool (decide ((vw (fun _ => 0) x ix x.length 0 0).1 = some ix)), ⟨two hq r q w u A s t z ix kk v x row told (vw (fun a => a % kk) x ix x.length 0 st).2 row2 told2 st2, L, H, d⟩) := by
  rw [two_w T, two_w T]; exact wB_valid T.fu T.ku hk hs
theorem tw_reset (T : TwOk hq r q w u L H A s t z kk ix v x) :
    Lrun env (.func 41) [wkP w] ⟨two hq r q w u A s t z ix kk v x row told st row2 told2 st2, L, H, d⟩ = some (.tuple #[], ⟨two hq r q w u A s t z ix kk v x 0 0 st row2 told2 st2, L, H, d⟩) := by
  rw [two_w T, two_w T]; exact wB_reset T.fu T.ku
theorem tw_told {L' : Nat} (hF : Fit hq.length L' H) (T : TwOk hq r q w u L H A s t z kk ix v x) :
    Lrun env (.func 38) [wkP w] ⟨two hq r q w u A s t z ix kk v x row told st row2 told2 st2, L', H, d⟩ = some (.int .i64 told, ⟨two hq r q w u A s t z ix kk v x row told st row2 told2 st2, L', H, d⟩) := by
  rw [two_w T]; exact wB_told' (by rw [List.length_set]; exact hF) T.ku
theorem tw_steps {L' : Nat} (hF : Fit hq.length L' H) (T : TwOk hq r q w u L H A s t z kk ix v x) :
    Lrun env (.func 36) [wkP w] ⟨two hq r q w u A s t z ix kk v x row told st row2 told2 st2, L', H, d⟩ = some (.int .i64 st, ⟨two hq r q w u A s t z ix kk v x row told st row2 told2 st2, L', H, d⟩) := by
  rw [two_w T]; exact wB_steps' (by rw [List.length_set]; exact hF) T.ku
theorem tf_next (T : TwOk hq r q w u L H A s t z kk ix v x) (ht : told2 < x.length) (hs : st2 ≤ 1099511627776) (hp1 : row2 ≤ x.length) (hne : row2 ≠ ix) (hx : atR ix row2 < x.length) :
    Lrun env (.func 39) [rfP u] ⟨two hq r q w u A s t z ix kk v x row told st row2 told2 st2, L, H, d⟩ = some (.tuple #[.int .u8 (x[atR ix row2] : Nat), .bool true], ⟨two hq r q w u A s t z ix kk v x row told st (nxR x ix row2) (told2 + 1) (st2 + 1 + atR ix row2 % kk), L, H, d⟩) := by
  rw [two_u T, two_u T]; exact fnext_walk T.rf ht hs hp1 hne hx
theorem tf_done (T : TwOk hq r q w u L H A s t z kk ix v x) (h : told2 = x.length ∨ row2 = ix) :
    Lrun env (.func 39) [rfP u] ⟨two hq r q w u A s t z ix kk v x row told st row2 told2 st2, L, H, d⟩ = some (.tuple #[.int .u8 0, .bool false], ⟨two hq r q w u A s t z ix kk v x row told st row2 told2 st2, L, H, d⟩) := by
  rw [two_u T]; exact fnext_done T.rf h
theorem tf_valid (T : TwOk hq r q w u L H A s t z kk ix v x) (hk : kk ≤ 65536) (hs : st2 + x.length * 65536 ≤ 1099511627776) :
    Lrun env (.func 40) [rfP u] ⟨two hq r q w u A s t z ix kk v x row told st row2 told2 st2, L, H, d⟩ = some (.bool (decide ((vw (fun _ => 0) x ix x.length 0 0).1 = some ix)), ⟨two hq r q w u A s t z ix kk v x row told st row2 told2 (vw (fun a => a % kk) x ix x.length 0 st2).2, L, H, d⟩) := by
  rw [two_u T, two_u T]; exact fvalid_walk T.rf hk hs
set_option maxRecDepth 20000 in
theorem mat21_s0 (T : TwOk hq r q w u L H A s t z kk ix v x) (hm : x.length ≤ 60) (hkk : kk ≤ 100) {va : Value} {zs : List Int} (hza : ∀ (a b c : Nat), Ri (two hq r q w u A s t z ix kk v x a b c a b c) va zs) (hzH : ∀ b, va = .slice (some ⟨b, 0, some 0⟩) zs.length 0 → H.contains b = false) (hzl : zs.length ≤ 100) {sb i : Nat} (hiz : i < zs.length) (z0 : zs[i] = 0) (hd : told = x.length ∨ row = ix) :
    Liter env lb9_0 [14, 12, 3, 10, 9, 0, 2, 15] hq.length [(14, rfP u), (12, wkP w), (3, va), (10, .pointer (some ⟨sb, 0, some 0⟩)), (9, arP r), (0, v), (2, .int .i64 kk), (15, .int .i64 i)] ⟨two hq r q w u A s t z ix kk v x row told st row told st, L, H, []⟩ = Liter env lb9_0 [14, 12, 3, 10, 9, 0, 2, 15] hq.length [(14, rfP u), (12, wkP w), (3, va), (10, .pointer (some ⟨sb, 0, some 0⟩)), (9, arP r), (0, v), (2, .int .i64 kk), (15, .int .i64 (i + 1 : Nat))] ⟨two hq r q w u A s t z ix kk v x row told st row told st, L, H, []⟩ := by
    have hF := T.fit
    have hlz := (hza 0 0 0).lenF
    obtain ⟨b, rfl, hbl, -, hcell⟩ := (hza 0 0 0).at_ hiz
    have hbz : ∀ a c e, (two hq r q w u A s t z ix kk v x a c e a c e)[b]? = some (.cells 0 true (zs.map (Value.int .i64))) := fun a c e => by
      obtain ⟨b', h1, h2, h3, h4⟩ := (hza a c e).at_ hiz
      cases h1; exact h3
    have hbH := hzH b rfl
    have c1 : (i : Int) < zs.length := by omega
    have c2 : 0 ≤ (i : Int) ∧ (i : Int) < zs.length := by omega
    have hlenT := two_len hq r q w u A s t z ix kk v x
    have huH := T.hid
    have huL : ¬ u < L := by have := T.uL; omega
    have hgu := fun a b c a2 b2 c2 => two_get T (row := a) (told := b) (st := c) (row2 := a2) (told2 := b2) (st2 := c2)
    have hFd : Fit hq.length hq.length H := ⟨Nat.le_refl _, hF.2⟩
    have tt := fun d a b c a2 b2 c2 => tw_told (d := d) hFd T (row := a) (told := b) (st := c) (row2 := a2) (told2 := b2) (st2 := c2)
    have ts := fun d a b c a2 b2 c2 => tw_steps (d := d) hFd T (row := a) (told := b) (st := c) (row2 := a2) (told2 := b2) (st2 := c2)
    have ir1 : ((i : Nat) : Int) + 1 = ((i + 1 : Nat) : Int) := by omega
    have hgc := fun fr a b c a2 b2 c2 => gcFr_same (base := hq.length) fr (two hq r q w u A s t z ix kk v x a b c a2 b2 c2) L H [] (by rw [hlenT]; exact Nat.le_refl _)
    unfold rB at hgu
    have n1 := fun d a2 b2 c2 => tw_done (d := d) T (row := row) (told := told) (st := st) (row2 := a2) (told2 := b2) (st2 := c2) hd
    have n2 := fun d a2 b2 c2 => tf_done (d := d) T (row2 := row) (told2 := told) (st2 := st) (row := a2) (told := b2) (st := c2) hd
    rw [iter_by lb9_0.eq_1]
    simp (disch := (first | omega | (simp only [lnE, put_length] <;> omega) | (refine Fit.mono ‹Fit _ _ _› ?_ <;> (simp only [lnE, put_length] <;> omega)) | (refine Fit.draw ‹Fit _ _ _› ?_ ?_ <;> (simp only [lnE, put_length] <;> omega)) | (refine Fit.hid1 ‹Fit _ _ _› ?_ ?_ <;> (simp only [lnE, put_length] <;> omega)) | (refine Fit.draw1 ‹Fit _ _ _› ?_ ?_ ?_ <;> (simp only [lnE, put_length] <;> omega)) | (refine Fit.range0 ?_ ?_ <;> (simp only [lnE, put_length] <;> omega)) | (refine ArOk.mono ‹ArOk _ _ _ _ _› ?_ <;> (simp only [lnE, put_length] <;> omega)) | (refine ArOk.hid ‹ArOk _ _ _ _ _› ?_ ?_ <;> (simp only [lnE, put_length] <;> omega)) | (refine ArOk.hid0 ‹ArOk _ _ _ _ _› ?_ ?_ <;> (simp only [lnE, put_length] <;> omega)) | ((intro xr hxr; simp [AM.refs, refsF, refsC] at hxr) <;> (simp only [lnE, put_length] <;> omega)) | fail)) only [syA, syB, argFr, D, E, T, C, undefv, eqF, aeq, sheqs, sheq, rdCells, cellsOf, fill, putAt, if_true, if_false, reduceIte, ↓reduceIte, reduceCtorEq, eq_self, Nat.reduceEqDiff, Nat.reduceAdd, Nat.reduceSub, Nat.reduceMul, Nat.reduceLT, Nat.reduceLeDiff, Nat.reducePow, Nat.reduceDiv, Nat.reduceMod, Int.reduceLT, Int.reduceLE, Int.reduceGT, Int.reduceGE, Int.reduceToNat, Int.reducePow, Int.reduceNeg, Int.reduceBEq, Int.reduceBNe, Int.reduceEq, Int.reduceAdd, Int.reduceSub, Int.reduceMul, cellv, sc, flatv, refs, refsF, refsC, syR, Int.le_refl, hF.not0, hF.not1, hF.up0, hF.up1, hlz, c1, c2, hbz, hbH, hcell, z0, n1, n2, hlenT, hgu, huH, tt, ts, ir1, hgc]
set_option maxRecDepth 20000 in
theorem mat21_s1 (T : TwOk hq r q w u L H A s t z kk ix v x) (hm : x.length ≤ 60) (hkk : kk ≤ 100) {va : Value} {zs : List Int} (hza : ∀ (a b c : Nat), Ri (two hq r q w u A s t z ix kk v x a b c a b c) va zs) (hzH : ∀ b, va = .slice (some ⟨b, 0, some 0⟩) zs.length 0 → H.contains b = false) (hzl : zs.length ≤ 100) {sb i : Nat} (hiz : i < zs.length) (z0 : zs[i] = 0) (htl : told < x.length) (hri : row ≠ ix) (hr : row ≤ x.length) (hs : st ≤ 1000000) :
    Liter env lb9_0 [14, 12, 3, 10, 9, 0, 2, 15] hq.length [(14, rfP u), (12, wkP w), (3, va), (10, .pointer (some ⟨sb, 0, some 0⟩)), (9, arP r), (0, v), (2, .int .i64 kk), (15, .int .i64 i)] ⟨two hq r q w u A s t z ix kk v x row told st row told st, L, H, []⟩ = Liter env lb9_0 [14, 12, 3, 10, 9, 0, 2, 15] hq.length [(14, rfP u), (12, wkP w), (3, va), (10, .pointer (some ⟨sb, 0, some 0⟩)), (9, arP r), (0, v), (2, .int .i64 kk), (15, .int .i64 (i + 1 : Nat))] ⟨two hq r q w u A s t z ix kk v x (nxR x ix row) (told + 1) (st + 1 + atR ix row % kk) (nxR x ix row) (told + 1) (st + 1 + atR ix row % kk), L, H, []⟩ := by
    have hF := T.fit
    have hlz := (hza 0 0 0).lenF
    obtain ⟨b, rfl, hbl, -, hcell⟩ := (hza 0 0 0).at_ hiz
    have hbz : ∀ a c e, (two hq r q w u A s t z ix kk v x a c e a c e)[b]? = some (.cells 0 true (zs.map (Value.int .i64))) := fun a c e => by
      obtain ⟨b', h1, h2, h3, h4⟩ := (hza a c e).at_ hiz
      cases h1; exact h3
    have hbH := hzH b rfl
    have c1 : (i : Int) < zs.length := by omega
    have c2 : 0 ≤ (i : Int) ∧ (i : Int) < zs.length := by omega
    have hlenT := two_len hq r q w u A s t z ix kk v x
    have huH := T.hid
    have huL : ¬ u < L := by have := T.uL; omega
    have hgu := fun a b c a2 b2 c2 => two_get T (row := a) (told := b) (st := c) (row2 := a2) (told2 := b2) (st2 := c2)
    have hFd : Fit hq.length hq.length H := ⟨Nat.le_refl _, hF.2⟩
    have tt := fun d a b c a2 b2 c2 => tw_told (d := d) hFd T (row := a) (told := b) (st := c) (row2 := a2) (told2 := b2) (st2 := c2)
    have ts := fun d a b c a2 b2 c2 => tw_steps (d := d) hFd T (row := a) (told := b) (st := c) (row2 := a2) (told2 := b2) (st2 := c2)
    have ir1 : ((i : Nat) : Int) + 1 = ((i + 1 : Nat) : Int) := by omega
    have hgc := fun fr a b c a2 b2 c2 => gcFr_same (base := hq.length) fr (two hq r q w u A s t z ix kk v x a b c a2 b2 c2) L H [] (by rw [hlenT]; exact Nat.le_refl _)
    unfold rB at hgu
    have hx := atR_lt' hr T.k.ixm hri
    have n1 := fun d a2 b2 c2 => tw_next (d := d) T (row := row) (told := told) (st := st) (row2 := a2) (told2 := b2) (st2 := c2) htl (by omega) hr hri hx
    have n2 := fun d a2 b2 c2 => tf_next (d := d) T (row2 := row) (told2 := told) (st2 := st) (row := a2) (told := b2) (st := c2) htl (by omega) hr hri hx
    generalize x[atR ix row] = y at *
    generalize nxR x ix row = nx at *
    generalize st + 1 + atR ix row % kk = ns at *
    rw [iter_by lb9_0.eq_1]
    simp (disch := (first | omega | (simp only [lnE, put_length] <;> omega) | (refine Fit.mono ‹Fit _ _ _› ?_ <;> (simp only [lnE, put_length] <;> omega)) | (refine Fit.draw ‹Fit _ _ _› ?_ ?_ <;> (simp only [lnE, put_length] <;> omega)) | (refine Fit.hid1 ‹Fit _ _ _› ?_ ?_ <;> (simp only [lnE, put_length] <;> omega)) | (refine Fit.draw1 ‹Fit _ _ _› ?_ ?_ ?_ <;> (simp only [lnE, put_length] <;> omega)) | (refine Fit.range0 ?_ ?_ <;> (simp only [lnE, put_length] <;> omega)) | (refine ArOk.mono ‹ArOk _ _ _ _ _› ?_ <;> (simp only [lnE, put_length] <;> omega)) | (refine ArOk.hid ‹ArOk _ _ _ _ _› ?_ ?_ <;> (simp only [lnE, put_length] <;> omega)) | (refine ArOk.hid0 ‹ArOk _ _ _ _ _› ?_ ?_ <;> (simp only [lnE, put_length] <;> omega)) | ((intro xr hxr; simp [AM.refs, refsF, refsC] at hxr) <;> (simp only [lnE, put_length] <;> omega)) | fail)) only [syA, syB, argFr, D, E, T, C, undefv, eqF, aeq, sheqs, sheq, rdCells, cellsOf, fill, putAt, if_true, if_false, reduceIte, ↓reduceIte, reduceCtorEq, eq_self, Nat.reduceEqDiff, Nat.reduceAdd, Nat.reduceSub, Nat.reduceMul, Nat.reduceLT, Nat.reduceLeDiff, Nat.reducePow, Nat.reduceDiv, Nat.reduceMod, Int.reduceLT, Int.reduceLE, Int.reduceGT, Int.reduceGE, Int.reduceToNat, Int.reducePow, Int.reduceNeg, Int.reduceBEq, Int.reduceBNe, Int.reduceEq, Int.reduceAdd, Int.reduceSub, Int.reduceMul, cellv, sc, flatv, refs, refsF, refsC, syR, Int.le_refl, hF.not0, hF.not1, hF.up0, hF.up1, hlz, c1, c2, hbz, hbH, hcell, z0, n1, n2, hlenT, hgu, huH, tt, ts, ir1, hgc]
set_option maxRecDepth 20000 in
theorem mat21_s2 (T : TwOk hq r q w u L H A s t z kk ix v x) (hm : x.length ≤ 60) (hkk : kk ≤ 100) {va : Value} {zs : List Int} (hza : ∀ (a b c : Nat), Ri (two hq r q w u A s t z ix kk v x a b c a b c) va zs) (hzH : ∀ b, va = .slice (some ⟨b, 0, some 0⟩) zs.length 0 → H.contains b = false) (hzl : zs.length ≤ 100) {sb i : Nat} (hiz : i < zs.length) (z1 : zs[i] = 1) (hs : st ≤ 1000000) :
    Liter env lb9_0 [14, 12, 3, 10, 9, 0, 2, 15] hq.length [(14, rfP u), (12, wkP w), (3, va), (10, .pointer (some ⟨sb, 0, some 0⟩)), (9, arP r), (0, v), (2, .int .i64 kk), (15, .int .i64 i)] ⟨two hq r q w u A s t z ix kk v x row told st row told st, L, H, []⟩ = Liter env lb9_0 [14, 12, 3, 10, 9, 0, 2, 15] hq.length [(14, rfP u), (12, wkP w), (3, va), (10, .pointer (some ⟨sb, 0, some 0⟩)), (9, arP r), (0, v), (2, .int .i64 kk), (15, .int .i64 (i + 1 : Nat))] ⟨two hq r q w u A s t z ix kk v x row told (vw (fun a => a % kk) x ix x.length 0 st).2 row told (vw (fun a => a % kk) x ix x.length 0 st).2, L, H, []⟩ := by
    have hF := T.fit
    have hlz := (hza 0 0 0).lenF
    obtain ⟨b, rfl, hbl, -, hcell⟩ := (hza 0 0 0).at_ hiz
    have hbz : ∀ a c e, (two hq r q w u A s t z ix kk v x a c e a c e)[b]? = some (.cells 0 true (zs.map (Value.int .i64))) := fun a c e => by
      obtain ⟨b', h1, h2, h3, h4⟩ := (hza a c e).at_ hiz
      cases h1; exact h3
    have hbH := hzH b rfl
    have c1 : (i : Int) < zs.length := by omega
    have c2 : 0 ≤ (i : Int) ∧ (i : Int) < zs.length := by omega
    have hlenT := two_len hq r q w u A s t z ix kk v x
    have huH := T.hid
    have huL : ¬ u < L := by have := T.uL; omega
    have hgu := fun a b c a2 b2 c2 => two_get T (row := a) (told := b) (st := c) (row2 := a2) (told2 := b2) (st2 := c2)
    have hFd : Fit hq.length hq.length H := ⟨Nat.le_refl _, hF.2⟩
    have tt := fun d a b c a2 b2 c2 => tw_told (d := d) hFd T (row := a) (told := b) (st := c) (row2 := a2) (told2 := b2) (st2 := c2)
    have ts := fun d a b c a2 b2 c2 => tw_steps (d := d) hFd T (row := a) (told := b) (st := c) (row2 := a2) (told2 := b2) (st2 := c2)
    have ir1 : ((i : Nat) : Int) + 1 = ((i + 1 : Nat) : Int) := by omega
    have hgc := fun fr a b c a2 b2 c2 => gcFr_same (base := hq.length) fr (two hq r q w u A s t z ix kk v x a b c a2 b2 c2) L H [] (by rw [hlenT]; exact Nat.le_refl _)
    unfold rB at hgu
    have n1 := fun d a2 b2 c2 => tw_valid (d := d) T (row := row) (told := told) (st := st) (row2 := a2) (told2 := b2) (st2 := c2) (by omega) (by omega)
    have n2 := fun d a2 b2 c2 => tf_valid (d := d) T (row2 := row) (told2 := told) (st2 := st) (row := a2) (told := b2) (st := c2) (by omega) (by omega)
    generalize (vw (fun a => a % kk) x ix x.length 0 st).2 = ns at *
    generalize (vw (fun _ => 0) x ix x.length 0 0).1 = V at *
    rw [iter_by lb9_0.eq_1]
    simp (disch := (first | omega | (simp only [lnE, put_length] <;> omega) | (refine Fit.mono ‹Fit _ _ _› ?_ <;> (simp only [lnE, put_length] <;> omega)) | (refine Fit.draw ‹Fit _ _ _› ?_ ?_ <;> (simp only [lnE, put_length] <;> omega)) | (refine Fit.hid1 ‹Fit _ _ _› ?_ ?_ <;> (simp only [lnE, put_length] <;> omega)) | (refine Fit.draw1 ‹Fit _ _ _› ?_ ?_ ?_ <;> (simp only [lnE, put_length] <;> omega)) | (refine Fit.range0 ?_ ?_ <;> (simp only [lnE, put_length] <;> omega)) | (refine ArOk.mono ‹ArOk _ _ _ _ _› ?_ <;> (simp only [lnE, put_length] <;> omega)) | (refine ArOk.hid ‹ArOk _ _ _ _ _› ?_ ?_ <;> (simp only [lnE, put_length] <;> omega)) | (refine ArOk.hid0 ‹ArOk _ _ _ _ _› ?_ ?_ <;> (simp only [lnE, put_length] <;> omega)) | ((intro xr hxr; simp [AM.refs, refsF, refsC] at hxr) <;> (simp only [lnE, put_length] <;> omega)) | fail)) only [syA, syB, argFr, D, E, T, C, undefv, eqF, aeq, sheqs, sheq, rdCells, cellsOf, fill, putAt, if_true, if_false, reduceIte, ↓reduceIte, reduceCtorEq, eq_self, Nat.reduceEqDiff, Nat.reduceAdd, Nat.reduceSub, Nat.reduceMul, Nat.reduceLT, Nat.reduceLeDiff, Nat.reducePow, Nat.reduceDiv, Nat.reduceMod, Int.reduceLT, Int.reduceLE, Int.reduceGT, Int.reduceGE, Int.reduceToNat, Int.reducePow, Int.reduceNeg, Int.reduceBEq, Int.reduceBNe, Int.reduceEq, Int.reduceAdd, Int.reduceSub, Int.reduceMul, cellv, sc, flatv, refs, refsF, refsC, syR, Int.le_refl, hF.not0, hF.not1, hF.up0, hF.up1, hlz, c1, c2, hbz, hbH, hcell, z1, n1, n2, hlenT, hgu, huH, tt, ts, ir1, hgc]
set_option maxRecDepth 20000 in
theorem mat21_s3 (T : TwOk hq r q w u L H A s t z kk ix v x) (hm : x.length ≤ 60) (hkk : kk ≤ 100) {va : Value} {zs : List Int} (hza : ∀ (a b c : Nat), Ri (two hq r q w u A s t z ix kk v x a b c a b c) va zs) (hzH : ∀ b, va = .slice (some ⟨b, 0, some 0⟩) zs.length 0 → H.contains b = false) (hzl : zs.length ≤ 100) {sb i : Nat} (hiz : i < zs.length) (z0 : zs[i] ≠ 0) (z1 : zs[i] ≠ 1) :
    Liter env lb9_0 [14, 12, 3, 10, 9, 0, 2, 15] hq.length [(14, rfP u), (12, wkP w), (3, va), (10, .pointer (some ⟨sb, 0, some 0⟩)), (9, arP r), (0, v), (2, .int .i64 kk), (15, .int .i64 i)] ⟨two hq r q w u A s t z ix kk v x row told st row told st, L, H, []⟩ = Liter env lb9_0 [14, 12, 3, 10, 9, 0, 2, 15] hq.length [(14, rfP u), (12, wkP w), (3, va), (10, .pointer (some ⟨sb, 0, some 0⟩)), (9, arP r), (0, v), (2, .int .i64 kk), (15, .int .i64 (i + 1 : Nat))] ⟨two hq r q w u A s t z ix kk v x 0 0 st 0 0 st, L, H, []⟩ := by
    have hF := T.fit
    have hlz := (hza 0 0 0).lenF
    obtain ⟨b, rfl, hbl, -, hcell⟩ := (hza 0 0 0).at_ hiz
    have hbz : ∀ a c e, (two hq r q w u A s t z ix kk v x a c e a c e)[b]? = some (.cells 0 true (zs.map (Value.int .i64))) := fun a c e => by
      obtain ⟨b', h1, h2, h3, h4⟩ := (hza a c e).at_ hiz
      cases h1; exact h3
    have hbH := hzH b rfl
    have c1 : (i : Int) < zs.length := by omega
    have c2 : 0 ≤ (i : Int) ∧ (i : Int) < zs.length := by omega
    have hlenT := two_len hq r q w u A s t z ix kk v x
    have huH := T.hid
    have huL : ¬ u < L := by have := T.uL; omega
    have hgu := fun a b c a2 b2 c2 => two_get T (row := a) (told := b) (st := c) (row2 := a2) (told2 := b2) (st2 := c2)
    have hFd : Fit hq.length hq.length H := ⟨Nat.le_refl _, hF.2⟩
    have tt := fun d a b c a2 b2 c2 => tw_told (d := d) hFd T (row := a) (told := b) (st := c) (row2 := a2) (told2 := b2) (st2 := c2)
    have ts := fun d a b c a2 b2 c2 => tw_steps (d := d) hFd T (row := a) (told := b) (st := c) (row2 := a2) (told2 := b2) (st2 := c2)
    have ir1 : ((i : Nat) : Int) + 1 = ((i + 1 : Nat) : Int) := by omega
    have hgc := fun fr a b c a2 b2 c2 => gcFr_same (base := hq.length) fr (two hq r q w u A s t z ix kk v x a b c a2 b2 c2) L H [] (by rw [hlenT]; exact Nat.le_refl _)
    unfold rB at hgu
    have z0' : (zs[i] == 0) = false := by rw [beq_eq_false_iff_ne]; exact z0
    have z1' : (zs[i] == 1) = false := by rw [beq_eq_false_iff_ne]; exact z1
    have n1 := fun d a2 b2 c2 => tw_reset (d := d) T (row := row) (told := told) (st := st) (row2 := a2) (told2 := b2) (st2 := c2)
    have hs1 := two_set T (row := 0) (told := 0) (st := st) (row2 := row) (told2 := told) (st2 := st) (a := 0) (b := told) (c := st)
    have hs2 := two_set T (row := 0) (told := 0) (st := st) (row2 := 0) (told2 := told) (st2 := st) (a := 0) (b := 0) (c := st)
    simp only [Int.natCast_zero] at hs1 hs2
    rw [iter_by lb9_0.eq_1]
    simp (disch := (first | omega | (simp only [lnE, put_length] <;> omega) | (refine Fit.mono ‹Fit _ _ _› ?_ <;> (simp only [lnE, put_length] <;> omega)) | (refine Fit.draw ‹Fit _ _ _› ?_ ?_ <;> (simp only [lnE, put_length] <;> omega)) | (refine Fit.hid1 ‹Fit _ _ _› ?_ ?_ <;> (simp only [lnE, put_length] <;> omega)) | (refine Fit.draw1 ‹Fit _ _ _› ?_ ?_ ?_ <;> (simp only [lnE, put_length] <;> omega)) | (refine Fit.range0 ?_ ?_ <;> (simp only [lnE, put_length] <;> omega)) | (refine ArOk.mono ‹ArOk _ _ _ _ _› ?_ <;> (simp only [lnE, put_length] <;> omega)) | (refine ArOk.hid ‹ArOk _ _ _ _ _› ?_ ?_ <;> (simp only [lnE, put_length] <;> omega)) | (refine ArOk.hid0 ‹ArOk _ _ _ _ _› ?_ ?_ <;> (simp only [lnE, put_length] <;> omega)) | ((intro xr hxr; simp [AM.refs, refsF, refsC] at hxr) <;> (simp only [lnE, put_length] <;> omega)) | fail)) only [syA, syB, argFr, D, E, T, C, undefv, eqF, aeq, sheqs, sheq, rdCells, cellsOf, fill, putAt, if_true, if_false, reduceIte, ↓reduceIte, reduceCtorEq, eq_self, Nat.reduceEqDiff, Nat.reduceAdd, Nat.reduceSub, Nat.reduceMul, Nat.reduceLT, Nat.reduceLeDiff, Nat.reducePow, Nat.reduceDiv, Nat.reduceMod, Int.reduceLT, Int.reduceLE, Int.reduceGT, Int.reduceGE, Int.reduceToNat, Int.reducePow, Int.reduceNeg, Int.reduceBEq, Int.reduceBNe, Int.reduceEq, Int.reduceAdd, Int.reduceSub, Int.reduceMul, cellv, sc, flatv, refs, refsF, refsC, syR, Int.le_refl, hF.not0, hF.not1, hF.up0, hF.up1, hlz, c1, c2, hbz, hbH, hcell, z0', z0, z1', z1, n1, huL, hs1, hs2, Int.natCast_zero, hlenT, hgu, huH, tt, ts, ir1, hgc]
theorem mat21_loop (T : TwOk hq r q w u L H A s t z kk ix v x) (hm : x.length ≤ 60) (hkk : kk ≤ 100) {va : Value} {zs : List Int} (hza : ∀ (a b c : Nat), Ri (two hq r q w u A s t z ix kk v x a b c a b c) va zs) (hzH : ∀ b, va = .slice (some ⟨b, 0, some 0⟩) zs.length 0 → H.contains b = false) (hzl : zs.length ≤ 100) {sb : Nat} :
    ∀ (n i : Nat), i + n = zs.length → ∀ (row told st : Nat), row ≤ x.length → told ≤ x.length → st + n * 7000 ≤ 1000000 → ∃ fr row' told' st',
    Liter env lb9_0 [14, 12, 3, 10, 9, 0, 2, 15] hq.length [(14, rfP u), (12, wkP w), (3, va), (10, .pointer (some ⟨sb, 0, some 0⟩)), (9, arP r), (0, v), (2, .int .i64 kk), (15, .int .i64 i)] ⟨two hq r q w u A s t z ix kk v x row told st row told st, L, H, []⟩ =
      some (.exit 0, fr, ⟨two hq r q w u A s t z ix kk v x row' told' st' row' told' st', L, H, []⟩) ∧ fr.get 9 = some (arP r) ∧ fr.get 10 = some (.pointer (some ⟨sb, 0, some 0⟩)) ∧ fr.get 0 = some v ∧ fr.get 2 = some (.int .i64 kk)
  | 0, i, hi, row, told, st, hr, ht, hs => by
    obtain rfl : i = zs.length := by omega
    have hlz := (hza 0 0 0).lenF
    rw [iter_by lb9_0.eq_1]
    simp (disch := (first | omega | (simp only [lnE, put_length] <;> omega) | (refine Fit.mono ‹Fit _ _ _› ?_ <;> (simp only [lnE, put_length] <;> omega)) | (refine Fit.draw ‹Fit _ _ _› ?_ ?_ <;> (simp only [lnE, put_length] <;> omega)) | (refine Fit.hid1 ‹Fit _ _ _› ?_ ?_ <;> (simp only [lnE, put_length] <;> omega)) | (refine Fit.draw1 ‹Fit _ _ _› ?_ ?_ ?_ <;> (simp only [lnE, put_length] <;> omega)) | (refine Fit.range0 ?_ ?_ <;> (simp only [lnE, put_length] <;> omega)) | (refine ArOk.mono ‹ArOk _ _ _ _ _› ?_ <;> (simp only [lnE, put_length] <;> omega)) | (refine ArOk.hid ‹ArOk _ _ _ _ _› ?_ ?_ <;> (simp only [lnE, put_length] <;> omega)) | (refine ArOk.hid0 ‹ArOk _ _ _ _ _› ?_ ?_ <;> (simp only [lnE, put_length] <;> omega)) | ((intro xr hxr; simp [AM.refs, refsF, refsC] at hxr) <;> (simp only [lnE, put_length] <;> omega)) | fail)) only [syA, syB, argFr, D, E, T, C, undefv, eqF, aeq, sheqs, sheq, rdCells, cellsOf, fill, putAt, if_true, if_false, reduceIte, ↓reduceIte, reduceCtorEq, eq_self, Nat.reduceEqDiff, Nat.reduceAdd, Nat.reduceSub, Nat.reduceMul, Nat.reduceLT, Nat.reduceLeDiff, Nat.reducePow, Nat.reduceDiv, Nat.reduceMod, Int.reduceLT, Int.reduceLE, Int.reduceGT, Int.reduceGE, Int.reduceToNat, Int.reducePow, Int.reduceNeg, Int.reduceBEq, Int.reduceBNe, Int.reduceEq, Int.reduceAdd, Int.reduceSub, Int.reduceMul, cellv, sc, flatv, refs, refsF, refsC, syR, Int.le_refl, hlz]
    exact ⟨_, row, told, st, rfl, rfl, rfl, rfl, rfl⟩
  | n + 1, i, hi, row, told, st, hr, ht, hs => by
    have hiz : i < zs.length := by omega
    rw [Nat.add_mul, Nat.one_mul] at hs
    generalize hB : n * 7000 = nb at hs
    have hb0 : st + n * 7000 ≤ 1000000 := by rw [hB]; omega
    by_cases z0 : zs[i] = 0
    · by_cases hd : told = x.length ∨ row = ix
      · rw [mat21_s0 T hm hkk hza hzH hzl hiz z0 hd]
        exact mat21_loop T hm hkk hza hzH hzl n (i + 1) (by omega) row told st hr ht hb0
      · have hri : row ≠ ix := fun h => hd (.inr h)
        have hnx := nxR_le hr T.k.ixm hri
        have hmod : atR ix row % kk < kk := Nat.mod_lt _ (by have := T.k.kk1; omega)
        have htl : told < x.length := by
          rcases Nat.lt_or_ge told x.length with h | h
          · exact h
          · exact absurd (.inl (by omega)) hd
        rw [mat21_s1 T hm hkk hza hzH hzl hiz z0 htl hri hr (by omega)]
        exact mat21_loop T hm hkk hza hzH hzl n (i + 1) (by omega) (nxR x ix row) (told + 1) (st + 1 + atR ix row % kk) hnx (by omega) (by rw [hB]; omega)
    · by_cases z1 : zs[i] = 1
      · have hvc := (vw_cost (f := fun a => a % kk) (k := 100) (fun a => by have := Nat.mod_lt a (show 0 < kk by have := T.k.kk1; omega); omega) (x := x) (ix := ix) x.length 0 st).2
        rw [mat21_s2 T hm hkk hza hzH hzl hiz z1 (by omega)]
        exact mat21_loop T hm hkk hza hzH hzl n (i + 1) (by omega) row told _ hr ht (by rw [hB]; omega)
      · rw [mat21_s3 T hm hkk hza hzH hzl hiz z0 z1]
        exact mat21_loop T hm hkk hza hzH hzl n (i + 1) (by omega) 0 0 st (Nat.zero_le _) (Nat.zero_le _) hb0
end
theorem made21L {hp : List Blk} {x : List Nat} (hb : By x) (hx1 : 1 ≤ x.length) (hx : x.length ≤ 100) {kk sz ix : Nat} (hk : 1 ≤ kk ∧ kk ≤ 100) (hsz : 4 * (256 * (x.length / kk)) = sz) (hix : 1 ≤ ix ∧ ix ≤ x.length) (L : Nat) (hL : L ≤ hp.length) (d0 : List Blk) (hd0 : d0.length = 2) : ∃ B,
    (∀ d, Lrun env (.func 34) [arP hp.length, .agg #[.int .i64 0, .int .i64 x.length], .int .i64 ix, .agg #[.int .i64 x.length, .int .i64 sz], .int .i64 kk] ⟨put (hp ++ [default, default] ++ d0) hp.length (hp.length + 1) (rl x sz), L, [], d⟩ =
      some (.tuple #[.pointer (some ⟨hp.length + 4, 0, some 0⟩), .int .i64 0], ⟨put (hp ++ [default, default] ++ d0 ++ [wB hp.length 0 x.length sz ix kk x 0 0 0]) hp.length (hp.length + 1) B, L, [], d⟩)) ∧
    WkOk (hp.length + 5) hp.length (hp.length + 1) (hp.length + 4) L [] B 0 x.length sz kk ix x ∧ B.live = ((x.length + sz + 1 : Nat) : Int) := by
  have hdv : x.length / kk ≤ x.length := Nat.div_le_self _ _
  have hsz2 := rSize_nat (m := x.length) (k := kk) (by omega) (by omega)
  rw [hsz] at hsz2
  have k0 : ArOk (hp.length + 2) hp.length (hp.length + 1) [] (rl x sz) := rl_ok (by omega) (by omega) (by omega) rfl rfl hb (by omega)
  have hv0 : rValid (rl x sz) (0 : Nat) x.length x.length sz kk = true := rl_valid (by omega) (by omega) (by omega) hsz2
  have hlen : (hp ++ [default, default] ++ d0).length = hp.length + 4 := by simp [hd0]
  obtain ⟨B, n1, m1, rk1, h1, k1⟩ := rnew_walk (ix := ix) (hp := hp ++ [default, default] ++ d0) (L := L) (H := []) (r := hp.length) (q := hp.length + 1) ⟨by omega, Low.nil _⟩ (k0.mono (by omega)) (by omega) (rl_holds x sz) hv0 hix
  have v1 : rValid B (0 : Nat) x.length x.length sz kk = true := by rw [rValid_live m1.live]; exact hv0
  simp only [hlen, Int.natCast_zero] at n1
  refine ⟨B, fun d => n1 d, ?_, by rw [m1.live, rl_live]⟩
  exact ⟨(m1.ok k0).mono (by omega), h1, v1, by omega, by omega, rk1, by omega, by omega, by omega, by omega, rfl, by omega, hb⟩
theorem Ri_app {hp nw : List Blk} {v : Value} {zs : List Int} (h : Ri hp v zs) : Ri (hp ++ nw) v zs := by
  rcases h.form with h1 | ⟨b, h1, hb⟩
  · exact ⟨.inl h1⟩
  · exact ⟨.inr ⟨b, h1, by rw [List.getElem?_append_left (List.getElem?_eq_some_iff.1 hb).1]; exact hb⟩⟩
theorem Ri.put {hp nw : List Blk} {v : Value} {zs : List Int} {r q : Nat} {A : Arn} (h : Ri hp v zs) (hr : hp.length ≤ r) (hq : hp.length ≤ q) : Ri (put (hp ++ nw) r q A) v zs := by
  rcases h.form with h1 | ⟨b, h1, hb⟩
  · exact ⟨.inl h1⟩
  · have hbl := (List.getElem?_eq_some_iff.1 hb).1
    exact ⟨.inr ⟨b, h1, by rw [put_o (by omega) (by omega), List.getElem?_append_left hbl]; exact hb⟩⟩
set_option maxRecDepth 20000 in
theorem rwmat_run {hp : List Blk} {v va : Value} {x : List Nat} {zs : List Int} (hr : Rd ⟨hp, hp.length, [], []⟩ v x) (hz : Ri hp va zs) (ix : Int) (hi0 : -9223372036854775808 ≤ ix) (hi1 : ix ≤ 9223372036854775807) (kk : Int) (hk0 : -9223372036854775808 ≤ kk) (hk1 : kk ≤ 9223372036854775807) :
    ∃ σ', Lrun env (.func 9) [v, .int .i64 ix, .int .i64 kk, va] ⟨hp, hp.length, [], []⟩ = some (.bool true, σ') := by
  have hF : Fit hp.length hp.length [] := ⟨Nat.le_refl _, Low.nil _⟩
  have hlen := hr.lenF
  have hlz := hz.lenF
  rw [Lrun_sym 9 _ _ fn9]
  by_cases g1 : (x.length : Int) = 0
  · simp (disch := (first | omega | (simp only [lnE] <;> omega) | (refine Fit.mono ‹Fit _ _ _› ?_ <;> (simp only [lnE] <;> omega)) | (refine Fit.draw ‹Fit _ _ _› ?_ ?_ <;> (simp only [lnE] <;> omega)) | (refine Fit.hid1 ‹Fit _ _ _› ?_ ?_ <;> (simp only [lnE] <;> omega)) | (refine Fit.draw1 ‹Fit _ _ _› ?_ ?_ ?_ <;> (simp only [lnE] <;> omega)) | (refine Fit.range0 ?_ ?_ <;> (simp only [lnE] <;> omega)) | fail)) only [syA, syB, argFr, D, E, T, C, undefv, eqF, aeq, sheqs, sheq, rdCells, cellsOf, fill, putAt, if_true, if_false, reduceIte, ↓reduceIte, reduceCtorEq, eq_self, Nat.reduceEqDiff, Nat.reduceAdd, Nat.reduceSub, Nat.reduceMul, Nat.reduceLT, Nat.reduceLeDiff, Nat.reducePow, Nat.reduceDiv, Nat.reduceMod, Int.reduceLT, Int.reduceLE, Int.reduceGT, Int.reduceGE, Int.reduceToNat, Int.reducePow, Int.reduceNeg, Int.reduceBEq, Int.reduceBNe, Int.reduceEq, Int.reduceAdd, Int.reduceSub, Int.reduceMul, cellv, sc, flatv, refs, refsF, refsC, hF.not0, hF.not1, hF.up0, hF.up1, ac9, hlen, g1, wakes21_walk]
    exact ⟨_, rfl⟩
  have g1' : ((x.length : Int) == 0) = false := by rw [beq_eq_false_iff_ne]; exact g1
  by_cases g2 : (x.length : Int) > 60
  · simp (disch := (first | omega | (simp only [lnE] <;> omega) | (refine Fit.mono ‹Fit _ _ _› ?_ <;> (simp only [lnE] <;> omega)) | (refine Fit.draw ‹Fit _ _ _› ?_ ?_ <;> (simp only [lnE] <;> omega)) | (refine Fit.hid1 ‹Fit _ _ _› ?_ ?_ <;> (simp only [lnE] <;> omega)) | (refine Fit.draw1 ‹Fit _ _ _› ?_ ?_ ?_ <;> (simp only [lnE] <;> omega)) | (refine Fit.range0 ?_ ?_ <;> (simp only [lnE] <;> omega)) | fail)) only [syA, syB, argFr, D, E, T, C, undefv, eqF, aeq, sheqs, sheq, rdCells, cellsOf, fill, putAt, if_true, if_false, reduceIte, ↓reduceIte, reduceCtorEq, eq_self, Nat.reduceEqDiff, Nat.reduceAdd, Nat.reduceSub, Nat.reduceMul, Nat.reduceLT, Nat.reduceLeDiff, Nat.reducePow, Nat.reduceDiv, Nat.reduceMod, Int.reduceLT, Int.reduceLE, Int.reduceGT, Int.reduceGE, Int.reduceToNat, Int.reducePow, Int.reduceNeg, Int.reduceBEq, Int.reduceBNe, Int.reduceEq, Int.reduceAdd, Int.reduceSub, Int.reduceMul, cellv, sc, flatv, refs, refsF, refsC, hF.not0, hF.not1, hF.up0, hF.up1, ac9, hlen, g1', g2, wakes21_walk]
    exact ⟨_, rfl⟩
  by_cases g3 : kk < 1
  · simp (disch := (first | omega | (simp only [lnE] <;> omega) | (refine Fit.mono ‹Fit _ _ _› ?_ <;> (simp only [lnE] <;> omega)) | (refine Fit.draw ‹Fit _ _ _› ?_ ?_ <;> (simp only [lnE] <;> omega)) | (refine Fit.hid1 ‹Fit _ _ _› ?_ ?_ <;> (simp only [lnE] <;> omega)) | (refine Fit.draw1 ‹Fit _ _ _› ?_ ?_ ?_ <;> (simp only [lnE] <;> omega)) | (refine Fit.range0 ?_ ?_ <;> (simp only [lnE] <;> omega)) | fail)) only [syA, syB, argFr, D, E, T, C, undefv, eqF, aeq, sheqs, sheq, rdCells, cellsOf, fill, putAt, if_true, if_false, reduceIte, ↓reduceIte, reduceCtorEq, eq_self, Nat.reduceEqDiff, Nat.reduceAdd, Nat.reduceSub, Nat.reduceMul, Nat.reduceLT, Nat.reduceLeDiff, Nat.reducePow, Nat.reduceDiv, Nat.reduceMod, Int.reduceLT, Int.reduceLE, Int.reduceGT, Int.reduceGE, Int.reduceToNat, Int.reducePow, Int.reduceNeg, Int.reduceBEq, Int.reduceBNe, Int.reduceEq, Int.reduceAdd, Int.reduceSub, Int.reduceMul, cellv, sc, flatv, refs, refsF, refsC, hF.not0, hF.not1, hF.up0, hF.up1, ac9, hlen, g1', g2, g3, wakes21_walk]
    exact ⟨_, rfl⟩
  by_cases g4 : kk > 100
  · simp (disch := (first | omega | (simp only [lnE] <;> omega) | (refine Fit.mono ‹Fit _ _ _› ?_ <;> (simp only [lnE] <;> omega)) | (refine Fit.draw ‹Fit _ _ _› ?_ ?_ <;> (simp only [lnE] <;> omega)) | (refine Fit.hid1 ‹Fit _ _ _› ?_ ?_ <;> (simp only [lnE] <;> omega)) | (refine Fit.draw1 ‹Fit _ _ _› ?_ ?_ ?_ <;> (simp only [lnE] <;> omega)) | (refine Fit.range0 ?_ ?_ <;> (simp only [lnE] <;> omega)) | fail)) only [syA, syB, argFr, D, E, T, C, undefv, eqF, aeq, sheqs, sheq, rdCells, cellsOf, fill, putAt, if_true, if_false, reduceIte, ↓reduceIte, reduceCtorEq, eq_self, Nat.reduceEqDiff, Nat.reduceAdd, Nat.reduceSub, Nat.reduceMul, Nat.reduceLT, Nat.reduceLeDiff, Nat.reducePow, Nat.reduceDiv, Nat.reduceMod, Int.reduceLT, Int.reduceLE, Int.reduceGT, Int.reduceGE, Int.reduceToNat, Int.reducePow, Int.reduceNeg, Int.reduceBEq, Int.reduceBNe, Int.reduceEq, Int.reduceAdd, Int.reduceSub, Int.reduceMul, cellv, sc, flatv, refs, refsF, refsC, hF.not0, hF.not1, hF.up0, hF.up1, ac9, hlen, g1', g2, g3, g4, wakes21_walk]
    exact ⟨_, rfl⟩
  by_cases g5 : (zs.length : Int) > 100
  · simp (disch := (first | omega | (simp only [lnE] <;> omega) | (refine Fit.mono ‹Fit _ _ _› ?_ <;> (simp only [lnE] <;> omega)) | (refine Fit.draw ‹Fit _ _ _› ?_ ?_ <;> (simp only [lnE] <;> omega)) | (refine Fit.hid1 ‹Fit _ _ _› ?_ ?_ <;> (simp only [lnE] <;> omega)) | (refine Fit.draw1 ‹Fit _ _ _› ?_ ?_ ?_ <;> (simp only [lnE] <;> omega)) | (refine Fit.range0 ?_ ?_ <;> (simp only [lnE] <;> omega)) | fail)) only [syA, syB, argFr, D, E, T, C, undefv, eqF, aeq, sheqs, sheq, rdCells, cellsOf, fill, putAt, if_true, if_false, reduceIte, ↓reduceIte, reduceCtorEq, eq_self, Nat.reduceEqDiff, Nat.reduceAdd, Nat.reduceSub, Nat.reduceMul, Nat.reduceLT, Nat.reduceLeDiff, Nat.reducePow, Nat.reduceDiv, Nat.reduceMod, Int.reduceLT, Int.reduceLE, Int.reduceGT, Int.reduceGE, Int.reduceToNat, Int.reducePow, Int.reduceNeg, Int.reduceBEq, Int.reduceBNe, Int.reduceEq, Int.reduceAdd, Int.reduceSub, Int.reduceMul, cellv, sc, flatv, refs, refsF, refsC, hF.not0, hF.not1, hF.up0, hF.up1, ac9, hlen, hlz, g1', g2, g3, g4, g5, wakes21_walk]
    exact ⟨_, rfl⟩
  obtain ⟨kk, rfl⟩ := Int.eq_ofNat_of_zero_le (by omega : 0 ≤ kk)
  have hdv : x.length / kk ≤ x.length := Nat.div_le_self _ _
  obtain ⟨sz, hszn⟩ : ∃ sz, 4 * (256 * (x.length / kk)) = sz := ⟨_, rfl⟩
  have hm : 1024 * (x.length : Int).tdiv kk = (sz : Int) := by
    rw [show (x.length : Int).tdiv (kk : Int) = ((x.length / kk : Nat) : Int) from rfl]; omega
  have hs : (if (kk : Int) > 0 then 1024 * (x.length : Int).tdiv kk else 0) = (sz : Int) := by rw [if_pos (by omega), hm]
  have ld := laid21_walk (d := []) (kk := kk) (sz := sz) (e := 0) hF hr (by omega) hs (by omega) (by omega)
  simp only [Nat.add_zero, Nat.zero_add, Int.natCast_one] at ld
  by_cases g6 : 1 ≤ ix ∧ ix ≤ x.length
  · obtain ⟨ix, rfl⟩ := Int.eq_ofNat_of_zero_le (by omega : 0 ≤ ix)
    obtain ⟨B, n1, k1, hlv⟩ := made21L (hp := hp) hr.by_ (by omega) (by omega) (kk := kk) (ix := ix) (by omega) hszn (by omega) hp.length (by omega) [.cells 0 true [.int .i64 0, .int .i64 x.length], .cells 0 true [.int .i64 x.length, .int .i64 sz]] rfl
    obtain ⟨hq, hqe⟩ : ∃ hq, hq = hp ++ [default, default, Blk.cells 0 true [.int .i64 0, .int .i64 x.length], .cells 0 true [.int .i64 x.length, .int .i64 sz], default, default] := ⟨_, rfl⟩
    have hset : ∀ W W', (hq.set (hp.length + 4) W).set (hp.length + 5) W' = hp ++ [default, default, Blk.cells 0 true [.int .i64 0, .int .i64 x.length], .cells 0 true [.int .i64 x.length, .int .i64 sz], W, W'] := fun W W' => by rw [hqe]; simp only [set_new, List.set_cons_succ, List.set_cons_zero]
    have hql : hq.length = hp.length + 6 := by rw [hqe]; simp
    have T : TwOk hq hp.length (hp.length + 1) (hp.length + 4) (hp.length + 5) hp.length [] B 0 x.length sz kk ix v x := {
      fit := ⟨by omega, Low.nil _⟩
      k := k1.mono (by omega)
      ne := by omega
      ur := by omega
      uq := by omega
      un := by omega
      uL := by omega
      hid := rfl
      rd := fun B1 B2 => by rw [hset]; exact hr.put (by omega) (by omega) }
    have htwo : ∀ a b c a2 b2 c2, two hq hp.length (hp.length + 1) (hp.length + 4) (hp.length + 5) B 0 x.length sz ix kk v x a b c a2 b2 c2 = put (hp ++ [default, default, Blk.cells 0 true [.int .i64 0, .int .i64 x.length], .cells 0 true [.int .i64 x.length, .int .i64 sz], wB hp.length 0 x.length sz ix kk x a b c, rB v ix kk a2 b2 c2]) hp.length (hp.length + 1) B := fun a b c a2 b2 c2 => by unfold two; rw [hset]
    obtain ⟨fr, row', told', st', e1, e2, e3, e4, e5⟩ := mat21_loop T (by omega) (by omega) (va := va) (zs := zs) (fun a b c => by rw [htwo]; exact Ri.put hz (by omega) (by omega)) (fun b hb => rfl) (by omega) (sb := hp.length + 2) zs.length 0 (by omega) 0 0 0 (by omega) (by omega) (by omega)
    rw [htwo, htwo, hql] at e1
    have hHB := k1.holds
    have kB : ArOk (hp.length + 2) hp.length (hp.length + 1) [] B := ⟨by omega, by omega, k1.ok.ne, k1.ok.by_, k1.ok.live0, k1.ok.live1, k1.ok.peak0, k1.ok.peak1, k1.ok.size, k1.ok.hr, k1.ok.hq⟩
    obtain ⟨a, e, rfl⟩ := hr.len
    obtain ⟨b0, o0, g0, pl0, cs0, rfl, -, -, hb0, -⟩ := hr.at_ (i := 0) (by omega)
    have lo := hHB.load
    simp only [Int.natCast_zero] at lo
    have rv := fun nw L' => (Rd.put (nw := nw) (L' := L') (d' := []) (r := hp.length) (q := hp.length + 1) (A := B) hr (by omega) (by omega)).str
    have rvh := fun nw L' lo n (hlo : hp.length ≤ lo) => (Rd_put_hide (nw := nw) (L' := L') (d' := []) (r := hp.length) (q := hp.length + 1) (lo := lo) (n := n) (A := B) hr (by omega) (by omega) hlo).str
    have lw1 : ∀ (nw : List Blk) (L' : Nat), Fit (hp ++ (default :: default :: nw)).length L' [] → Lrun env (.func 20) [arP hp.length, .agg #[.int .i64 0, .int .i64 x.length]] ⟨put (hp ++ (default :: default :: nw)) hp.length (hp.length + 1) B, L', [], []⟩ = some (sl (hp ++ (default :: default :: nw)).length x.length (some x), ⟨put (hp ++ (default :: default :: nw) ++ slB x.length (some x)) hp.length (hp.length + 1) B, L', [], []⟩) := fun nw L' hF' => by
      have h := load_walk (d := []) (L := L') (H := []) (hp := hp ++ (default :: default :: nw)) (r := hp.length) (q := hp.length + 1) hF' (kB.mono (by simp)) 0 x.length
      rw [lo] at h
      exact h
    have mk : ∀ (nw : List Blk) (L' : Nat), Fit (hp ++ (default :: default :: nw)).length L' [] → Lrun env (.func 42) [arP hp.length] ⟨put (hp ++ (default :: default :: nw)) hp.length (hp.length + 1) B, L', [], []⟩ = some (.int .i64 ((x.length + sz + 1 : Nat) : Int), ⟨put (hp ++ (default :: default :: nw)) hp.length (hp.length + 1) B, L', [], []⟩) := fun nw L' hF' => by
      have h := mark_walk (d := []) (L := L') (H := []) (hp := hp ++ (default :: default :: nw)) (r := hp.length) (q := hp.length + 1) hF' (kB.mono (by simp))
      rw [hlv] at h
      exact h
    have hsum : (x.length : Int) + sz + 1 = ((x.length + sz + 1 : Nat) : Int) := by omega
    have hk0' : ¬ (kk : Int) = 0 := by omega
    have hbd : (sz : Int) ≤ 65536 := by omega
    have hbd2 : 0 ≤ (x.length : Int).tdiv kk ∧ (x.length : Int).tdiv kk ≤ 65536 := by omega
    have d1 : ¬ (ix : Int) < 1 := by omega
    have d2 : ¬ (ix : Int) > x.length := by omega
    have hrB : rB (.slice (some ⟨b0, o0, some g0⟩) x.length e) ix kk 0 0 0 = .cells 0 false [.slice (some ⟨b0, o0, some g0⟩) x.length e, .int .i64 ix, .int .i64 kk, .int .i64 0, .int .i64 0, .int .i64 0] := rfl
    rw [hrB] at e1
    simp only [List.length_append, List.length_cons, List.length_nil, Nat.zero_add, Nat.reduceAdd, List.append_assoc, List.cons_append, List.nil_append, Int.natCast_zero, Nat.add_zero, Int.natCast_one] at n1 e1
    simp (disch := (first | omega | (simp only [lnE, put_length] <;> omega) | (refine Fit.mono ‹Fit _ _ _› ?_ <;> (simp only [lnE, put_length] <;> omega)) | (refine Fit.draw ‹Fit _ _ _› ?_ ?_ <;> (simp only [lnE, put_length] <;> omega)) | (refine Fit.hid1 ‹Fit _ _ _› ?_ ?_ <;> (simp only [lnE, put_length] <;> omega)) | (refine Fit.draw1 ‹Fit _ _ _› ?_ ?_ ?_ <;> (simp only [lnE, put_length] <;> omega)) | (refine Fit.range0 ?_ ?_ <;> (simp only [lnE, put_length] <;> omega)) | (refine ArOk.mono ‹ArOk _ _ _ _ _› ?_ <;> (simp only [lnE, put_length] <;> omega)) | (refine ArOk.hid ‹ArOk _ _ _ _ _› ?_ ?_ <;> (simp only [lnE, put_length] <;> omega)) | (refine ArOk.hid0 ‹ArOk _ _ _ _ _› ?_ ?_ <;> (simp only [lnE, put_length] <;> omega)) | ((intro xr hxr; simp [AM.refs, refsF, refsC] at hxr) <;> (simp only [lnE, put_length] <;> omega)) | fail)) only [syA, syB, argFr, D, E, T, C, undefv, eqF, aeq, sheqs, sheq, rdCells, cellsOf, fill, putAt, if_true, if_false, reduceIte, ↓reduceIte, reduceCtorEq, eq_self, Nat.reduceEqDiff, Nat.reduceAdd, Nat.reduceSub, Nat.reduceMul, Nat.reduceLT, Nat.reduceLeDiff, Nat.reducePow, Nat.reduceDiv, Nat.reduceMod, Int.reduceLT, Int.reduceLE, Int.reduceGT, Int.reduceGE, Int.reduceToNat, Int.reducePow, Int.reduceNeg, Int.reduceBEq, Int.reduceBNe, Int.reduceEq, Int.reduceAdd, Int.reduceSub, Int.reduceMul, cellv, sc, flatv, refs, refsF, refsC, syR, Int.le_refl, hF.not0, hF.not1, hF.up0, hF.up1, ac9, hlen, hlz, g1', g2, g3, g4, g5, d1, d2, ld, n1, e1, e2, e3, e4, e5, lw1, rv, rvh, mk, hk0', hm, hsum, hbd2, sl_some, slB_some, wakes21_walk, gc_bool_new]
    exact ⟨_, rfl⟩
  · have k0 : ArOk (hp.length + 2) hp.length (hp.length + 1) [] (rl x sz) := rl_ok (by omega) (by omega) (by omega) rfl rfl hr.by_ (by omega)
    have hv0 : rValid (rl x sz) (0 : Nat) x.length x.length sz kk = true := rl_valid (by omega) (by omega) (by omega) (by rw [← hszn]; exact rSize_nat (by omega) (by omega))
    obtain ⟨B, n1, m1, h1, k1⟩ := rnew_index (ix := ix) (hp := hp ++ [default, default, .cells 0 true [.int .i64 0, .int .i64 x.length], .cells 0 true [.int .i64 x.length, .int .i64 sz]]) (L := hp.length) (H := []) (r := hp.length) (q := hp.length + 1) (hF.mono (by simp)) (k0.mono (by simp)) (by omega) (rl_holds x sz) hv0 g6
    simp only [Int.natCast_zero] at n1
    by_cases d1 : ix < 1
    · simp (disch := (first | omega | (simp only [lnE, put_length] <;> omega) | (refine Fit.mono ‹Fit _ _ _› ?_ <;> (simp only [lnE, put_length] <;> omega)) | (refine Fit.draw ‹Fit _ _ _› ?_ ?_ <;> (simp only [lnE, put_length] <;> omega)) | (refine Fit.hid1 ‹Fit _ _ _› ?_ ?_ <;> (simp only [lnE, put_length] <;> omega)) | (refine Fit.draw1 ‹Fit _ _ _› ?_ ?_ ?_ <;> (simp only [lnE, put_length] <;> omega)) | (refine Fit.range0 ?_ ?_ <;> (simp only [lnE, put_length] <;> omega)) | (refine ArOk.mono ‹ArOk _ _ _ _ _› ?_ <;> (simp only [lnE, put_length] <;> omega)) | (refine ArOk.hid ‹ArOk _ _ _ _ _› ?_ ?_ <;> (simp only [lnE, put_length] <;> omega)) | (refine ArOk.hid0 ‹ArOk _ _ _ _ _› ?_ ?_ <;> (simp only [lnE, put_length] <;> omega)) | ((intro xr hxr; simp [AM.refs, refsF, refsC] at hxr) <;> (simp only [lnE, put_length] <;> omega)) | fail)) only [syA, syB, argFr, D, E, T, C, undefv, eqF, aeq, sheqs, sheq, rdCells, cellsOf, fill, putAt, if_true, if_false, reduceIte, ↓reduceIte, reduceCtorEq, eq_self, Nat.reduceEqDiff, Nat.reduceAdd, Nat.reduceSub, Nat.reduceMul, Nat.reduceLT, Nat.reduceLeDiff, Nat.reducePow, Nat.reduceDiv, Nat.reduceMod, Int.reduceLT, Int.reduceLE, Int.reduceGT, Int.reduceGE, Int.reduceToNat, Int.reducePow, Int.reduceNeg, Int.reduceBEq, Int.reduceBNe, Int.reduceEq, Int.reduceAdd, Int.reduceSub, Int.reduceMul, cellv, sc, flatv, refs, refsF, refsC, syR, Int.le_refl, hF.not0, hF.not1, hF.up0, hF.up1, ac9, hlen, hlz, g1', g2, g3, g4, g5, d1, ld, n1, wakes21_walk, gc_bool_new]
      exact ⟨_, rfl⟩
    · have d2 : ix > x.length := by omega
      simp (disch := (first | omega | (simp only [lnE, put_length] <;> omega) | (refine Fit.mono ‹Fit _ _ _› ?_ <;> (simp only [lnE, put_length] <;> omega)) | (refine Fit.draw ‹Fit _ _ _› ?_ ?_ <;> (simp only [lnE, put_length] <;> omega)) | (refine Fit.hid1 ‹Fit _ _ _› ?_ ?_ <;> (simp only [lnE, put_length] <;> omega)) | (refine Fit.draw1 ‹Fit _ _ _› ?_ ?_ ?_ <;> (simp only [lnE, put_length] <;> omega)) | (refine Fit.range0 ?_ ?_ <;> (simp only [lnE, put_length] <;> omega)) | (refine ArOk.mono ‹ArOk _ _ _ _ _› ?_ <;> (simp only [lnE, put_length] <;> omega)) | (refine ArOk.hid ‹ArOk _ _ _ _ _› ?_ ?_ <;> (simp only [lnE, put_length] <;> omega)) | (refine ArOk.hid0 ‹ArOk _ _ _ _ _› ?_ ?_ <;> (simp only [lnE, put_length] <;> omega)) | ((intro xr hxr; simp [AM.refs, refsF, refsC] at hxr) <;> (simp only [lnE, put_length] <;> omega)) | fail)) only [syA, syB, argFr, D, E, T, C, undefv, eqF, aeq, sheqs, sheq, rdCells, cellsOf, fill, putAt, if_true, if_false, reduceIte, ↓reduceIte, reduceCtorEq, eq_self, Nat.reduceEqDiff, Nat.reduceAdd, Nat.reduceSub, Nat.reduceMul, Nat.reduceLT, Nat.reduceLeDiff, Nat.reducePow, Nat.reduceDiv, Nat.reduceMod, Int.reduceLT, Int.reduceLE, Int.reduceGT, Int.reduceGE, Int.reduceToNat, Int.reducePow, Int.reduceNeg, Int.reduceBEq, Int.reduceBNe, Int.reduceEq, Int.reduceAdd, Int.reduceSub, Int.reduceMul, cellv, sc, flatv, refs, refsF, refsC, syR, Int.le_refl, hF.not0, hF.not1, hF.up0, hF.up1, ac9, hlen, hlz, g1', g2, g3, g4, g5, d1, d2, ld, n1, wakes21_walk, gc_bool_new]
      exact ⟨_, rfl⟩
theorem rwmat_law {hp bs : List Blk} {v : Value} {x : List Nat} (hr : Rd ⟨hp, hp.length, [], []⟩ v x) (ix : Int) (hi0 : -9223372036854775808 ≤ ix) (hi1 : ix ≤ 9223372036854775807) (kk : Int) (hk0 : -9223372036854775808 ≤ kk) (hk1 : kk ≤ 9223372036854775807)
    (zs : List Int) (va : Value) (R : (va = .slice none 0 0 ∧ zs.length = 0 ∧ bs = []) ∨ (va = .slice (some ⟨hp.length, 0, some 0⟩) zs.length 0 ∧ bs = [.cells 0 true (zs.map (Value.int .i64))])) :
    ∃ σ', Lrun env (.func 9) [v, .int .i64 ix, .int .i64 kk, va] ⟨hp ++ bs, (hp ++ bs).length, [], []⟩ = some (.bool true, σ') := by
  refine rwmat_run (zs := zs) hr.app ?_ ix hi0 hi1 kk hk0 hk1
  rcases R with ⟨rfl, h, rfl⟩ | ⟨rfl, rfl⟩
  · exact ⟨.inl ⟨rfl, List.eq_nil_of_length_eq_zero h⟩⟩
  · exact ⟨.inr ⟨_, rfl, by rw [get_new0]⟩⟩
end ArA
end Go.Proofs.Ytlbdgbfblgjjgaa
