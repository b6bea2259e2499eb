/-
  TableWalkMatches: the calls of a walk and of the reference. Conditions: none.
-/
import Derived.Test.YtlbdgbfblgjjgaaTmB
import Derived.Test.YtlbdgbfblgjjgaaRi
set_option linter.all false
namespace Go.Proofs.Ytlbdgbfblgjjgaa
namespace ArA
open Go Go.RowKit AM ArEnv
section
variable {L : Nat} {H : List Nat} {r q f u : Nat} {A : Arn} {s t z ix : Nat} {x : List Nat} {v : Value}
/-- Both walks. -/
def twt (hq : List Blk) (r q f u : Nat) (A : Arn) (s t z ix : Nat) (v : Value) (x : List Nat) (row told st row2 told2 st2 : Nat) : List Blk :=
  put ((hq.set f (fB r s t z ix x.length row told st)).set u (gB v ix row2 told2 st2)) r q A
structure TtOk (hq : List Blk) (r q f u : Nat) (L : Nat) (H : List Nat) (A : Arn) (s t z ix : Nat) (v : Value) (x : List Nat) : Prop where
  fit : Fit hq.length L H
  k : TbOk hq.length r q f L H A s t z ix x
  ne : f ≠ u
  ur : r ≠ u
  uq : q ≠ u
  un : u < hq.length
  uL : L ≤ u
  hid : H.contains u = false
  rd : ∀ B B', Rd ⟨put ((hq.set f B).set u B') r q A, L, H, []⟩ v x
variable {hq : List Blk} {d : List Nat} {row told st row2 told2 st2 : Nat}
theorem twt_f (T : TtOk hq r q f u L H A s t z ix v x) : twt hq r q f u A s t z ix v x row told st row2 told2 st2 = put ((hq.set u (gB v ix row2 told2 st2)).set f (fB r s t z ix x.length row told st)) r q A := by
  unfold twt; rw [List.set_comm _ _ T.ne]
theorem twt_u (T : TtOk hq r q f u L H A s t z ix v x) : twt hq r q f u A s t z ix v x row told st row2 told2 st2 = (put (hq.set f (fB r s t z ix x.length row told st)) r q A).set u (gB v ix row2 told2 st2) := by
  unfold twt; rw [put_set_o T.ur T.uq]
theorem twt_get (T : TtOk hq r q f u L H A s t z ix v x) : (twt hq r q f u A s t z ix v x row told st row2 told2 st2)[u]? = some (gB v ix row2 told2 st2) := by
  unfold twt; rw [put_o T.ur T.uq]; exact List.getElem?_set_self (by rw [List.length_set]; exact T.un)
theorem twt_len (hq : List Blk) (r q f u : Nat) (A : Arn) (s t z ix : Nat) (v : Value) (x : List Nat) (row told st row2 told2 st2 : Nat) : (twt hq r q f u A s t z ix v x row told st row2 told2 st2).length = hq.length := by
  unfold twt; simp [put_length]
theorem twt_set (T : TtOk hq r q f u L H A s t z ix v x) {a b c : Nat} : (twt hq r q f u A s t z ix v x row told st row2 told2 st2).set u (.cells 0 false [v, .int .i64 ix, .int .i64 a, .int .i64 b, .int .i64 c]) = twt hq r q f u A s t z ix v x row told st a b c := by
  rw [twt_u T, List.set_set]; exact (twt_u T (row2 := a) (told2 := b) (st2 := c)).symm
theorem TtOk.ku (T : TtOk hq r q f u L H A s t z ix v x) {B : Blk} : TbOk (hq.set u B).length r q f L H A s t z ix x := by rw [List.length_set]; exact T.k
theorem TtOk.fu (T : TtOk hq r q f u L H A s t z ix v x) {B : Blk} : Fit (hq.set u B).length L H := by rw [List.length_set]; exact T.fit
theorem TtOk.gf (T : TtOk hq r q f u L H A s t z ix v x) {B : Blk} : GfOk (put (hq.set f B) r q A) u L H v x ix where
  fit := by rw [put_length, List.length_set]; exact T.fit
  un := by rw [put_length, List.length_set]; exact T.un
  uL := T.uL
  hid := T.hid
  rd := fun B' => by rw [put_set_o T.ur T.uq]; exact T.rd _ _
  ixm := T.k.ixm
  small := T.k.small
theorem yf_next (T : TtOk hq r q f u L H A s t z ix v x) (ht : told < x.length) (hs : st ≤ 1099511627776) (hp1 : row ≤ x.length) (hne : row ≠ ix) (hx : atR ix row < x.length) :
    Lrun env (.func 29) [fP f] ⟨twt hq r q f u A s t z ix v x row told st row2 told2 st2, L, H, d⟩ = some (.tuple #[.int .u8 (x[atR ix row] : Nat), .bool true], ⟨twt hq r q f u A s t z ix v x (nxR x ix row) (told + 1) (st + 1) row2 told2 st2, L, H, d⟩) := by
  rw [twt_f T, twt_f T]; exact tnext_walk T.fu T.ku ht hp1 hne hx hs
theorem yf_done (T : TtOk hq r q f u L H A s t z ix v x) (h : told = x.length ∨ row = ix) :
    Lrun env (.func 29) [fP f] ⟨twt hq r q f u A s t z ix v x row told st row2 told2 st2, L, H, d⟩ = some (.tuple #[.int .u8 0, .bool false], ⟨twt hq r q f u A s t z ix v x row told st row2 told2 st2, L, H, d⟩) := by
  rw [twt_f T]; exact tnext_done T.fu T.ku h
theorem yf_valid (T : TtOk hq r q f u L H A s t z ix v x) (hs : st + x.length ≤ 1099511627776) :
    Lrun env (.func 26) [fP f] ⟨twt hq r q f u A s t z ix v x row told st row2 told2 st2, L, H, d⟩ = some (.bool (decide ((vw (fun _ => 0) x ix x.length 0 0).1 = some ix)), ⟨twt hq r q f u A s t z ix v x row told (vw (fun _ => 0) x ix x.length 0 st).2 row2 told2 st2, L, H, d⟩) := by
  rw [twt_f T, twt_f T]; exact tbvalid_walk T.fu T.ku hs
theorem yf_reset (T : TtOk hq r q f u L H A s t z ix v x) :
    Lrun env (.func 43) [fP f] ⟨twt hq r q f u A s t z ix v x row told st row2 told2 st2, L, H, d⟩ = some (.tuple #[], ⟨twt hq r q f u A s t z ix v x 0 0 st row2 told2 st2, L, H, d⟩) := by
  rw [twt_f T, twt_f T]; exact treset_walk T.fu T.ku
theorem yf_told {L' : Nat} (hF : Fit hq.length L' H) (T : TtOk hq r q f u L H A s t z ix v x) :
    Lrun env (.func 28) [fP f] ⟨twt hq r q f u A s t z ix v x row told st row2 told2 st2, L', H, d⟩ = some (.int .i64 told, ⟨twt hq r q f u A s t z ix v x row told st row2 told2 st2, L', H, d⟩) := by
  rw [twt_f T]; exact ttold_walk (by rw [List.length_set]; exact hF) T.ku
theorem yf_steps {L' : Nat} (hF : Fit hq.length L' H) (T : TtOk hq r q f u L H A s t z ix v x) :
    Lrun env (.func 27) [fP f] ⟨twt hq r q f u A s t z ix v x row told st row2 told2 st2, L', H, d⟩ = some (.int .i64 st, ⟨twt hq r q f u A s t z ix v x row told st row2 told2 st2, L', H, d⟩) := by
  rw [twt_f T]; exact tsteps_walk (by rw [List.length_set]; exact hF) T.ku
theorem yg_next (T : TtOk hq r q f u L H A s t z ix v x) (ht : told2 < x.length) (hs : st2 ≤ 1099511627776) (hp1 : row2 ≤ x.length) (hne : row2 ≠ ix) (hx : atR ix row2 < x.length) :
    Lrun env (.func 52) [gP u] ⟨twt hq r q f u A s t z ix v x row told st row2 told2 st2, L, H, d⟩ = some (.tuple #[.int .u8 (x[atR ix row2] : Nat), .bool true], ⟨twt hq r q f u A s t z ix v x row told st (nxR x ix row2) (told2 + 1) (st2 + 1), L, H, d⟩) := by
  rw [twt_u T, twt_u T]; exact gnext_walk T.gf ht hs hp1 hne hx
theorem yg_done (T : TtOk hq r q f u L H A s t z ix v x) (h : told2 = x.length ∨ row2 = ix) :
    Lrun env (.func 52) [gP u] ⟨twt hq r q f u A s t z ix v x row told st row2 told2 st2, L, H, d⟩ = some (.tuple #[.int .u8 0, .bool false], ⟨twt hq r q f u A s t z ix v x row told st row2 told2 st2, L, H, d⟩) := by
  rw [twt_u T]; exact gnext_done T.gf h
theorem yg_valid (T : TtOk hq r q f u L H A s t z ix v x) (hs : st2 + x.length ≤ 1099511627776) :
    Lrun env (.func 53) [gP u] ⟨twt hq r q f u A s t z ix v x row told st row2 told2 st2, L, H, d⟩ = some (.bool (decide ((vw (fun _ => 0) x ix x.length 0 0).1 = some ix)), ⟨twt hq r q f u A s t z ix v x row told st row2 told2 (vw (fun _ => 0) x ix x.length 0 st2).2, L, H, d⟩) := by
  rw [twt_u T, twt_u T]; exact gvalid_walk T.gf hs
set_option maxRecDepth 20000 in
theorem ask_s0 (T : TtOk hq r q f u L H A s t z ix v x) {va : Value} {zs : List Int} (hza : ∀ (a b c : Nat), Ri (twt hq r q f u A s t z ix v x a b c a b c) va zs) (hzH : ∀ b, va = .slice (some ⟨b, 0, some 0⟩) zs.length 0 → H.contains b = false) (hzl : zs.length ≤ 100) {i : Nat} (hiz : i < zs.length) (z0 : zs[i] = 0) (hd : told = x.length ∨ row = ix) :
    Liter env lb23_0 [1, 0, 2, 7] hq.length [(1, gP u), (0, fP f), (2, va), (7, .int .i64 i)] ⟨twt hq r q f u A s t z ix v x row told st row told st, L, H, []⟩ = Liter env lb23_0 [1, 0, 2, 7] hq.length [(1, gP u), (0, fP f), (2, va), (7, .int .i64 (i + 1 : Nat))] ⟨twt hq r q f u A s t z ix v x row told st row told st, L, H, []⟩ := by
    have hF := T.fit
    have hlz := (hza 0 0 0).lenF
    obtain ⟨b, rfl, hbl, -, hcell⟩ := (hza 0 0 0).at_ hiz
    have hbz : ∀ a c e, (twt hq r q f u A s t z ix v x a c e a c e)[b]? = some (.cells 0 true (zs.map (Value.int .i64))) := fun a c e => by
      obtain ⟨b', h1, h2, h3, h4⟩ := (hza a c e).at_ hiz
      cases h1; exact h3
    have hbH := hzH b rfl
    have c1 : (i : Int) < zs.length := by omega
    have c2 : 0 ≤ (i : Int) ∧ (i : Int) < zs.length := by omega
    have hlenT := twt_len hq r q f u A s t z ix v x
    have huH := T.hid
    have huL : ¬ u < L := by have := T.uL; omega
    have hgu := fun a b c a2 b2 c2 => twt_get T (row := a) (told := b) (st := c) (row2 := a2) (told2 := b2) (st2 := c2)
    have hFd : Fit hq.length hq.length H := ⟨Nat.le_refl _, hF.2⟩
    have tt := fun d a b c a2 b2 c2 => yf_told (d := d) hFd T (row := a) (told := b) (st := c) (row2 := a2) (told2 := b2) (st2 := c2)
    have ts := fun d a b c a2 b2 c2 => yf_steps (d := d) hFd T (row := a) (told := b) (st := c) (row2 := a2) (told2 := b2) (st2 := c2)
    have ir1 : ((i : Nat) : Int) + 1 = ((i + 1 : Nat) : Int) := by omega
    have hgc := fun fr a b c a2 b2 c2 => gcFr_same (base := hq.length) fr (twt hq r q f u A s t z ix v x a b c a2 b2 c2) L H [] (by rw [hlenT]; exact Nat.le_refl _)
    unfold gB at hgu
    have n1 := fun d a2 b2 c2 => yf_done (d := d) T (row := row) (told := told) (st := st) (row2 := a2) (told2 := b2) (st2 := c2) hd
    have n2 := fun d a2 b2 c2 => yg_done (d := d) T (row2 := row) (told2 := told) (st2 := st) (row := a2) (told := b2) (st := c2) hd
    rw [iter_by lb23_0.eq_1]
    simp (disch := (first | omega | (simp only [lnE, put_length] <;> omega) | (refine Fit.mono ‹Fit _ _ _› ?_ <;> (simp only [lnE, put_length] <;> omega)) | (refine Fit.draw ‹Fit _ _ _› ?_ ?_ <;> (simp only [lnE, put_length] <;> omega)) | (refine Fit.hid1 ‹Fit _ _ _› ?_ ?_ <;> (simp only [lnE, put_length] <;> omega)) | (refine Fit.draw1 ‹Fit _ _ _› ?_ ?_ ?_ <;> (simp only [lnE, put_length] <;> omega)) | (refine Fit.range0 ?_ ?_ <;> (simp only [lnE, put_length] <;> omega)) | (refine ArOk.mono ‹ArOk _ _ _ _ _› ?_ <;> (simp only [lnE, put_length] <;> omega)) | (refine ArOk.hid ‹ArOk _ _ _ _ _› ?_ ?_ <;> (simp only [lnE, put_length] <;> omega)) | (refine ArOk.hid0 ‹ArOk _ _ _ _ _› ?_ ?_ <;> (simp only [lnE, put_length] <;> omega)) | ((intro xr hxr; simp [AM.refs, refsF, refsC] at hxr) <;> (simp only [lnE, put_length] <;> omega)) | fail)) only [syA, syB, argFr, D, E, T, C, undefv, eqF, aeq, sheqs, sheq, rdCells, cellsOf, fill, putAt, if_true, if_false, reduceIte, ↓reduceIte, reduceCtorEq, eq_self, Nat.reduceEqDiff, Nat.reduceAdd, Nat.reduceSub, Nat.reduceMul, Nat.reduceLT, Nat.reduceLeDiff, Nat.reducePow, Nat.reduceDiv, Nat.reduceMod, Int.reduceLT, Int.reduceLE, Int.reduceGT, Int.reduceGE, Int.reduceToNat, Int.reducePow, Int.reduceNeg, Int.reduceBEq, Int.reduceBNe, Int.reduceEq, Int.reduceAdd, Int.reduceSub, Int.reduceMul, cellv, sc, flatv, refs, refsF, refsC, syR, Int.le_refl, hF.not0, hF.not1, hF.up0, hF.up1, hlz, c1, c2, hbz, hbH, hcell, z0, n1, n2, hlenT, hgu, huH, tt, ts, ir1, hgc]
set_option maxRecDepth 20000 in
theorem ask_s1 (T : TtOk hq r q f u L H A s t z ix v x) {va : Value} {zs : List Int} (hza : ∀ (a b c : Nat), Ri (twt hq r q f u A s t z ix v x a b c a b c) va zs) (hzH : ∀ b, va = .slice (some ⟨b, 0, some 0⟩) zs.length 0 → H.contains b = false) (hzl : zs.length ≤ 100) {i : Nat} (hiz : i < zs.length) (z0 : zs[i] = 0) (htl : told < x.length) (hri : row ≠ ix) (hr : row ≤ x.length) (hs : st ≤ 100000000) :
    Liter env lb23_0 [1, 0, 2, 7] hq.length [(1, gP u), (0, fP f), (2, va), (7, .int .i64 i)] ⟨twt hq r q f u A s t z ix v x row told st row told st, L, H, []⟩ = Liter env lb23_0 [1, 0, 2, 7] hq.length [(1, gP u), (0, fP f), (2, va), (7, .int .i64 (i + 1 : Nat))] ⟨twt hq r q f u A s t z ix v x (nxR x ix row) (told + 1) (st + 1) (nxR x ix row) (told + 1) (st + 1), L, H, []⟩ := by
    have hF := T.fit
    have hlz := (hza 0 0 0).lenF
    obtain ⟨b, rfl, hbl, -, hcell⟩ := (hza 0 0 0).at_ hiz
    have hbz : ∀ a c e, (twt hq r q f u A s t z ix v x a c e a c e)[b]? = some (.cells 0 true (zs.map (Value.int .i64))) := fun a c e => by
      obtain ⟨b', h1, h2, h3, h4⟩ := (hza a c e).at_ hiz
      cases h1; exact h3
    have hbH := hzH b rfl
    have c1 : (i : Int) < zs.length := by omega
    have c2 : 0 ≤ (i : Int) ∧ (i : Int) < zs.length := by omega
    have hlenT := twt_len hq r q f u A s t z ix v x
    have huH := T.hid
    have huL : ¬ u < L := by have := T.uL; omega
    have hgu := fun a b c a2 b2 c2 => twt_get T (row := a) (told := b) (st := c) (row2 := a2) (told2 := b2) (st2 := c2)
    have hFd : Fit hq.length hq.length H := ⟨Nat.le_refl _, hF.2⟩
    have tt := fun d a b c a2 b2 c2 => yf_told (d := d) hFd T (row := a) (told := b) (st := c) (row2 := a2) (told2 := b2) (st2 := c2)
    have ts := fun d a b c a2 b2 c2 => yf_steps (d := d) hFd T (row := a) (told := b) (st := c) (row2 := a2) (told2 := b2) (st2 := c2)
    have ir1 : ((i : Nat) : Int) + 1 = ((i + 1 : Nat) : Int) := by omega
    have hgc := fun fr a b c a2 b2 c2 => gcFr_same (base := hq.length) fr (twt hq r q f u A s t z ix v x a b c a2 b2 c2) L H [] (by rw [hlenT]; exact Nat.le_refl _)
    unfold gB at hgu
    have hx := atR_lt' hr T.k.ixm hri
    have n1 := fun d a2 b2 c2 => yf_next (d := d) T (row := row) (told := told) (st := st) (row2 := a2) (told2 := b2) (st2 := c2) htl (by omega) hr hri hx
    have n2 := fun d a2 b2 c2 => yg_next (d := d) T (row2 := row) (told2 := told) (st2 := st) (row := a2) (told := b2) (st := c2) htl (by omega) hr hri hx
    generalize x[atR ix row] = y at *
    generalize nxR x ix row = nx at *
    rw [iter_by lb23_0.eq_1]
    simp (disch := (first | omega | (simp only [lnE, put_length] <;> omega) | (refine Fit.mono ‹Fit _ _ _› ?_ <;> (simp only [lnE, put_length] <;> omega)) | (refine Fit.draw ‹Fit _ _ _› ?_ ?_ <;> (simp only [lnE, put_length] <;> omega)) | (refine Fit.hid1 ‹Fit _ _ _› ?_ ?_ <;> (simp only [lnE, put_length] <;> omega)) | (refine Fit.draw1 ‹Fit _ _ _› ?_ ?_ ?_ <;> (simp only [lnE, put_length] <;> omega)) | (refine Fit.range0 ?_ ?_ <;> (simp only [lnE, put_length] <;> omega)) | (refine ArOk.mono ‹ArOk _ _ _ _ _› ?_ <;> (simp only [lnE, put_length] <;> omega)) | (refine ArOk.hid ‹ArOk _ _ _ _ _› ?_ ?_ <;> (simp only [lnE, put_length] <;> omega)) | (refine ArOk.hid0 ‹ArOk _ _ _ _ _› ?_ ?_ <;> (simp only [lnE, put_length] <;> omega)) | ((intro xr hxr; simp [AM.refs, refsF, refsC] at hxr) <;> (simp only [lnE, put_length] <;> omega)) | fail)) only [syA, syB, argFr, D, E, T, C, undefv, eqF, aeq, sheqs, sheq, rdCells, cellsOf, fill, putAt, if_true, if_false, reduceIte, ↓reduceIte, reduceCtorEq, eq_self, Nat.reduceEqDiff, Nat.reduceAdd, Nat.reduceSub, Nat.reduceMul, Nat.reduceLT, Nat.reduceLeDiff, Nat.reducePow, Nat.reduceDiv, Nat.reduceMod, Int.reduceLT, Int.reduceLE, Int.reduceGT, Int.reduceGE, Int.reduceToNat, Int.reducePow, Int.reduceNeg, Int.reduceBEq, Int.reduceBNe, Int.reduceEq, Int.reduceAdd, Int.reduceSub, Int.reduceMul, cellv, sc, flatv, refs, refsF, refsC, syR, Int.le_refl, hF.not0, hF.not1, hF.up0, hF.up1, hlz, c1, c2, hbz, hbH, hcell, z0, n1, n2, hlenT, hgu, huH, tt, ts, ir1, hgc]
set_option maxRecDepth 20000 in
theorem ask_s2 (T : TtOk hq r q f u L H A s t z ix v x) {va : Value} {zs : List Int} (hza : ∀ (a b c : Nat), Ri (twt hq r q f u A s t z ix v x a b c a b c) va zs) (hzH : ∀ b, va = .slice (some ⟨b, 0, some 0⟩) zs.length 0 → H.contains b = false) (hzl : zs.length ≤ 100) {i : Nat} (hiz : i < zs.length) (z1 : zs[i] = 1) (hs : st ≤ 100000000) :
    Liter env lb23_0 [1, 0, 2, 7] hq.length [(1, gP u), (0, fP f), (2, va), (7, .int .i64 i)] ⟨twt hq r q f u A s t z ix v x row told st row told st, L, H, []⟩ = Liter env lb23_0 [1, 0, 2, 7] hq.length [(1, gP u), (0, fP f), (2, va), (7, .int .i64 (i + 1 : Nat))] ⟨twt hq r q f u A s t z ix v x row told (vw (fun _ => 0) x ix x.length 0 st).2 row told (vw (fun _ => 0) x ix x.length 0 st).2, L, H, []⟩ := by
    have hF := T.fit
    have hlz := (hza 0 0 0).lenF
    obtain ⟨b, rfl, hbl, -, hcell⟩ := (hza 0 0 0).at_ hiz
    have hbz : ∀ a c e, (twt hq r q f u A s t z ix v x a c e a c e)[b]? = some (.cells 0 true (zs.map (Value.int .i64))) := fun a c e => by
      obtain ⟨b', h1, h2, h3, h4⟩ := (hza a c e).at_ hiz
      cases h1; exact h3
    have hbH := hzH b rfl
    have c1 : (i : Int) < zs.length := by omega
    have c2 : 0 ≤ (i : Int) ∧ (i : Int) < zs.length := by omega
    have hlenT := twt_len hq r q f u A s t z ix v x
    have huH := T.hid
    have huL : ¬ u < L := by have := T.uL; omega
    have hgu := fun a b c a2 b2 c2 => twt_get T (row := a) (told := b) (st := c) (row2 := a2) (told2 := b2) (st2 := c2)
    have hFd : Fit hq.length hq.length H := ⟨Nat.le_refl _, hF.2⟩
    have tt := fun d a b c a2 b2 c2 => yf_told (d := d) hFd T (row := a) (told := b) (st := c) (row2 := a2) (told2 := b2) (st2 := c2)
    have ts := fun d a b c a2 b2 c2 => yf_steps (d := d) hFd T (row := a) (told := b) (st := c) (row2 := a2) (told2 := b2) (st2 := c2)
    have ir1 : ((i : Nat) : Int) + 1 = ((i + 1 : Nat) : Int) := by omega
    have hgc := fun fr a b c a2 b2 c2 => gcFr_same (base := hq.length) fr (twt hq r q f u A s t z ix v x a b c a2 b2 c2) L H [] (by rw [hlenT]; exact Nat.le_refl _)
    unfold gB at hgu
    have hsm := T.k.small
    have n1 := fun d a2 b2 c2 => yf_valid (d := d) T (row := row) (told := told) (st := st) (row2 := a2) (told2 := b2) (st2 := c2) (by omega)
    have n2 := fun d a2 b2 c2 => yg_valid (d := d) T (row2 := row) (told2 := told) (st2 := st) (row := a2) (told := b2) (st := c2) (by omega)
    generalize (vw (fun _ => 0) x ix x.length 0 st).2 = ns at *
    generalize (vw (fun _ => 0) x ix x.length 0 0).1 = V at *
    rw [iter_by lb23_0.eq_1]
    simp (disch := (first | omega | (simp only [lnE, put_length] <;> omega) | (refine Fit.mono ‹Fit _ _ _› ?_ <;> (simp only [lnE, put_length] <;> omega)) | (refine Fit.draw ‹Fit _ _ _› ?_ ?_ <;> (simp only [lnE, put_length] <;> omega)) | (refine Fit.hid1 ‹Fit _ _ _› ?_ ?_ <;> (simp only [lnE, put_length] <;> omega)) | (refine Fit.draw1 ‹Fit _ _ _› ?_ ?_ ?_ <;> (simp only [lnE, put_length] <;> omega)) | (refine Fit.range0 ?_ ?_ <;> (simp only [lnE, put_length] <;> omega)) | (refine ArOk.mono ‹ArOk _ _ _ _ _› ?_ <;> (simp only [lnE, put_length] <;> omega)) | (refine ArOk.hid ‹ArOk _ _ _ _ _› ?_ ?_ <;> (simp only [lnE, put_length] <;> omega)) | (refine ArOk.hid0 ‹ArOk _ _ _ _ _› ?_ ?_ <;> (simp only [lnE, put_length] <;> omega)) | ((intro xr hxr; simp [AM.refs, refsF, refsC] at hxr) <;> (simp only [lnE, put_length] <;> omega)) | fail)) only [syA, syB, argFr, D, E, T, C, undefv, eqF, aeq, sheqs, sheq, rdCells, cellsOf, fill, putAt, if_true, if_false, reduceIte, ↓reduceIte, reduceCtorEq, eq_self, Nat.reduceEqDiff, Nat.reduceAdd, Nat.reduceSub, Nat.reduceMul, Nat.reduceLT, Nat.reduceLeDiff, Nat.reducePow, Nat.reduceDiv, Nat.reduceMod, Int.reduceLT, Int.reduceLE, Int.reduceGT, Int.reduceGE, Int.reduceToNat, Int.reducePow, Int.reduceNeg, Int.reduceBEq, Int.reduceBNe, Int.reduceEq, Int.reduceAdd, Int.reduceSub, Int.reduceMul, cellv, sc, flatv, refs, refsF, refsC, syR, Int.le_refl, hF.not0, hF.not1, hF.up0, hF.up1, hlz, c1, c2, hbz, hbH, hcell, z1, n1, n2, hlenT, hgu, huH, tt, ts, ir1, hgc]
set_option maxRecDepth 20000 in
theorem ask_s3 (T : TtOk hq r q f u L H A s t z ix v x) {va : Value} {zs : List Int} (hza : ∀ (a b c : Nat), Ri (twt hq r q f u A s t z ix v x a b c a b c) va zs) (hzH : ∀ b, va = .slice (some ⟨b, 0, some 0⟩) zs.length 0 → H.contains b = false) (hzl : zs.length ≤ 100) {i : Nat} (hiz : i < zs.length) (z0 : zs[i] ≠ 0) (z1 : zs[i] ≠ 1) :
    Liter env lb23_0 [1, 0, 2, 7] hq.length [(1, gP u), (0, fP f), (2, va), (7, .int .i64 i)] ⟨twt hq r q f u A s t z ix v x row told st row told st, L, H, []⟩ = Liter env lb23_0 [1, 0, 2, 7] hq.length [(1, gP u), (0, fP f), (2, va), (7, .int .i64 (i + 1 : Nat))] ⟨twt hq r q f u A s t z ix v x 0 0 st 0 0 st, L, H, []⟩ := by
    have hF := T.fit
    have hlz := (hza 0 0 0).lenF
    obtain ⟨b, rfl, hbl, -, hcell⟩ := (hza 0 0 0).at_ hiz
    have hbz : ∀ a c e, (twt hq r q f u A s t z ix v x a c e a c e)[b]? = some (.cells 0 true (zs.map (Value.int .i64))) := fun a c e => by
      obtain ⟨b', h1, h2, h3, h4⟩ := (hza a c e).at_ hiz
      cases h1; exact h3
    have hbH := hzH b rfl
    have c1 : (i : Int) < zs.length := by omega
    have c2 : 0 ≤ (i : Int) ∧ (i : Int) < zs.length := by omega
    have hlenT := twt_len hq r q f u A s t z ix v x
    have huH := T.hid
    have huL : ¬ u < L := by have := T.uL; omega
    have hgu := fun a b c a2 b2 c2 => twt_get T (row := a) (told := b) (st := c) (row2 := a2) (told2 := b2) (st2 := c2)
    have hFd : Fit hq.length hq.length H := ⟨Nat.le_refl _, hF.2⟩
    have tt := fun d a b c a2 b2 c2 => yf_told (d := d) hFd T (row := a) (told := b) (st := c) (row2 := a2) (told2 := b2) (st2 := c2)
    have ts := fun d a b c a2 b2 c2 => yf_steps (d := d) hFd T (row := a) (told := b) (st := c) (row2 := a2) (told2 := b2) (st2 := c2)
    have ir1 : ((i : Nat) : Int) + 1 = ((i + 1 : Nat) : Int) := by omega
    have hgc := fun fr a b c a2 b2 c2 => gcFr_same (base := hq.length) fr (twt hq r q f u A s t z ix v x a b c a2 b2 c2) L H [] (by rw [hlenT]; exact Nat.le_refl _)
    unfold gB at hgu
    have z0' : (zs[i] == 0) = false := by rw [beq_eq_false_iff_ne]; exact z0
    have z1' : (zs[i] == 1) = false := by rw [beq_eq_false_iff_ne]; exact z1
    have n1 := fun d a2 b2 c2 => yf_reset (d := d) T (row := row) (told := told) (st := st) (row2 := a2) (told2 := b2) (st2 := c2)
    have hs1 := twt_set T (row := 0) (told := 0) (st := st) (row2 := row) (told2 := told) (st2 := st) (a := 0) (b := told) (c := st)
    have hs2 := twt_set T (row := 0) (told := 0) (st := st) (row2 := 0) (told2 := told) (st2 := st) (a := 0) (b := 0) (c := st)
    simp only [Int.natCast_zero] at hs1 hs2
    rw [iter_by lb23_0.eq_1]
    simp (disch := (first | omega | (simp only [lnE, put_length] <;> omega) | (refine Fit.mono ‹Fit _ _ _› ?_ <;> (simp only [lnE, put_length] <;> omega)) | (refine Fit.draw ‹Fit _ _ _› ?_ ?_ <;> (simp only [lnE, put_length] <;> omega)) | (refine Fit.hid1 ‹Fit _ _ _› ?_ ?_ <;> (simp only [lnE, put_length] <;> omega)) | (refine Fit.draw1 ‹Fit _ _ _› ?_ ?_ ?_ <;> (simp only [lnE, put_length] <;> omega)) | (refine Fit.range0 ?_ ?_ <;> (simp only [lnE, put_length] <;> omega)) | (refine ArOk.mono ‹ArOk _ _ _ _ _› ?_ <;> (simp only [lnE, put_length] <;> omega)) | (refine ArOk.hid ‹ArOk _ _ _ _ _› ?_ ?_ <;> (simp only [lnE, put_length] <;> omega)) | (refine ArOk.hid0 ‹ArOk _ _ _ _ _› ?_ ?_ <;> (simp only [lnE, put_length] <;> omega)) | ((intro xr hxr; simp [AM.refs, refsF, refsC] at hxr) <;> (simp only [lnE, put_length] <;> omega)) | fail)) only [syA, syB, argFr, D, E, T, C, undefv, eqF, aeq, sheqs, sheq, rdCells, cellsOf, fill, putAt, if_true, if_false, reduceIte, ↓reduceIte, reduceCtorEq, eq_self, Nat.reduceEqDiff, Nat.reduceAdd, Nat.reduceSub, Nat.reduceMul, Nat.reduceLT, Nat.reduceLeDiff, Nat.reducePow, Nat.reduceDiv, Nat.reduceMod, Int.reduceLT, Int.reduceLE, Int.reduceGT, Int.reduceGE, Int.reduceToNat, Int.reducePow, Int.reduceNeg, Int.reduceBEq, Int.reduceBNe, Int.reduceEq, Int.reduceAdd, Int.reduceSub, Int.reduceMul, cellv, sc, flatv, refs, refsF, refsC, syR, Int.le_refl, hF.not0, hF.not1, hF.up0, hF.up1, hlz, c1, c2, hbz, hbH, hcell, z0', z0, z1', z1, n1, huL, hs1, hs2, Int.natCast_zero, hlenT, hgu, huH, tt, ts, ir1, hgc]
theorem ask_loop (T : TtOk hq r q f u L H A s t z ix v x) {va : Value} {zs : List Int} (hza : ∀ (a b c : Nat), Ri (twt hq r q f u A s t z ix v x a b c a b c) va zs) (hzH : ∀ b, va = .slice (some ⟨b, 0, some 0⟩) zs.length 0 → H.contains b = false) (hzl : zs.length ≤ 100) :
    ∀ (n i : Nat), i + n = zs.length → ∀ (row told st : Nat), row ≤ x.length → told ≤ x.length → st + n * 65537 ≤ 100000000 → ∃ fr row' told' st',
    Liter env lb23_0 [1, 0, 2, 7] hq.length [(1, gP u), (0, fP f), (2, va), (7, .int .i64 i)] ⟨twt hq r q f u A s t z ix v x row told st row told st, L, H, []⟩ =
      some (.exit 0, fr, ⟨twt hq r q f u A s t z ix v x row' told' st' row' told' st', L, H, []⟩)
  | 0, i, hi, row, told, st, hr, ht, hs => by
    obtain rfl : i = zs.length := by omega
    have hlz := (hza 0 0 0).lenF
    rw [iter_by lb23_0.eq_1]
    simp (disch := (first | omega | (simp only [lnE, put_length] <;> omega) | (refine Fit.mono ‹Fit _ _ _› ?_ <;> (simp only [lnE, put_length] <;> omega)) | (refine Fit.draw ‹Fit _ _ _› ?_ ?_ <;> (simp only [lnE, put_length] <;> omega)) | (refine Fit.hid1 ‹Fit _ _ _› ?_ ?_ <;> (simp only [lnE, put_length] <;> omega)) | (refine Fit.draw1 ‹Fit _ _ _› ?_ ?_ ?_ <;> (simp only [lnE, put_length] <;> omega)) | (refine Fit.range0 ?_ ?_ <;> (simp only [lnE, put_length] <;> omega)) | (refine ArOk.mono ‹ArOk _ _ _ _ _› ?_ <;> (simp only [lnE, put_length] <;> omega)) | (refine ArOk.hid ‹ArOk _ _ _ _ _› ?_ ?_ <;> (simp only [lnE, put_length] <;> omega)) | (refine ArOk.hid0 ‹ArOk _ _ _ _ _› ?_ ?_ <;> (simp only [lnE, put_length] <;> omega)) | ((intro xr hxr; simp [AM.refs, refsF, refsC] at hxr) <;> (simp only [lnE, put_length] <;> omega)) | fail)) only [syA, syB, argFr, D, E, T, C, undefv, eqF, aeq, sheqs, sheq, rdCells, cellsOf, fill, putAt, if_true, if_false, reduceIte, ↓reduceIte, reduceCtorEq, eq_self, Nat.reduceEqDiff, Nat.reduceAdd, Nat.reduceSub, Nat.reduceMul, Nat.reduceLT, Nat.reduceLeDiff, Nat.reducePow, Nat.reduceDiv, Nat.reduceMod, Int.reduceLT, Int.reduceLE, Int.reduceGT, Int.reduceGE, Int.reduceToNat, Int.reducePow, Int.reduceNeg, Int.reduceBEq, Int.reduceBNe, Int.reduceEq, Int.reduceAdd, Int.reduceSub, Int.reduceMul, cellv, sc, flatv, refs, refsF, refsC, syR, Int.le_refl, hlz]
    exact ⟨_, row, told, st, rfl⟩
  | n + 1, i, hi, row, told, st, hr, ht, hs => by
    have hiz : i < zs.length := by omega
    have hsm := T.k.small
    rw [Nat.add_mul, Nat.one_mul] at hs
    generalize hB : n * 65537 = nb at hs
    have hb0 : st + n * 65537 ≤ 100000000 := by rw [hB]; omega
    by_cases z0 : zs[i] = 0
    · by_cases hd : told = x.length ∨ row = ix
      · rw [ask_s0 T hza hzH hzl hiz z0 hd]
        exact ask_loop T hza hzH hzl n (i + 1) (by omega) row told st hr ht hb0
      · have hri : row ≠ ix := fun h => hd (.inr h)
        have hnx := nxR_le hr T.k.ixm hri
        have htl : told < x.length := by
          rcases Nat.lt_or_ge told x.length with h | h
          · exact h
          · exact absurd (.inl (by omega)) hd
        rw [ask_s1 T hza hzH hzl hiz z0 htl hri hr (by omega)]
        exact ask_loop T hza hzH hzl n (i + 1) (by omega) (nxR x ix row) (told + 1) (st + 1) hnx (by omega) (by rw [hB]; omega)
    · by_cases z1 : zs[i] = 1
      · have hvc := (vw_cost (f := fun _ => 0) (k := 1) (fun a => by omega) (x := x) (ix := ix) x.length 0 st).2
        rw [ask_s2 T hza hzH hzl hiz z1 (by omega)]
        exact ask_loop T hza hzH hzl n (i + 1) (by omega) row told _ hr ht (by rw [hB]; omega)
      · rw [ask_s3 T hza hzH hzl hiz z0 z1]
        exact ask_loop T hza hzH hzl n (i + 1) (by omega) 0 0 st (Nat.zero_le _) (Nat.zero_le _) hb0
theorem asked_walk (T : TtOk hq r q f u L H A s t z ix v x) {va : Value} {zs : List Int} (hza : ∀ (a b c : Nat), Ri (twt hq r q f u A s t z ix v x a b c a b c) va zs) (hzH : ∀ b, va = .slice (some ⟨b, 0, some 0⟩) zs.length 0 → H.contains b = false) (hzl : zs.length ≤ 100) : ∃ row' told' st', ∀ d,
    Lrun env (.func 23) [fP f, gP u, va] ⟨twt hq r q f u A s t z ix v x 0 0 0 0 0 0, L, H, d⟩ = some (.bool true, ⟨twt hq r q f u A s t z ix v x row' told' st' row' told' st', L, H, d⟩) := by
  obtain ⟨fr, row', told', st', e1⟩ := ask_loop T hza hzH hzl zs.length 0 (by omega) 0 0 0 (Nat.zero_le _) (Nat.zero_le _) (by omega)
  refine ⟨row', told', st', fun d => ?_⟩
  have hF := T.fit
  have hlenT := twt_len hq r q f u A s t z ix v x
  simp only [Int.natCast_zero] at e1
  rw [Lrun_sym 23 _ _ fn23]
  simp (disch := (first | omega | (simp only [lnE, put_length] <;> omega) | (refine Fit.mono ‹Fit _ _ _› ?_ <;> (simp only [lnE, put_length] <;> omega)) | (refine Fit.draw ‹Fit _ _ _› ?_ ?_ <;> (simp only [lnE, put_length] <;> omega)) | (refine Fit.hid1 ‹Fit _ _ _› ?_ ?_ <;> (simp only [lnE, put_length] <;> omega)) | (refine Fit.draw1 ‹Fit _ _ _› ?_ ?_ ?_ <;> (simp only [lnE, put_length] <;> omega)) | (refine Fit.range0 ?_ ?_ <;> (simp only [lnE, put_length] <;> omega)) | (refine ArOk.mono ‹ArOk _ _ _ _ _› ?_ <;> (simp only [lnE, put_length] <;> omega)) | (refine ArOk.hid ‹ArOk _ _ _ _ _› ?_ ?_ <;> (simp only [lnE, put_length] <;> omega)) | (refine ArOk.hid0 ‹ArOk _ _ _ _ _› ?_ ?_ <;> (simp only [lnE, put_length] <;> omega)) | ((intro xr hxr; simp [AM.refs, refsF, refsC] at hxr) <;> (simp only [lnE, put_length] <;> omega)) | fail)) only [syA, syB, argFr, D, E, T, C, undefv, eqF, aeq, sheqs, sheq, rdCells, cellsOf, fill, putAt, if_true, if_false, reduceIte, ↓reduceIte, reduceCtorEq, eq_self, Nat.reduceEqDiff, Nat.reduceAdd, Nat.reduceSub, Nat.reduceMul, Nat.reduceLT, Nat.reduceLeDiff, Nat.reducePow, Nat.reduceDiv, Nat.reduceMod, Int.reduceLT, Int.reduceLE, Int.reduceGT, Int.reduceGE, Int.reduceToNat, Int.reducePow, Int.reduceNeg, Int.reduceBEq, Int.reduceBNe, Int.reduceEq, Int.reduceAdd, Int.reduceSub, Int.reduceMul, cellv, sc, flatv, refs, refsF, refsC, syR, Int.le_refl, ac23, hlenT, e1]
  rw [gc_same (by rw [hlenT]; exact Nat.le_refl _)]
  simp (disch := (first | omega | (simp only [lnE, put_length] <;> omega) | (refine Fit.mono ‹Fit _ _ _› ?_ <;> (simp only [lnE, put_length] <;> omega)) | (refine Fit.draw ‹Fit _ _ _› ?_ ?_ <;> (simp only [lnE, put_length] <;> omega)) | (refine Fit.hid1 ‹Fit _ _ _› ?_ ?_ <;> (simp only [lnE, put_length] <;> omega)) | (refine Fit.draw1 ‹Fit _ _ _› ?_ ?_ ?_ <;> (simp only [lnE, put_length] <;> omega)) | (refine Fit.range0 ?_ ?_ <;> (simp only [lnE, put_length] <;> omega)) | (refine ArOk.mono ‹ArOk _ _ _ _ _› ?_ <;> (simp only [lnE, put_length] <;> omega)) | (refine ArOk.hid ‹ArOk _ _ _ _ _› ?_ ?_ <;> (simp only [lnE, put_length] <;> omega)) | (refine ArOk.hid0 ‹ArOk _ _ _ _ _› ?_ ?_ <;> (simp only [lnE, put_length] <;> omega)) | ((intro xr hxr; simp [AM.refs, refsF, refsC] at hxr) <;> (simp only [lnE, put_length] <;> omega)) | fail)) only [syA, syB, argFr, D, E, T, C, undefv, eqF, aeq, sheqs, sheq, rdCells, cellsOf, fill, putAt, if_true, if_false, reduceIte, ↓reduceIte, reduceCtorEq, eq_self, Nat.reduceEqDiff, Nat.reduceAdd, Nat.reduceSub, Nat.reduceMul, Nat.reduceLT, Nat.reduceLeDiff, Nat.reducePow, Nat.reduceDiv, Nat.reduceMod, Int.reduceLT, Int.reduceLE, Int.reduceGT, Int.reduceGE, Int.reduceToNat, Int.reducePow, Int.reduceNeg, Int.reduceBEq, Int.reduceBNe, Int.reduceEq, Int.reduceAdd, Int.reduceSub, Int.reduceMul, cellv, sc, flatv, refs, refsF, refsC, syR, Int.le_refl]
end
end ArA
end Go.Proofs.Ytlbdgbfblgjjgaa
