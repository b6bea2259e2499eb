/-
  THE BIT WRITER's laws: operations, one after the other. Conditions: none.
-/
import Derived.Test.YtceecoagooalpaaBtOf
set_option linter.all false
section
namespace Go.Proofs.Ytceecoagooalpaa
namespace Bt
open Go Go.RowKit AM ArEnv

/-- An operation: a number, its width; or the padding. -/
structure Dd where
  v : Nat
  w : Int
  pad : Bool
def drow (d : Dd) : List Value := [.int .u32 d.v, .int .i64 d.w, .bool d.pad]
theorem drow_length (d : Dd) : (drow d).length = 3 := rfl
def DOk (d : Dd) : Prop := d.v < 4294967296 ∧ -9223372036854775808 ≤ d.w ∧ d.w ≤ 9223372036854775807
def piece (l : List Nat) (d : Dd) : List Nat := if d.pad then List.replicate (padN l) 0 else if fitsV d.v d.w then bitsAt d.v d.w.toNat else []
def dnum (l : List Nat) (d : Dd) : Nat := if d.pad then padN l else 0
def dok (d : Dd) : Bool := d.pad || fitsV d.v d.w
theorem piece_bits (l : List Nat) (d : Dd) : Bits (piece l d) := by
  unfold piece
  split
  · exact Bits.zeros _
  · split
    · exact bitsAt_bits _ _
    · exact Bits.nil
theorem piece_length (l : List Nat) (d : Dd) : (piece l d).length ≤ 32 := by
  unfold piece
  split
  · simp [padN]; omega
  · split
    · next h =>
      rw [bitsAt_length]
      unfold fitsV at h
      rw [decide_eq_true_eq] at h
      omega
    · simp
/-- The bits after the operations. -/
def after (ds : List Dd) : List Nat := ds.foldl (fun l d => l ++ piece l d) []
theorem after_snoc (ds : List Dd) (d : Dd) : after (ds ++ [d]) = after ds ++ piece (after ds) d := by simp [after]
theorem after_bits (ds : List Dd) : ∀ l, Bits l → Bits (ds.foldl (fun l d => l ++ piece l d) l) := by
  induction ds with
  | nil => exact fun l h => h
  | cons d ds ih => exact fun l h => ih _ (h.append (piece_bits l d))
theorem after_length (ds : List Dd) : ∀ l : List Nat, (ds.foldl (fun l d => l ++ piece l d) l).length ≤ l.length + 32 * ds.length := by
  induction ds with
  | nil => intro l; simp
  | cons d ds ih =>
    intro l
    have := ih (l ++ piece l d)
    have := piece_length l d
    simp only [List.foldl_cons, List.length_append, List.length_cons] at *
    omega
theorem after_more (ds : List Dd) : ∀ l : List Nat, ∃ r, ds.foldl (fun l d => l ++ piece l d) l = l ++ r := by
  induction ds with
  | nil => exact fun l => ⟨[], by simp⟩
  | cons d ds ih =>
    intro l
    obtain ⟨r, hr⟩ := ih (l ++ piece l d)
    exact ⟨piece l d ++ r, by rw [List.foldl_cons, hr, List.append_assoc]⟩
def aft (ds : List Dd) (i : Nat) : List Nat := after (ds.take i)
theorem aft_bits (ds : List Dd) (i : Nat) : Bits (aft ds i) := after_bits _ [] Bits.nil
theorem aft_length (ds : List Dd) (i : Nat) : (aft ds i).length ≤ 32 * ds.length := by
  have h := after_length (ds.take i) []
  have : (ds.take i).length ≤ ds.length := by simp; omega
  simp only [List.length_nil] at h
  unfold aft after
  omega
theorem aft_zero (ds : List Dd) : aft ds 0 = [] := rfl
theorem aft_succ (ds : List Dd) {i : Nat} (hi : i < ds.length) : aft ds (i + 1) = aft ds i ++ piece (aft ds i) ds[i] := by
  unfold aft
  rw [List.take_succ, List.getElem?_eq_getElem hi, Option.toList_some, after_snoc]
theorem aft_all (ds : List Dd) : aft ds ds.length = after ds := by unfold aft; rw [List.take_length]
theorem aft_rest (ds : List Dd) (i : Nat) : ∃ r, after ds = aft ds i ++ r := by
  have h := after_more (ds.drop i) (aft ds i)
  have e : after ds = (ds.drop i).foldl (fun l d => l ++ piece l d) (aft ds i) := by
    conv => lhs; rw [← List.take_append_drop i ds]
    unfold aft after
    rw [List.foldl_append]
  rw [e]; exact h

section
variable {hp : List Blk} {L : Nat} {H : List Nat} {a k : Nat} {l : List Nat}
theorem wset_self (w : Ws hp L H a k l) : wset hp a k l = hp := by
  by_cases h0 : l.length = 0
  · rw [wset_nil h0]
  · rw [wset_old h0 (w.klt h0), set_same w.w, set_same (w.b h0)]
theorem dirt_self (a : Nat) (l : List Nat) : dirt a l l = [] := if_pos rfl
theorem does_walk (w : Ws hp L H a k l) {d : Dd} (hd : DOk d) (hs : l.length ≤ 8380000) (hF : Fit hp.length L H) (D0 : List Nat) :
    Lrun env (.func 24) [.pointer (some ⟨a, 0, some 0⟩), .agg (drow d).toArray] ⟨hp, L, H, D0⟩ = some (.tuple #[.int .i64 (dnum l d), .bool (dok d)], ⟨wset hp a k (l ++ piece l d), L, H, joinDirty D0 (dirt a l (l ++ piece l d))⟩) := by
  rw [Lrun_sym 24 _ _ fn24]
  obtain ⟨v, wd, pad⟩ := d
  obtain ⟨hv, hw0, hw1⟩ := hd
  simp only at hv hw0 hw1
  have hlt := w.lt
  have hF1 : Fit (hp ++ [Blk.cells 0 true (drow ⟨v, wd, pad⟩)]).length L H := hF.mono (by simp)
  have w1 := w.app hF [Blk.cells 0 true (drow ⟨v, wd, pad⟩)]
  have G := fun m hm => gc_put (m := m) (v := .tuple #[.int .i64 (dnum l ⟨v, wd, pad⟩), .bool (dok ⟨v, wd, pad⟩)]) w hF (nw := [Blk.cells 0 true (drow ⟨v, wd, pad⟩)]) (by simp [refs, refsF, refsC]) hm
  have hself := wset_self w1
  simp only [List.length_cons, List.length_nil, Nat.zero_add] at w1 G hself
  have hg : (hp ++ [Blk.cells 0 true (drow ⟨v, wd, pad⟩)])[hp.length]? = some (.cells 0 true (drow ⟨v, wd, pad⟩)) := get_new0 _
  unfold drow at *
  simp only at *
  cases pad with
  | true =>
    have hp1 := pad_walk w1 (by omega) hF1 []
    have e : piece l ⟨v, wd, true⟩ = List.replicate (padN l) 0 := rfl
    have hdt : dirt a l (padB l) = [] := by unfold dirt; rw [if_pos (padB_nb l).symm]
    have g := G (padB l) (fun h => by rw [padB_length] at h; omega)
    rw [e, show l ++ List.replicate (padN l) 0 = padB l from rfl, hdt]
    rw [hdt] at g
    simp only [dnum, dok, if_true, Bool.true_or] at g ⊢
    simp (disch := (first | omega | (simp only [lnE] <;> omega) | (refine Fit.mono ‹Fit _ _ _› ?_ <;> (simp only [lnE] <;> omega)) | (refine Fit.draw ‹Fit _ _ _› ?_ ?_ <;> (simp only [lnE] <;> omega)) | (refine Fit.hid1 ‹Fit _ _ _› ?_ ?_ <;> (simp only [lnE] <;> omega)) | (refine Fit.draw1 ‹Fit _ _ _› ?_ ?_ ?_ <;> (simp only [lnE] <;> omega)) | (refine Fit.range0 ?_ ?_ <;> (simp only [lnE] <;> omega)) | fail)) only [syA, syB, argFr, D, E, T, C, undefv, eqF, aeq, sheqs, sheq, rdCells, cellsOf, fill, putAt, if_true, if_false, reduceIte, ↓reduceIte, reduceCtorEq, eq_self, Nat.reduceEqDiff, Nat.reduceAdd, Nat.reduceSub, Nat.reduceMul, Nat.reduceLT, Nat.reduceLeDiff, Nat.reducePow, Nat.reduceDiv, Nat.reduceMod, Int.reduceLT, Int.reduceLE, Int.reduceGT, Int.reduceGE, Int.reduceToNat, Int.reducePow, Int.reduceNeg, Int.reduceBEq, Int.reduceBNe, Int.reduceEq, Int.reduceAdd, Int.reduceSub, Int.reduceMul, cellv, sc, flatv, refs, refsF, refsC, hF.not0, hF.not1, hF.up0, hF.up1, ac24, hp1, g]
  | false =>
    cases hf : fitsV v wd with
    | false =>
      have hp1 := fun d => put_bad (a := a) hv hF1 hf d
      have e : piece l ⟨v, wd, false⟩ = [] := by unfold piece; rw [if_neg (by simp), if_neg (by simp [hf])]
      have g := G l (fun h => h)
      rw [hself, wset_self w, dirt_self] at g
      rw [e, List.append_nil, wset_self w, dirt_self]
      simp only [dnum, dok, hf, Bool.false_eq_true, if_false, Bool.or_self, Int.natCast_zero] at g ⊢
      simp (disch := (first | omega | (simp only [lnE] <;> omega) | (refine Fit.mono ‹Fit _ _ _› ?_ <;> (simp only [lnE] <;> omega)) | (refine Fit.draw ‹Fit _ _ _› ?_ ?_ <;> (simp only [lnE] <;> omega)) | (refine Fit.hid1 ‹Fit _ _ _› ?_ ?_ <;> (simp only [lnE] <;> omega)) | (refine Fit.draw1 ‹Fit _ _ _› ?_ ?_ ?_ <;> (simp only [lnE] <;> omega)) | (refine Fit.range0 ?_ ?_ <;> (simp only [lnE] <;> omega)) | fail)) only [syA, syB, argFr, D, E, T, C, undefv, eqF, aeq, sheqs, sheq, rdCells, cellsOf, fill, putAt, if_true, if_false, reduceIte, ↓reduceIte, reduceCtorEq, eq_self, Nat.reduceEqDiff, Nat.reduceAdd, Nat.reduceSub, Nat.reduceMul, Nat.reduceLT, Nat.reduceLeDiff, Nat.reducePow, Nat.reduceDiv, Nat.reduceMod, Int.reduceLT, Int.reduceLE, Int.reduceGT, Int.reduceGE, Int.reduceToNat, Int.reducePow, Int.reduceNeg, Int.reduceBEq, Int.reduceBNe, Int.reduceEq, Int.reduceAdd, Int.reduceSub, Int.reduceMul, cellv, sc, flatv, refs, refsF, refsC, hF.not0, hF.not1, hF.up0, hF.up1, ac24, hp1, g]
    | true =>
      have hf' := hf
      unfold fitsV at hf'
      rw [decide_eq_true_eq] at hf'
      obtain ⟨n, rfl⟩ := Int.eq_ofNat_of_zero_le hf'.1
      rw [Int.toNat_natCast] at hf'
      have hp1 := put_walk w1 hv (n := n) (by omega) (by omega) hF1 hf'.2.2 []
      have e : piece l ⟨v, n, false⟩ = bitsAt v n := by unfold piece; rw [if_neg (by simp), if_pos hf, Int.toNat_natCast]
      have g := G (l ++ bitsAt v n) (fun h => by simp only [List.length_append] at h; omega)
      rw [e]
      simp only [dnum, dok, hf, Bool.false_eq_true, if_false, Bool.false_or, Int.natCast_zero] at g ⊢
      have hj : joinDirty [] (dirt a l (l ++ bitsAt v n)) = dirt a l (l ++ bitsAt v n) := by unfold dirt; split <;> simp [joinDirty]
      simp (disch := (first | omega | (simp only [lnE] <;> omega) | (refine Fit.mono ‹Fit _ _ _› ?_ <;> (simp only [lnE] <;> omega)) | (refine Fit.draw ‹Fit _ _ _› ?_ ?_ <;> (simp only [lnE] <;> omega)) | (refine Fit.hid1 ‹Fit _ _ _› ?_ ?_ <;> (simp only [lnE] <;> omega)) | (refine Fit.draw1 ‹Fit _ _ _› ?_ ?_ ?_ <;> (simp only [lnE] <;> omega)) | (refine Fit.range0 ?_ ?_ <;> (simp only [lnE] <;> omega)) | fail)) only [syA, syB, argFr, D, E, T, C, undefv, eqF, aeq, sheqs, sheq, rdCells, cellsOf, fill, putAt, if_true, if_false, reduceIte, ↓reduceIte, reduceCtorEq, eq_self, Nat.reduceEqDiff, Nat.reduceAdd, Nat.reduceSub, Nat.reduceMul, Nat.reduceLT, Nat.reduceLeDiff, Nat.reducePow, Nat.reduceDiv, Nat.reduceMod, Int.reduceLT, Int.reduceLE, Int.reduceGT, Int.reduceGE, Int.reduceToNat, Int.reducePow, Int.reduceNeg, Int.reduceBEq, Int.reduceBNe, Int.reduceEq, Int.reduceAdd, Int.reduceSub, Int.reduceMul, cellv, sc, flatv, refs, refsF, refsC, hF.not0, hF.not1, hF.up0, hF.up1, ac24, hp1, hj, g]
end
end Bt
end Go.Proofs.Ytceecoagooalpaa
end
