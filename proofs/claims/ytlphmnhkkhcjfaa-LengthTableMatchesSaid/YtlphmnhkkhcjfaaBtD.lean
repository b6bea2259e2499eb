/-
  THE BIT WRITER's functions on the abstract machine: Put. Conditions: none.
-/
import Derived.Test.YtlphmnhkkhcjfaaBtC
set_option linter.all false
section
namespace Go.Proofs.Ytlphmnhkkhcjfaa
namespace Bt
open Go Go.RowKit AM ArEnv
variable {hp : List Blk} {L : Nat} {H : List Nat} {a k : Nat} {l m : List Nat}

def fitsV (v : Nat) (w : Int) : Bool := decide (0 ≤ w ∧ w ≤ 32 ∧ v / 2 ^ w.toNat = 0)
/-- The blocks of the writer, with others behind all. -/
theorem Ws.app (w : Ws hp L H a k l) (hF : Fit hp.length L H) (nw : List Blk) : Ws (hp ++ nw) L H a (if l.length = 0 then hp.length + nw.length else k) l := by
  have hlt := w.lt
  by_cases h0 : l.length = 0
  · rw [if_pos h0]
    refine ⟨?_, fun h => absurd h0 h, fun _ => by simp, w.aL, by have := hF.1; omega, w.aH, hF.2.not (by omega), by omega, w.bits⟩
    have hn : l = [] := List.eq_nil_of_length_eq_zero h0
    subst hn
    rw [List.getElem?_append_left hlt, w.w]; rfl
  · rw [if_neg h0]
    exact ⟨by rw [List.getElem?_append_left hlt, w.w], fun h => by rw [List.getElem?_append_left (w.klt h), w.b h], fun h => absurd h h0, w.aL, w.kL, w.aH, w.kH, w.ne, w.bits⟩
/-- A function's end: what it made for itself is dropped, the writer's bytes are kept. -/
theorem gc_put (w : Ws hp L H a k l) (hF : Fit hp.length L H) {nw : List Blk} {v : Value} (hv : ∀ r ∈ refs v, r < hp.length) (hm : m.length = 0 → l.length = 0) :
    gc hp.length [v] ⟨wset (hp ++ nw) a (if l.length = 0 then hp.length + nw.length else k) m, L, H, dirt a l m⟩ = some ([v], ⟨wset hp a k m, L, H, dirt a l m⟩) := by
  have hlt := w.lt
  have hv' : ∀ v' ∈ [v], ∀ r ∈ refs v', r < hp.length := fun v' h1 r h2 => by simp at h1; subst h1; exact hv r h2
  by_cases h0 : m.length = 0
  · have hl := hm h0
    have hd : dirt a l m = [] := by unfold dirt; rw [if_pos (by simp only [nb]; omega)]
    rw [wset_nil h0, wset_nil h0, hd, gc_none hv' (by simp) (by simp)]
  · by_cases hl : l.length = 0
    · have hk := w.k0 hl
      subst hk
      rw [if_pos hl, show hp.length + nw.length = (hp ++ nw).length by simp, wset_new h0, wset_new h0, dirt_new hl h0, List.set_append_left _ _ hlt, List.append_assoc]
      have hg : (hp.set a (Wr (hp ++ nw).length m))[a]? = some (Wr (hp ++ nw).length m) := List.getElem?_set_self hlt
      rw [gc_into (k := nw.length) (g := nb m) (cs := u8s (byts m)) (by simp) hv' hg (by rw [Wr_refs h0]; simp) (by simp [Wb]), List.set_set]
      have : renB (plc hp.length [hp.length + nw.length]) (Wr (hp ++ nw).length m) = Wr hp.length m := by
        rw [Wr_some h0, Wr_some h0]
        simp only [renB, List.map_cons, List.map_nil, renC, List.length_append, plc_one]
      rw [this]; rfl
    · have hk := w.klt hl
      rw [if_neg hl, wset_old h0 (by simp; omega), wset_old h0 hk, List.set_append_left _ _ hlt, List.set_append_left _ _ (by simpa using hk)]
      refine gc_none' (by simp) hv' ?_ ?_
      · intro t ht
        unfold dirt at ht
        split at ht
        · cases ht
        · simp at ht; omega
      · intro t ht r hr
        unfold dirt at ht
        split at ht
        · cases ht
        · simp only [List.mem_cons, List.not_mem_nil, or_false] at ht
          subst ht
          have hg : ((hp.set t (Wr k m)).set k (Wb m))[t]? = some (Wr k m) := by rw [List.getElem?_set_ne (Ne.symm w.ne), List.getElem?_set_self hlt]
          unfold refsAt at hr
          rw [hg] at hr
          simp only [Wr_refs h0, List.mem_cons, List.not_mem_nil, or_false] at hr
          omega
theorem put_walk (w : Ws hp L H a k l) {v n : Nat} (hv : v < 4294967296) (hn : n ≤ 32) (hs : l.length ≤ 8387000) (hF : Fit hp.length L H) (hf : v / 2 ^ n = 0) (d : List Nat) :
    Lrun env (.func 58) [.pointer (some ⟨a, 0, some 0⟩), .int .u32 v, .int .i64 n] ⟨hp, L, H, d⟩ = some (.bool true, ⟨Bt.wset hp a k (l ++ bitsAt v n), L, H, joinDirty d (dirt a l (l ++ bitsAt v n))⟩) := by
  rw [Lrun_sym 58 _ _ fn58]
  have hft : decide (0 ≤ (n : Int) ∧ (n : Int) ≤ 32 ∧ v / 2 ^ ((n : Int)).toNat = 0) = true := by
    rw [decide_eq_true_eq]; exact ⟨by omega, by omega, by simpa using hf⟩
  have hw := fun hp L H d hF => fits_walk v n hv hp L H d hF
  simp only [hft] at hw
  have hdn := fun hp L H d hF => down_walk v n hp L H d hF
  have hlt := w.lt
  have hkl := w.kle
  have hq : ∃ hq, hq = hp ++ [Blk.cells 0 false [.pointer (some ⟨a, 0, some 0⟩)], .cells 0 true [.int .i64 n], .cells 0 true [.int .u32 v]] := ⟨_, rfl⟩
  obtain ⟨hq, rfl⟩ := hq
  have hlen3 : [Blk.cells 0 false [.pointer (some ⟨a, 0, some 0⟩)], Blk.cells 0 true [.int .i64 (n : Int)], Blk.cells 0 true [.int .u32 (v : Int)]].length = 3 := rfl
  have W := w.app hF [Blk.cells 0 false [.pointer (some ⟨a, 0, some 0⟩)], .cells 0 true [.int .i64 n], .cells 0 true [.int .u32 v]]
  have G := gc_put (m := l ++ bitsAt v n) (v := .bool true) w hF (nw := [Blk.cells 0 false [.pointer (some ⟨a, 0, some 0⟩)], .cells 0 true [.int .i64 n], .cells 0 true [.int .u32 v]]) (by simp [refs, refsF, refsC]) (by simp; intro h _; exact h)
  have hl := fun fr h3 => put_loop (fr := fr) (b3 := hp.length) (bv := hp.length + 1 + 1) W hv (hF.mono (by simp)) h3 (by rw [get_new0]) hF.not0 (by omega) (by rw [hlen3]; split <;> rename_i hx <;> first | omega | (have := w.klt hx; omega)) (by rw [Nat.add_assoc, get_new]; rfl) (hF.not1 2) (by omega) (by rw [hlen3]; split <;> rename_i hx <;> first | omega | (have := w.klt hx; omega)) n l hn id (Nat.le_refl _) w.bits (by omega)
  have hwl : wset (hp ++ [Blk.cells 0 false [.pointer (some ⟨a, 0, some 0⟩)], .cells 0 true [.int .i64 n], .cells 0 true [.int .u32 v]]) a (if l.length = 0 then hp.length + 3 else k) l = hp ++ [Blk.cells 0 false [.pointer (some ⟨a, 0, some 0⟩)], .cells 0 true [.int .i64 n], .cells 0 true [.int .u32 v]] := by
    by_cases h0 : l.length = 0
    · rw [wset_nil h0]
    · have W' := W
      rw [if_neg h0] at W' ⊢
      rw [wset_old h0 (by have := w.klt h0; simp; omega), set_same W'.w, set_same (W'.b h0)]
  have hd0 : dirt a l l = [] := by unfold dirt; rw [if_pos rfl]
  rw [hlen3] at hl G
  rw [hwl, hd0] at hl
  have hlb : (hp ++ [Blk.cells 0 false [.pointer (some ⟨a, 0, some 0⟩)], Blk.cells 0 true [.int .i64 (n : Int)], Blk.cells 0 true [.int .u32 (v : Int)]]).length = hp.length + 3 := by simp
  rw [hlb] at hl
  simp only [putBA, putB, D, T] at hl
  have hj : joinDirty [] (dirt a l (l ++ bitsAt v n)) = dirt a l (l ++ bitsAt v n) := by unfold dirt; split <;> simp [joinDirty]
  have G1 := gc_wset (m := l ++ bitsAt v n) (vs := []) W (hlb) (d := dirt a l (l ++ bitsAt v n)) (by simp) (fun h1 h2 => dirt_new h1 h2)
  rw [hlen3] at G1
  simp (disch := (first | omega | (simp only [lnE] <;> omega) | (refine Fit.mono ‹Fit _ _ _› ?_ <;> (simp only [lnE] <;> omega)) | (refine Fit.draw ‹Fit _ _ _› ?_ ?_ <;> (simp only [lnE] <;> omega)) | (refine Fit.hid1 ‹Fit _ _ _› ?_ ?_ <;> (simp only [lnE] <;> omega)) | (refine Fit.hidc1 ‹Fit _ _ _› ?_ ?_ <;> (simp only [lnE] <;> omega)) | (refine Fit.hidc2 ‹Fit _ _ _› ?_ ?_ ?_ <;> (simp only [lnE] <;> omega)) | (refine Fit.draw1 ‹Fit _ _ _› ?_ ?_ ?_ <;> (simp only [lnE] <;> omega)) | (refine Fit.range0 ?_ ?_ <;> (simp only [lnE] <;> omega)) | fail)) only [syA, syB, argFr, D, E, T, C, undefv, eqF, aeq, sheqs, sheq, rdCells, cellsOf, fill, putAt, if_true, if_false, reduceIte, ↓reduceIte, reduceCtorEq, eq_self, Nat.reduceEqDiff, Nat.reduceAdd, Nat.reduceSub, Nat.reduceMul, Nat.reduceLT, Nat.reduceLeDiff, Nat.reducePow, Nat.reduceDiv, Nat.reduceMod, Int.reduceLT, Int.reduceLE, Int.reduceGT, Int.reduceGE, Int.reduceToNat, Int.reducePow, Int.reduceNeg, Int.reduceBEq, Int.reduceBNe, Int.reduceEq, Int.reduceAdd, Int.reduceSub, Int.reduceMul, cellv, sc, flatv, refs, refsF, refsC, hF.not0, hF.not1, hF.up0, hF.up1, ac58, hw, hdn]
  rw [hl _ rfl]
  simp (disch := (first | omega | (simp only [lnE] <;> omega) | (refine Fit.mono ‹Fit _ _ _› ?_ <;> (simp only [lnE] <;> omega)) | (refine Fit.draw ‹Fit _ _ _› ?_ ?_ <;> (simp only [lnE] <;> omega)) | (refine Fit.hid1 ‹Fit _ _ _› ?_ ?_ <;> (simp only [lnE] <;> omega)) | (refine Fit.hidc1 ‹Fit _ _ _› ?_ ?_ <;> (simp only [lnE] <;> omega)) | (refine Fit.hidc2 ‹Fit _ _ _› ?_ ?_ ?_ <;> (simp only [lnE] <;> omega)) | (refine Fit.draw1 ‹Fit _ _ _› ?_ ?_ ?_ <;> (simp only [lnE] <;> omega)) | (refine Fit.range0 ?_ ?_ <;> (simp only [lnE] <;> omega)) | fail)) only [syA, syB, argFr, D, E, T, C, undefv, eqF, aeq, sheqs, sheq, rdCells, cellsOf, fill, putAt, if_true, if_false, reduceIte, ↓reduceIte, reduceCtorEq, eq_self, Nat.reduceEqDiff, Nat.reduceAdd, Nat.reduceSub, Nat.reduceMul, Nat.reduceLT, Nat.reduceLeDiff, Nat.reducePow, Nat.reduceDiv, Nat.reduceMod, Int.reduceLT, Int.reduceLE, Int.reduceGT, Int.reduceGE, Int.reduceToNat, Int.reducePow, Int.reduceNeg, Int.reduceBEq, Int.reduceBNe, Int.reduceEq, Int.reduceAdd, Int.reduceSub, Int.reduceMul, cellv, sc, flatv, refs, refsF, refsC, hF.not0, hF.not1, hF.up0, hF.up1, endFr, G1, G, hj]
end Bt
end Go.Proofs.Ytlphmnhkkhcjfaa
end
