/-
  THE BIT WRITER's functions on the abstract machine: a bit appended. Conditions: none.
-/
import Derived.Test.YtlphmnhkkhcjfaaBtPlain
import Derived.Test.YtlphmnhkkhcjfaaBtGc
import Derived.Test.YtlphmnhkkhcjfaaArEnv
set_option linter.all false
section
namespace Go.Proofs.Ytlphmnhkkhcjfaa
namespace Bt
open Go Go.RowKit AM ArEnv

/-- The writer's block; its bytes' block is k. -/
def Wr (k : Nat) (l : List Nat) : Blk := .cells 0 false [if l.length = 0 then .slice none 0 0 else .slice (some ⟨k, 0, some (nb l)⟩) (nb l) 1, .int .i64 l.length]
def Wb (l : List Nat) : Blk := .cells (nb l) true (u8s (byts l))
theorem Wr_nil (k : Nat) : Wr k [] = .cells 0 false [.slice none 0 0, .int .i64 0] := rfl
theorem Wr_some {k : Nat} {l : List Nat} (h : l.length ≠ 0) : Wr k l = .cells 0 false [.slice (some ⟨k, 0, some (nb l)⟩) (nb l) 1, .int .i64 l.length] := by simp [Wr, h]
theorem fdiv8 (n : Nat) : (n : Int).fdiv 8 = (n / 8 : Nat) := by rw [fdiv_pos _ (by decide)]; omega
theorem and7 (n : Nat) (h : n ≤ 9223372036854775807) : andI 64 n 7 = (n % 8 : Nat) := by
  have := mask 64 n 3 (by omega) (by omega) (by omega)
  unfold andI
  rw [show (7 : Int) = ((2 ^ 3 - 1 : Nat) : Int) by decide, this]
  omega
theorem or8 {x y : Nat} (hx : x < 256) (hy : y < 256) : orI 8 x y = (x ||| y : Nat) := by
  unfold orI
  rw [or_nat 8 x y hx hy]
theorem or_lt8 {x y : Nat} (hx : x < 256) (hy : y < 256) : x ||| y < 256 := Nat.or_lt_two_pow (n := 8) hx hy
theorem sm1 : small 1 = true := rfl
theorem bytes_at (l : List Nat) {i : Nat} (h : i < nb l) : (u8s (byts l))[i]? = some (.int .u8 (byt l i : Nat)) := by
  simp [u8s, byts, bytsN, h]
theorem sh_lt {b j : Nat} (hb : b < 2) (hj : j < 8) : b * 2 ^ (7 - j) < 256 := by
  rcases cases8 j hj with rfl | rfl | rfl | rfl | rfl | rfl | rfl | rfl <;> simp only [Nat.reduceSub, Nat.reducePow] <;> omega
theorem shl8 {b j : Nat} (hb : b < 2) (hj : j < 8) : IntKind.u8.wrap ((b : Int) * 2 ^ ((7 : Int) - (j : Int)).toNat) = (b * 2 ^ (7 - j) : Nat) := by
  have h := sh_lt hb hj
  have e : (b : Int) * 2 ^ ((7 : Int) - (j : Int)).toNat = (b * 2 ^ (7 - j) : Nat) := by
    rw [show ((7 : Int) - (j : Int)).toNat = 7 - j by omega]; push_cast; rfl
  rw [e, wu8 (by omega) (by omega)]
theorem add_in {hp : List Blk} {a k L : Nat} {H d : List Nat} {l : List Nat} {b : Nat} (hw : hp[a]? = some (Wr k l)) (hk : hp[k]? = some (Wb l)) (hl : Bits l) (hb : b < 2) (haL : L ≤ a) (hkL : L ≤ k) (haH : H.contains a = false) (hkH : H.contains k = false) (hak : a ≠ k) (h8 : l.length % 8 ≠ 0) (hs : l.length ≤ 8388000) (hF : Fit hp.length L H) :
    Lrun env (.func 80) [.pointer (some ⟨a, 0, some 0⟩), .int .u8 b] ⟨hp, L, H, d⟩ = some (.tuple #[], ⟨(hp.set a (Wr k (l ++ [b]))).set k (Wb (l ++ [b])), L, H, d⟩) := by
  rw [Lrun_sym 80 _ _ fn80]
  have hl0 : l.length ≠ 0 := by omega
  rw [Wr_some hl0] at hw
  have hal : (a < L) = False := eq_false (by omega)
  have hkl : (k < L) = False := eq_false (by omega)
  have hm : ((l.length % 8 : Nat) : Int) ≠ 0 := by omega
  unfold Wb at hk
  have h7 := and7 l.length (by omega)
  have hnb : nb l = l.length / 8 + 1 := by unfold nb; omega
  have i0 : (0 : Int) ≤ ((l.length / 8 : Nat) : Int) := by omega
  have i1 : ((l.length / 8 : Nat) : Int) < ((nb l : Nat) : Int) := by omega
  have hj : l.length % 8 < 8 := by omega
  have hrd := bytes_at l (i := l.length / 8) (by omega)
  have hneg : ((7 : Int) - ((l.length % 8 : Nat) : Int) < 0) = False := eq_false (by omega)
  have hsh := shl8 hb hj
  have hb0 := sh_lt hb hj
  have hor := or8 (byt_lt hl (l.length / 8)) hb0
  have hlt := or_lt8 (byt_lt hl (l.length / 8)) hb0
  have hlen : l.length / 8 + 1 ≤ (byts l).length := by rw [byts_length]; omega
  have hset : (u8s (byts l)).set (l.length / 8) (.int .u8 (byt l (l.length / 8) ||| b * 2 ^ (7 - l.length % 8) : Nat)) = u8s (byts (l ++ [b])) := by rw [byts_in hl hb h8]; simp [u8s, List.map_set]
  have hga : ∀ x, (hp.set k x)[a]? = hp[a]? := fun x => List.getElem?_set_ne (Ne.symm hak)
  have hfin : Blk.cells 0 false [.slice (some ⟨k, 0, some (nb l)⟩) (nb l) 1, .int .i64 ((l.length : Int) + 1)] = Wr k (l ++ [b]) := by
    rw [Wr_some (by simp), nb_in l b h8]; simp
  simp (disch := (first | omega | (simp only [lnE] <;> omega) | (refine Fit.mono ‹Fit _ _ _› ?_ <;> (simp only [lnE] <;> omega)) | (refine Fit.draw ‹Fit _ _ _› ?_ ?_ <;> (simp only [lnE] <;> omega)) | (refine Fit.hid1 ‹Fit _ _ _› ?_ ?_ <;> (simp only [lnE] <;> omega)) | (refine Fit.hidc1 ‹Fit _ _ _› ?_ ?_ <;> (simp only [lnE] <;> omega)) | (refine Fit.hidc2 ‹Fit _ _ _› ?_ ?_ ?_ <;> (simp only [lnE] <;> omega)) | (refine Fit.draw1 ‹Fit _ _ _› ?_ ?_ ?_ <;> (simp only [lnE] <;> omega)) | (refine Fit.range0 ?_ ?_ <;> (simp only [lnE] <;> omega)) | fail)) only [syA, syB, argFr, D, E, T, C, undefv, eqF, aeq, sheqs, sheq, rdCells, cellsOf, fill, putAt, if_true, if_false, reduceIte, ↓reduceIte, reduceCtorEq, eq_self, Nat.reduceEqDiff, Nat.reduceAdd, Nat.reduceSub, Nat.reduceMul, Nat.reduceLT, Nat.reduceLeDiff, Nat.reducePow, Nat.reduceDiv, Nat.reduceMod, Int.reduceLT, Int.reduceLE, Int.reduceGT, Int.reduceGE, Int.reduceToNat, Int.reducePow, Int.reduceNeg, Int.reduceBEq, Int.reduceBNe, Int.reduceEq, Int.reduceAdd, Int.reduceSub, Int.reduceMul, cellv, sc, flatv, refs, refsF, refsC, hF.not0, hF.not1, hF.up0, hF.up1, ac80, hw, hk, hal, hkl, haH, hkH, h7, eq_false hm, fdiv8, i0, i1, hrd, hneg, hsh, hor, hlen, hset, hga]
  rw [hfin, List.set_comm _ _ hak]
  unfold Wb
  rw [nb_in l b h8]
theorem add_more {hp : List Blk} {a k L : Nat} {H d : List Nat} {l : List Nat} {b : Nat} (hw : hp[a]? = some (Wr k l)) (hk : hp[k]? = some (Wb l)) (hl : Bits l) (hb : b < 2) (haL : L ≤ a) (hkL : L ≤ k) (haH : H.contains a = false) (hkH : H.contains k = false) (hak : a ≠ k) (h0 : l.length ≠ 0) (h8 : l.length % 8 = 0) (hs : l.length ≤ 8388000) (hF : Fit hp.length L H) :
    Lrun env (.func 80) [.pointer (some ⟨a, 0, some 0⟩), .int .u8 b] ⟨hp, L, H, d⟩ = some (.tuple #[], ⟨(hp.set a (Wr k (l ++ [b]))).set k (Wb (l ++ [b])), L, H, joinDirty d [a]⟩) := by
  rw [Lrun_sym 80 _ _ fn80]
  rw [Wr_some h0] at hw
  have hal : (a < L) = False := eq_false (by omega)
  have hkl : (k < L) = False := eq_false (by omega)
  have hm : ((l.length % 8 : Nat) : Int) = 0 := by omega
  have halen := (List.getElem?_eq_some_iff.1 hw).1
  have hklen := (List.getElem?_eq_some_iff.1 hk).1
  have h7 : andI 64 (l.length : Int) 7 = 0 := by rw [and7 l.length (by omega), hm]
  have hnb : nb l = l.length / 8 := by unfold nb; omega
  have happ : ∀ nw D, St.append ⟨hp ++ nw, L, H, D⟩ true 1 (.slice (some ⟨k, 0, some (nb l)⟩) (nb l) 1) 1 [.int .u8 0] = some (.slice (some ⟨k, 0, some (nb l + 1)⟩) (nb l + 1) 1, ⟨hp.set k (.cells (nb l + 1) true (u8s (byts l ++ [0]))) ++ nw, L, H, D⟩) := fun nw D => by
    have h1 : (hp ++ nw)[k]? = some (.cells (byts l).length true (u8s (byts l))) := by rw [List.getElem?_append_left hklen, hk, byts_length]; rfl
    have := append_full (L := L) (d := D) (l := [0]) h1 hkL hkH (by rw [byts_length, hnb]; simp; omega)
    simp only [byts_length, List.length_append, List.length_cons, List.length_nil, Nat.zero_add] at this
    rw [List.set_append_left _ _ hklen] at this
    exact this
  have i0 : (0 : Int) ≤ ((l.length / 8 : Nat) : Int) := by omega
  have i1 : ((l.length / 8 : Nat) : Int) < ((nb l + 1 : Nat) : Int) := by omega
  have hrd : (u8s (byts l ++ [0]))[l.length / 8]? = some (.int .u8 0) := by
    have : l.length / 8 = (byts l).length := by rw [byts_length, hnb]
    rw [this]; simp [u8s]
  have hsh : IntKind.u8.wrap ((b : Int) * 128) = (b * 128 : Nat) := by rw [wu8 (by omega) (by omega)]; omega
  have hor : orI 8 0 ((b * 128 : Nat) : Int) = ((b * 128 : Nat) : Int) := by
    have := or8 (x := 0) (y := b * 128) (by omega) (by omega)
    rw [Nat.zero_or] at this
    exact this
  have hfin : Blk.cells 0 false [.slice (some ⟨k, 0, some (nb l + 1)⟩) (nb l + 1) 1, .int .i64 ((l.length : Int) + 1)] = Wr k (l ++ [b]) := by
    rw [Wr_some (by simp), nb_more l b h8]; simp
  have hgA : ∀ x y, ((hp.set k x).set a y)[a]? = some y := fun x y => List.getElem?_set_self (by simpa using halen)
  have hgK : ∀ x y, ((hp.set k x).set a y)[k]? = some x := fun x y => by rw [List.getElem?_set_ne hak, List.getElem?_set_self hklen]
  have hsK : ∀ x y z, ((hp.set k x).set a y).set k z = (hp.set k z).set a y := fun x y z => by rw [List.set_comm _ _ hak, List.set_set]
  have hsA : ∀ x y z, ((hp.set k x).set a y).set a z = (hp.set k x).set a z := fun x y z => List.set_set ..
  have hlen : l.length / 8 + 1 ≤ (byts l).length + 1 := by rw [byts_length]; omega
  have hset : (u8s (byts l ++ [0])).set (l.length / 8) (.int .u8 (b * 128 : Nat)) = u8s (byts (l ++ [b])) := by rw [byts_more hl hb h8, Nat.zero_or]; simp [u8s, List.map_set]
  have hga : ∀ x, (hp.set k x)[a]? = hp[a]? := fun x => List.getElem?_set_ne (Ne.symm hak)
  simp (disch := (first | omega | (simp only [lnE] <;> omega) | (refine Fit.mono ‹Fit _ _ _› ?_ <;> (simp only [lnE] <;> omega)) | (refine Fit.draw ‹Fit _ _ _› ?_ ?_ <;> (simp only [lnE] <;> omega)) | (refine Fit.hid1 ‹Fit _ _ _› ?_ ?_ <;> (simp only [lnE] <;> omega)) | (refine Fit.hidc1 ‹Fit _ _ _› ?_ ?_ <;> (simp only [lnE] <;> omega)) | (refine Fit.hidc2 ‹Fit _ _ _› ?_ ?_ ?_ <;> (simp only [lnE] <;> omega)) | (refine Fit.draw1 ‹Fit _ _ _› ?_ ?_ ?_ <;> (simp only [lnE] <;> omega)) | (refine Fit.range0 ?_ ?_ <;> (simp only [lnE] <;> omega)) | fail)) only [syA, syB, argFr, D, E, T, C, undefv, eqF, aeq, sheqs, sheq, rdCells, cellsOf, fill, putAt, if_true, if_false, reduceIte, ↓reduceIte, reduceCtorEq, eq_self, Nat.reduceEqDiff, Nat.reduceAdd, Nat.reduceSub, Nat.reduceMul, Nat.reduceLT, Nat.reduceLeDiff, Nat.reducePow, Nat.reduceDiv, Nat.reduceMod, Int.reduceLT, Int.reduceLE, Int.reduceGT, Int.reduceGE, Int.reduceToNat, Int.reducePow, Int.reduceNeg, Int.reduceBEq, Int.reduceBNe, Int.reduceEq, Int.reduceAdd, Int.reduceSub, Int.reduceMul, cellv, sc, flatv, refs, refsF, refsC, hF.not0, hF.not1, hF.up0, hF.up1, ac80, hw, hk, hal, hkl, haH, hkH, h7, hm, fdiv8, i0, i1, sm1, happ, hrd, hsh, hor, hga, hgA, hgK, hsK, hsA, hlen, hset]
  rw [gc_none' (by simp) (by simp [AM.refs, AM.refsF, AM.refsC]) (by simpa using halen) (by
    intro t ht r hr
    simp only [List.mem_cons, List.not_mem_nil, or_false] at ht
    subst ht
    have : refsAt ((hp.set k (Blk.cells (nb l + 1) true (u8s (byts (l ++ [b]))))).set t (Blk.cells 0 false [.slice (some ⟨k, 0, some (nb l + 1)⟩) (nb l + 1) 1, .int .i64 ((l.length : Int) + 1)])) t = [k] := by
      unfold refsAt; rw [hgA]; rfl
    rw [this] at hr
    simp at hr
    omega)]
  rw [gcX_some, hfin, List.set_comm _ _ hak]
  unfold Wb
  rw [nb_more l b h8]
theorem plc_one (n k : Nat) : plc n [n + k] (n + k) = n := by
  have : ¬ n + k < n := by omega
  simp [plc, this]
theorem add_first {hp : List Blk} {a k L : Nat} {H d : List Nat} {b : Nat} (hw : hp[a]? = some (Wr k [])) (hb : b < 2) (haL : L ≤ a) (haH : H.contains a = false) (hF : Fit hp.length L H) :
    Lrun env (.func 80) [.pointer (some ⟨a, 0, some 0⟩), .int .u8 b] ⟨hp, L, H, d⟩ = some (.tuple #[], ⟨hp.set a (Wr hp.length [b]) ++ [Wb [b]], L, H, joinDirty d [a]⟩) := by
  rw [Lrun_sym 80 _ _ fn80]
  rw [Wr_nil] at hw
  have hal : (a < L) = False := eq_false (by omega)
  have halen := (List.getElem?_eq_some_iff.1 hw).1
  have h7 : andI 64 0 7 = 0 := by decide
  have hf0 : (0 : Int).fdiv 8 = 0 := by decide
  have happ : ∀ hq : List Blk, ∀ D, St.append ⟨hq, L, H, D⟩ true 1 (.slice none 0 0) 1 [.int .u8 0] = some (.slice (some ⟨hq.length, 0, some 1⟩) 1 1, ⟨hq ++ [.cells 1 true [.int .u8 0]], L, H, D⟩) := fun hq D =>
    append_nil1 (l := [0]) (by simp) (by simp)
  have hsh : IntKind.u8.wrap ((b : Int) * 128) = (b * 128 : Nat) := by rw [wu8 (by omega) (by omega)]; omega
  have hor : orI 8 0 ((b * 128 : Nat) : Int) = ((b * 128 : Nat) : Int) := by
    have := or8 (x := 0) (y := b * 128) (by omega) (by omega)
    rw [Nat.zero_or] at this
    exact this
  have hgA : ∀ y, (hp.set a y)[a]? = some y := fun y => List.getElem?_set_self halen
  have hsA : ∀ y z, (hp.set a y).set a z = hp.set a z := fun y z => List.set_set ..
  have hgn : ∀ y (u v : Blk), (hp.set a y ++ [u, v])[hp.length + 1]? = some v := fun y u v => by
    rw [List.getElem?_append_right (by simp), List.length_set, Nat.add_sub_cancel_left]; rfl
  have hsn : ∀ y (u v w : Blk), (hp.set a y ++ [u, v]).set (hp.length + 1) w = hp.set a y ++ [u, w] := fun y u v w => by
    rw [List.set_append_right _ _ (by simp), List.length_set, Nat.add_sub_cancel_left]; rfl
  simp (disch := (first | omega | (simp only [lnE] <;> omega) | (refine Fit.mono ‹Fit _ _ _› ?_ <;> (simp only [lnE] <;> omega)) | (refine Fit.draw ‹Fit _ _ _› ?_ ?_ <;> (simp only [lnE] <;> omega)) | (refine Fit.hid1 ‹Fit _ _ _› ?_ ?_ <;> (simp only [lnE] <;> omega)) | (refine Fit.hidc1 ‹Fit _ _ _› ?_ ?_ <;> (simp only [lnE] <;> omega)) | (refine Fit.hidc2 ‹Fit _ _ _› ?_ ?_ ?_ <;> (simp only [lnE] <;> omega)) | (refine Fit.draw1 ‹Fit _ _ _› ?_ ?_ ?_ <;> (simp only [lnE] <;> omega)) | (refine Fit.range0 ?_ ?_ <;> (simp only [lnE] <;> omega)) | fail)) only [syA, syB, argFr, D, E, T, C, undefv, eqF, aeq, sheqs, sheq, rdCells, cellsOf, fill, putAt, if_true, if_false, reduceIte, ↓reduceIte, reduceCtorEq, eq_self, Nat.reduceEqDiff, Nat.reduceAdd, Nat.reduceSub, Nat.reduceMul, Nat.reduceLT, Nat.reduceLeDiff, Nat.reducePow, Nat.reduceDiv, Nat.reduceMod, Int.reduceLT, Int.reduceLE, Int.reduceGT, Int.reduceGE, Int.reduceToNat, Int.reducePow, Int.reduceNeg, Int.reduceBEq, Int.reduceBNe, Int.reduceEq, Int.reduceAdd, Int.reduceSub, Int.reduceMul, cellv, sc, flatv, refs, refsF, refsC, hF.not0, hF.not1, hF.up0, hF.up1, ac80, hw, hal, haH, h7, hf0, sm1, happ, hsh, hor, hgA, hsA, hgn, hsn]
  rw [gc_into (k := 1) (g := 1) (cs := [.int .u8 (b * 128 : Nat)]) (by simp) (by simp [AM.refs, AM.refsF, AM.refsC]) (hgA _) (by simp [refsB, refsC]) rfl, gcX_some]
  simp only [hsA, renB, List.map_cons, List.map_nil, renC, plc_one]
  rw [Wr_some (by simp)]
  have : byts [b] = [b * 128] := by simp [byts, bytsN, nb, byt, g]; omega
  unfold Wb
  rw [this]
  simp [nb, u8s]
/-- The heap with the writer's bits. -/
def wset (hp : List Blk) (a k : Nat) (l : List Nat) : List Blk :=
  if l.length = 0 then hp else if k < hp.length then (hp.set a (Wr k l)).set k (Wb l) else hp.set a (Wr hp.length l) ++ [Wb l]
/-- A writer's blocks. -/
structure Ws (hp : List Blk) (L : Nat) (H : List Nat) (a k : Nat) (l : List Nat) : Prop where
  w : hp[a]? = some (Wr k l)
  b : l.length ≠ 0 → hp[k]? = some (Wb l)
  k0 : l.length = 0 → k = hp.length
  aL : L ≤ a
  kL : L ≤ k
  aH : H.contains a = false
  kH : H.contains k = false
  ne : a ≠ k
  bits : Bits l
def dirt (a : Nat) (l m : List Nat) : List Nat := if nb l = nb m then [] else [a]
end Bt
end Go.Proofs.Ytlphmnhkkhcjfaa
end
