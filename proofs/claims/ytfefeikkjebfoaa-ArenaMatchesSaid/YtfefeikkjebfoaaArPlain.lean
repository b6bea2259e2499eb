/-
  AN ARENA IN THE ABSTRACT MACHINE's MEMORY: a record and its bytes, written as one update of the heap. Conditions: none.
-/
import Derived.Test.YtfefeikkjebfoaaASy
set_option linter.all false
namespace Go.Proofs.Ytfefeikkjebfoaa
namespace AM
open Go Go.RowKit

/-! ### Parts of lists -/
def putN (l : List Nat) (off : Nat) (m : List Nat) : List Nat := l.take off ++ m ++ l.drop (off + m.length)
theorem putN_length {l m : List Nat} {off : Nat} (h : off + m.length ≤ l.length) : (putN l off m).length = l.length := by simp [putN]; omega
theorem putN_by {l m : List Nat} {off : Nat} (hl : By l) (hm : By m) : By (putN l off m) := ((hl.take _).append hm).append (hl.drop _)
theorem putN_get {l m : List Nat} {off : Nat} (h : off + m.length ≤ l.length) (j : Nat) : (putN l off m)[j]? = if off ≤ j ∧ j < off + m.length then m[j - off]? else l[j]? := by
  have h1 : (l.take off).length = off := by simp; omega
  unfold putN
  rcases Nat.lt_or_ge j off with hj | hj
  · rw [if_neg (by omega), List.append_assoc, List.getElem?_append_left (by omega), List.getElem?_take_of_lt hj]
  · rcases Nat.lt_or_ge j (off + m.length) with hk | hk
    · rw [if_pos ⟨hj, hk⟩, List.append_assoc, List.getElem?_append_right (by omega), h1, List.getElem?_append_left (by omega)]
    · rw [if_neg (by omega), List.getElem?_append_right (by simp; omega), List.getElem?_drop]
      congr 1
      simp; omega
theorem putAt_u8s {l m : List Nat} {off : Nat} (h : off + m.length ≤ l.length) : putAt (u8s l) off (u8s m) = u8s (putN l off m) := by
  apply List.ext_getElem?
  intro j
  rw [putAt_get _ _ _ _ (by simpa [u8s] using h), u8s_get (putN l off m) j, putN_get h, u8s_length]
  split
  · rw [u8s_get]
  · rw [u8s_get]
theorem putN_one {l : List Nat} {i x : Nat} (h : i < l.length) : putN l i [x] = l.set i x := by
  apply List.ext_getElem?
  intro j
  rw [putN_get (by simp; omega), List.getElem?_set]
  by_cases e : i = j
  · subst e; rw [if_pos ⟨Nat.le_refl _, by simp⟩, if_pos rfl, if_pos h]; simp
  · rw [if_neg (by simp; omega), if_neg e]

/-! ### The arena -/
structure Arn where
  bs : List Nat
  live : Int
  peak : Int
def arB (q : Nat) (A : Arn) : Blk := .cells 0 false [.slice (some ⟨q, 0, some 0⟩) A.bs.length 1, .int .i64 A.live, .int .i64 A.peak]
def byB (A : Arn) : Blk := .cells 0 true (u8s A.bs)
/-- The heap hp with the arena's record at r and its bytes at q. -/
def put (hp : List Blk) (r q : Nat) (A : Arn) : List Blk := (hp.set q (byB A)).set r (arB q A)
section
variable {hp nw : List Blk} {r q i L : Nat} {H d : List Nat} {A : Arn}
theorem put_length : (put hp r q A).length = hp.length := by simp [put]
theorem put_r (hr : r < hp.length) : (put hp r q A)[r]? = some (.cells 0 false [.slice (some ⟨q, 0, some 0⟩) A.bs.length 1, .int .i64 A.live, .int .i64 A.peak]) := by
  unfold put; rw [List.getElem?_set_self (by simpa using hr)]; rfl
theorem put_q (hq : q < hp.length) (h : r ≠ q) : (put hp r q A)[q]? = some (.cells 0 true (u8s A.bs)) := by
  unfold put; rw [List.getElem?_set_ne h, List.getElem?_set_self hq]; rfl
theorem put_o (h : r ≠ i) (h' : q ≠ i) : (put hp r q A)[i]? = hp[i]? := by
  unfold put; rw [List.getElem?_set_ne h, List.getElem?_set_ne h']
theorem put_app (hr : r < hp.length) (hq : q < hp.length) : put hp r q A ++ nw = put (hp ++ nw) r q A := by
  unfold put
  rw [List.set_append_left _ _ hq, List.set_append_left _ _ (by simpa using hr)]
theorem put_set_r {n : Nat} (live peak : Int) (hn : n = A.bs.length) : (put hp r q A).set r (.cells 0 false [.slice (some ⟨q, 0, some 0⟩) n 1, .int .i64 live, .int .i64 peak]) = put hp r q ⟨A.bs, live, peak⟩ := by
  subst hn; unfold put; rw [List.set_set]; rfl
theorem put_set_q {l : List Nat} (h : r ≠ q) (hl : l.length = A.bs.length) : (put hp r q A).set q (.cells 0 true (u8s l)) = put hp r q ⟨l, A.live, A.peak⟩ := by
  unfold put; rw [List.set_comm _ _ h, List.set_set]
  simp only [byB, arB, hl]
theorem put_set_o {b : Blk} (h : r ≠ i) (h' : q ≠ i) : (put hp r q A).set i b = put (hp.set i b) r q A := by
  unfold put; rw [List.set_comm _ _ h, List.set_comm _ _ h']
theorem put_put (h : r ≠ q) {B : Arn} : put (put hp r q A) r q B = put hp r q B := by
  unfold put; rw [List.set_comm _ _ h, List.set_set, List.set_set]
theorem put_comm {r' q' : Nat} {B : Arn} (h1 : r ≠ r') (h2 : r ≠ q') (h3 : q ≠ r') (h4 : q ≠ q') : put (put hp r q A) r' q' B = put (put hp r' q' B) r q A := by
  unfold put
  rw [List.set_comm _ _ h2, List.set_comm _ _ h4, List.set_comm _ _ h1, List.set_comm _ _ h3]
/-- A fresh arena. -/
theorem put_new (hp : List Blk) (A : Arn) : hp ++ [arB (hp.length + 1) A, byB A] = put (hp ++ [default, default]) hp.length (hp.length + 1) A := by
  unfold put
  rw [List.set_append_right _ _ (by omega), Nat.add_sub_cancel_left, List.set_append_right _ _ (by omega), Nat.sub_self]
  rfl
theorem gc_put (v : Value) (hr : r < hp.length) (hq : q < hp.length) : gc hp.length [v] ⟨put (hp ++ nw) r q A, L, H, []⟩ = gcY (put hp r q A) nw v L H (refs v).isEmpty := by
  rw [← put_app hr hq]
  have := gc_new (put hp r q A) nw v L H
  rwa [put_length] at this
theorem gcY_old {h : List Blk} {v : Value} (hv : ∀ x ∈ refs v, x < h.length) : gcY h nw v L H false = some ([v], ⟨h, L, H, []⟩) := by
  unfold gcY; exact gc_zero1 hv
end
/-- What the walks need of an arena. -/
structure ArOk (n r q : Nat) (H : List Nat) (A : Arn) : Prop where
  r_lt : r < n
  q_lt : q < n
  ne : r ≠ q
  by_ : By A.bs
  live0 : 0 ≤ A.live
  live1 : A.live ≤ A.bs.length
  peak0 : 0 ≤ A.peak
  peak1 : A.peak ≤ A.bs.length
  size : A.bs.length ≤ 1048576
  hr : H.contains r = false
  hq : H.contains q = false
theorem ArOk.mono {n m r q : Nat} {H : List Nat} {A : Arn} (k : ArOk n r q H A) (h : n ≤ m) : ArOk m r q H A :=
  { k with r_lt := Nat.lt_of_lt_of_le k.r_lt h, q_lt := Nat.lt_of_lt_of_le k.q_lt h }

theorem ArOk.hid {n m r q lo c : Nat} {H : List Nat} {A : Arn} (k : ArOk n r q H A) (h : n ≤ m) (h2 : n ≤ lo) : ArOk m r q (List.range' lo c ++ H) A :=
  { k with r_lt := Nat.lt_of_lt_of_le k.r_lt h, q_lt := Nat.lt_of_lt_of_le k.q_lt h, hr := by rw [contains_range (.inl (Nat.lt_of_lt_of_le k.r_lt h2))]; exact k.hr, hq := by rw [contains_range (.inl (Nat.lt_of_lt_of_le k.q_lt h2))]; exact k.hq }

theorem ArOk.hid0 {n m r q lo c : Nat} {A : Arn} (k : ArOk n r q [] A) (h : n ≤ m) (h2 : n ≤ lo) : ArOk m r q (List.range' lo c) A := by
  have := k.hid (c := c) h h2
  rwa [List.append_nil] at this

/-! ### What the operations do -/
def Arn.has (A : Arn) (s n : Int) : Bool := decide (s ≥ 0) && decide (n ≥ 0) && decide (s ≤ A.live) && decide (n ≤ A.live - s)
/-- Does the span hold n bytes from i on? -/
def Arn.part (A : Arn) (s len i n : Int) : Bool := A.has s len && decide (0 ≤ i) && decide (i ≤ len - n)
def Arn.take (A : Arn) (n : Int) : Arn := ⟨putN A.bs A.live.toNat (List.replicate n.toNat 0), A.live + n, max A.peak (A.live + n)⟩
/-- The arena, the span, the error. -/
def Arn.taken (A : Arn) (n : Int) : Arn × Int × Int × Int :=
  if n < 0 then (A, 0, 0, 2) else if n > A.bs.length - A.live then (A, 0, 0, 10) else (A.take n, A.live, n, 0)
def Arn.slot (A : Arn) (s i : Int) : Nat := A.bs.getD (s + i).toNat 0
def Arn.setAt (A : Arn) (s i : Int) (l : List Nat) : Arn := ⟨putN A.bs (s + i).toNat l, A.live, A.peak⟩
theorem Arn.has_iff {A : Arn} {s n : Int} : A.has s n = true ↔ 0 ≤ s ∧ 0 ≤ n ∧ s ≤ A.live ∧ n ≤ A.live - s := by
  simp [Arn.has, and_assoc]
theorem Arn.part_iff {A : Arn} {s len i n : Int} : A.part s len i n = true ↔ (0 ≤ s ∧ 0 ≤ len ∧ s ≤ A.live ∧ len ≤ A.live - s) ∧ 0 ≤ i ∧ i ≤ len - n := by
  simp [Arn.part, Arn.has_iff, and_assoc]
theorem ArOk.take {N r q : Nat} {H : List Nat} {A : Arn} (k : ArOk N r q H A) {n : Int} (h0 : 0 ≤ n) (h1 : n ≤ A.bs.length - A.live) : ArOk N r q H (A.take n) := by
  have hl : (A.take n).bs.length = A.bs.length := by
    have := k.live0
    simp only [Arn.take]; rw [putN_length]; simp; omega
  have h2 := k.live0
  have h3 := k.peak0
  have h4 := k.peak1
  have h5 := k.live1
  refine { k with by_ := ?_, live0 := ?_, live1 := ?_, peak0 := ?_, peak1 := ?_, size := by rw [hl]; exact k.size }
  · exact putN_by k.by_ fun x hx => by rw [List.mem_replicate] at hx; omega
  · simp only [Arn.take]; omega
  · rw [hl]; simp only [Arn.take]; omega
  · simp only [Arn.take]; omega
  · rw [hl]; simp only [Arn.take]; omega
theorem ArOk.setAt {N r q : Nat} {H : List Nat} {A : Arn} (k : ArOk N r q H A) {s i : Int} {l : List Nat} (hl : By l) (h : (s + i).toNat + l.length ≤ A.bs.length) : ArOk N r q H (A.setAt s i l) := by
  have e : (A.setAt s i l).bs.length = A.bs.length := by simp only [Arn.setAt]; exact putN_length h
  refine { k with by_ := putN_by k.by_ hl, live1 := by rw [e]; exact k.live1, peak1 := by rw [e]; exact k.peak1, size := by rw [e]; exact k.size }

/-! ### The operations' answers -/
def Arn.partV (A : Arn) (q : Nat) (s len i n : Int) : Value := if A.part s len i n = true then .slice (some ⟨q, (s + i).toNat, some 0⟩) n.toNat 0 else .slice none 0 0
def Arn.byteV (A : Arn) (s len i : Int) : Nat := if A.part s len i 1 = true then A.slot s i else 0
def Arn.setByte (A : Arn) (s len i : Int) (c : Nat) : Arn := if A.part s len i 1 = true then A.setAt s i [c] else A
def Arn.wpart (A : Arn) (s len i : Int) : Bool := decide (0 ≤ i ∧ i ≤ 1048576) && A.part s len (4 * i) 4
def le4 (a b c e : Nat) : Nat := a + 256 * b + 65536 * c + 16777216 * e
def Arn.wordV (A : Arn) (s len i : Int) : Nat := if A.wpart s len i = true then le4 (A.slot s (4 * i)) (A.slot s (4 * i + 1)) (A.slot s (4 * i + 2)) (A.slot s (4 * i + 3)) else 0
def split4 (v : Nat) : List Nat := [v % 256, v / 256 % 256, v / 65536 % 256, v / 16777216 % 256]
def Arn.setWord (A : Arn) (s len i : Int) (v : Nat) : Arn := if A.wpart s len i = true then A.setAt s (4 * i) (split4 v) else A
def Arn.loadO (A : Arn) (s n : Int) : Option (List Nat) := if A.has s n = true then some ((A.bs.drop s.toNat).take n.toNat) else none
def Arn.store (A : Arn) (s len i : Int) (l : List Nat) : Arn := if A.part s len i l.length = true then A.setAt s i l else A
def Arn.release (A : Arn) (m : Int) : Arn := if 0 ≤ m ∧ m ≤ A.live then ⟨A.bs, m, A.peak⟩ else A
def Arn.new (n : Nat) : Arn := ⟨List.replicate n 0, 0, 0⟩
theorem putN_nil (l : List Nat) (o : Nat) : putN l o [] = l := by simp [putN]
theorem Arn.setAt_nil (A : Arn) (s i : Int) : A.setAt s i [] = A := by simp [Arn.setAt, putN_nil]
theorem ArOk.part_le {N r q : Nat} {H : List Nat} {A : Arn} (k : ArOk N r q H A) {s len i n : Int} (h : A.part s len i n = true) (h0 : 0 ≤ n) : 0 ≤ s ∧ 0 ≤ i ∧ s + i + n ≤ A.bs.length ∧ (s + i).toNat + n.toNat ≤ A.bs.length := by
  have := Arn.part_iff.1 h
  have := k.live1
  omega
theorem ArOk.setByte {N r q : Nat} {H : List Nat} {A : Arn} (k : ArOk N r q H A) {s len i : Int} {c : Nat} (hc : c < 256) : ArOk N r q H (A.setByte s len i c) := by
  unfold Arn.setByte
  split
  · rename_i h
    have := k.part_le h (by omega)
    exact k.setAt (By.nil.cons hc) (by simp; omega)
  · exact k
theorem split4_by (v : Nat) : By (split4 v) := by
  intro x hx
  simp only [split4, List.mem_cons, List.not_mem_nil, or_false] at hx
  omega
theorem ArOk.wpart_le {N r q : Nat} {H : List Nat} {A : Arn} (k : ArOk N r q H A) {s len i : Int} (h : A.wpart s len i = true) : 0 ≤ s ∧ 0 ≤ i ∧ i ≤ 1048576 ∧ s + 4 * i + 4 ≤ A.bs.length ∧ A.part s len (4 * i) 4 = true := by
  simp only [Arn.wpart, Bool.and_eq_true, decide_eq_true_eq] at h
  have := k.part_le h.2 (by omega)
  exact ⟨by omega, by omega, by omega, by omega, h.2⟩
theorem ArOk.setWord {N r q : Nat} {H : List Nat} {A : Arn} (k : ArOk N r q H A) {s len i : Int} {v : Nat} : ArOk N r q H (A.setWord s len i v) := by
  unfold Arn.setWord
  split
  · rename_i h
    have := k.wpart_le h
    exact k.setAt (split4_by v) (by simp [split4]; omega)
  · exact k
theorem ArOk.store {N r q : Nat} {H : List Nat} {A : Arn} (k : ArOk N r q H A) {s len i : Int} {l : List Nat} (hl : By l) : ArOk N r q H (A.store s len i l) := by
  unfold Arn.store
  split
  · rename_i h
    have := k.part_le h (by omega)
    exact k.setAt hl (by omega)
  · exact k
theorem ArOk.release {N r q : Nat} {H : List Nat} {A : Arn} (k : ArOk N r q H A) (m : Int) : ArOk N r q H (A.release m) := by
  unfold Arn.release
  split
  · rename_i h
    have := k.live1
    exact { k with live0 := h.1, live1 := by simp only; omega }
  · exact k
theorem ArOk.taken {N r q : Nat} {H : List Nat} {A : Arn} (k : ArOk N r q H A) (n : Int) : ArOk N r q H (A.taken n).1 := by
  unfold Arn.taken
  split
  · exact k
  split
  · exact k
  · exact k.take (by omega) (by omega)
/-- A fresh arena, kept. -/
theorem gc_arena {h : List Blk} {L : Nat} {H : List Nat} {v : Value} {bs : List Value} {n : Nat} {x y : Int} (hv : refs v = [h.length + 1]) :
    gc h.length [v] ⟨h ++ [.cells 0 true bs, .cells 0 false [.slice (some ⟨h.length, 0, some 0⟩) n 1, .int .i64 x, .int .i64 y]], L, H, []⟩ =
      some ([ren (fun id => if id < h.length then id else h.length + [h.length + 1, h.length].idxOf id) v], ⟨h ++ [.cells 0 false [.slice (some ⟨h.length + 1, 0, some 0⟩) n 1, .int .i64 x, .int .i64 y], .cells 0 true bs], L, H, []⟩) := by
  have r1 : refsAt (h ++ [.cells 0 true bs, .cells 0 false [.slice (some ⟨h.length, 0, some 0⟩) n 1, .int .i64 x, .int .i64 y]]) (h.length + 1) = [h.length] := by
    simp [refsAt, get_new, refsB, refsC]
  have r0 : refsAt (h ++ [.cells 0 true bs, .cells 0 false [.slice (some ⟨h.length, 0, some 0⟩) n 1, .int .i64 x, .int .i64 y]]) h.length = [] := by
    simp [refsAt, refsB]
  unfold gc
  rw [if_neg (by simp)]
  simp only [List.flatMap_cons, List.flatMap_nil, List.append_nil, hv, List.filter_nil]
  have hf : List.filter (fun x => decide (h.length ≤ x)) [h.length + 1] = [h.length + 1] := by simp
  simp only [hf]
  have hreach : reach (h ++ [.cells 0 true bs, .cells 0 false [.slice (some ⟨h.length, 0, some 0⟩) n 1, .int .i64 x, .int .i64 y]]) h.length 4096 [h.length + 1] [] = [h.length + 1, h.length] := by
    rw [show 4096 = 4094 + 1 + 1 by rfl, reach, if_neg (by simp), r1, List.nil_append, List.append_nil, reach, if_neg (by simp), r0]
    rfl
  rw [hreach]
  unfold gcKeep
  simp only [List.filter_nil]
  refine (if_pos ?_).trans ?_
  · simp [nodupB, hv, r1, r0]
  · simp [renAll, renB, renC, List.getD_eq_getElem?_getD, get_new, List.idxOf, List.findIdx_cons, show (h.length + 1 == h.length) = false by simp]
theorem u8s_setN (l : List Nat) (i x : Nat) : (u8s l).set i (.int .u8 (x : Int)) = u8s (l.set i x) := by simp [u8s, List.map_set]
theorem flat_zero (n : Nat) : (List.replicate n [Value.int .u8 0]).flatten = u8s (List.replicate n 0) := by
  induction n with
  | zero => rfl
  | succ n ih => rw [List.replicate_succ, List.flatten_cons, ih, List.replicate_succ]; rfl
theorem putN_four {l : List Nat} {o a b c e : Nat} (h : o + 4 ≤ l.length) : putN l o [a, b, c, e] = (((l.set o a).set (o + 1) b).set (o + 2) c).set (o + 3) e := by
  apply List.ext_getElem?
  intro j
  rw [putN_get (by simp; omega)]
  simp only [List.getElem?_set, List.length_set]
  by_cases h3 : o + 3 = j
  · subst h3; rw [if_pos (by simp <;> omega), if_pos rfl, if_pos (by omega), show o + 3 - o = 3 by omega]; try rfl
  by_cases h2 : o + 2 = j
  · subst h2; rw [if_pos (by simp <;> omega), if_neg h3, if_pos rfl, if_pos (by omega), show o + 2 - o = 2 by omega]; try rfl
  by_cases h1 : o + 1 = j
  · subst h1; rw [if_pos (by simp <;> omega), if_neg h3, if_neg h2, if_pos rfl, if_pos (by omega), show o + 1 - o = 1 by omega]; try rfl
  by_cases h0 : o = j
  · subst h0; rw [if_pos (by simp), if_neg h3, if_neg h2, if_neg h1, if_pos rfl, if_pos (by omega), Nat.sub_self]; try rfl
  · rw [if_neg (by simp; omega), if_neg h3, if_neg h2, if_neg h1, if_neg h0]
theorem or32 {v c : Int} (k : Nat) (h0 : 0 ≤ v) (h1 : v < (2 ^ k : Nat)) (h2 : 0 ≤ c) (h3 : c ≤ 255) (hk : k ≤ 24) : orI 32 v (c * ((2 ^ k : Nat) : Int)) = v + c * ((2 ^ k : Nat) : Int) := by
  obtain ⟨a, rfl⟩ : ∃ a : Nat, v = a := ⟨v.toNat, by omega⟩
  obtain ⟨b, rfl⟩ : ∃ b : Nat, c = b := ⟨c.toNat, by omega⟩
  have e : (b : Int) * ((2 ^ k : Nat) : Int) = ((b * 2 ^ k : Nat) : Int) := by simp
  have hk2 : 2 ^ k ≤ 2 ^ 24 := Nat.pow_le_pow_right (by omega) hk
  have hb : b * 2 ^ k ≤ 255 * 2 ^ 24 := Nat.mul_le_mul (by omega) hk2
  have ha : a < 2 ^ k := by omega
  unfold orI
  rw [e, or_nat 32 a (b * 2 ^ k) (by omega) (by omega)]
  have h := Nat.shiftLeft_add_eq_or_of_lt (i := k) (b := a) ha b
  rw [Nat.shiftLeft_eq] at h
  rw [Nat.or_comm, ← h]; omega
theorem or32_8 {v c : Int} (h0 : 0 ≤ v) (h1 : v < 256) (h2 : 0 ≤ c) (h3 : c ≤ 255) : orI 32 v (c * 256) = v + c * 256 := or32 8 h0 (by simpa using h1) h2 h3 (by omega)
theorem or32_16 {v c : Int} (h0 : 0 ≤ v) (h1 : v < 65536) (h2 : 0 ≤ c) (h3 : c ≤ 255) : orI 32 v (c * 65536) = v + c * 65536 := or32 16 h0 (by simpa using h1) h2 h3 (by omega)
theorem or32_24 {v c : Int} (h0 : 0 ≤ v) (h1 : v < 16777216) (h2 : 0 ≤ c) (h3 : c ≤ 255) : orI 32 v (c * 16777216) = v + c * 16777216 := or32 24 h0 (by simpa using h1) h2 h3 (by omega)
theorem or32_0 {c : Int} (h2 : 0 ≤ c) (h3 : c ≤ 255) : orI 32 0 c = c := by
  have := or32 0 (v := 0) (by omega) (by simp) h2 h3 (by omega)
  simpa using this
theorem Arn.slot_lt {A : Arn} (h : By A.bs) (s i : Int) : A.slot s i < 256 := by
  simp only [Arn.slot, List.getD_eq_getElem?_getD]
  rcases Nat.lt_or_ge (s + i).toNat A.bs.length with h1 | h1
  · rw [List.getElem?_eq_getElem h1]; exact h.get h1
  · rw [List.getElem?_eq_none h1]; simp
def syR := And.intro @put_length <| And.intro @put_r <| And.intro @put_q <| And.intro @put_o <| And.intro @put_app <| And.intro @put_set_r <| And.intro @put_set_q <| And.intro @put_set_o <| And.intro @gc_put <| And.intro @gcY_old <| And.intro @sliceF_3 <| And.intro @u8s_setN <| And.intro @flat_zero <| @AM.putAt_u8s
end AM
end Go.Proofs.Ytfefeikkjebfoaa
