/-
  WORDS FOR WALKS ON THE ABSTRACT MACHINE: numbers that stay in range, slices of bytes that can be read, fresh slices of bytes. Conditions: none.
  WORDS FOR WALKS ON THE ABSTRACT MACHINE, more of them. Conditions: none.
  THE EQUATIONS OF THE ABSTRACT MACHINE, all in one. Conditions: none.
-/
import Derived.Test.YtpjjkmfidghkjaaAGcSym
import Derived.Laws.BitsLemmas
set_option linter.all false
section
namespace Go.Proofs.Ytpjjkmfidghkjaa
namespace AM
open Go Go.RowKit

/-! ### Numbers -/
theorem w64 {n : Int} (h : -9223372036854775808 ≤ n) (h' : n ≤ 9223372036854775807) : IntKind.i64.wrap n = n := by rw [IntKind.wrap_i64]; omega
theorem wu8 {n : Int} (h : 0 ≤ n) (h' : n ≤ 255) : IntKind.u8.wrap n = n := by simp [IntKind.wrap, IntKind.bits, IntKind.signed]; omega
theorem wu8m (n : Int) : IntKind.u8.wrap n = n % 256 := by simp [IntKind.wrap, IntKind.bits, IntKind.signed]
theorem wu32 {n : Int} (h : 0 ≤ n) (h' : n ≤ 4294967295) : IntKind.u32.wrap n = n := by simp [IntKind.wrap, IntKind.bits, IntKind.signed]; omega
theorem wu32m (n : Int) : IntKind.u32.wrap n = n % 4294967296 := by simp [IntKind.wrap, IntKind.bits, IntKind.signed]
theorem wu64 {n : Int} (h : 0 ≤ n) (h' : n ≤ 18446744073709551615) : IntKind.u64.wrap n = n := by simp [IntKind.wrap, IntKind.bits, IntKind.signed]; omega
theorem wu64m (n : Int) : IntKind.u64.wrap n = n % 18446744073709551616 := by simp [IntKind.wrap, IntKind.bits, IntKind.signed]
theorem bits_i64 : IntKind.i64.bits = 64 := rfl
theorem bits_u64 : IntKind.u64.bits = 64 := rfl
theorem bits_u32 : IntKind.u32.bits = 32 := rfl
theorem bits_u8 : IntKind.u8.bits = 8 := rfl
theorem fdiv_pos (a : Int) {b : Int} (h : 0 ≤ b) : a.fdiv b = a / b := Int.fdiv_eq_ediv_of_nonneg a h
theorem tdiv_pos {a b : Int} (h : 0 ≤ a) : a.tdiv b = a / b := Int.tdiv_eq_ediv_of_nonneg h
theorem tmod_pos {a b : Int} (h : 0 ≤ a) : a.tmod b = a % b := Int.tmod_eq_emod_of_nonneg h

theorem bv_nat (w a : Nat) (h : a < 2 ^ w) : (BitVec.ofInt w (a : Int)).toNat = a := by
  rw [BitVec.ofInt_natCast, BitVec.toNat_ofNat, Nat.mod_eq_of_lt h]
theorem and_nat (w a b : Nat) (ha : a < 2 ^ w) (hb : b < 2 ^ w) : (BitVec.ofInt w (a : Int) &&& BitVec.ofInt w (b : Int)).toNat = a &&& b := by
  rw [BitVec.toNat_and, bv_nat w a ha, bv_nat w b hb]
theorem or_nat (w a b : Nat) (ha : a < 2 ^ w) (hb : b < 2 ^ w) : (BitVec.ofInt w (a : Int) ||| BitVec.ofInt w (b : Int)).toNat = a ||| b := by
  rw [BitVec.toNat_or, bv_nat w a ha, bv_nat w b hb]
theorem mask (w : Nat) (n : Int) (k : Nat) (h0 : 0 ≤ n) (h1 : n < ((2 ^ w : Nat) : Int)) (hk : k < w) : ((BitVec.ofInt w n &&& BitVec.ofInt w ((2 ^ k - 1 : Nat) : Int)).toNat : Int) = n % ((2 ^ k : Nat) : Int) := by
  obtain ⟨a, rfl⟩ : ∃ a : Nat, n = a := ⟨n.toNat, by omega⟩
  have hp : 2 ^ k < 2 ^ w := Nat.pow_lt_pow_right (by omega) hk
  rw [and_nat w a _ (by omega) (by omega), Nat.and_two_pow_sub_one_eq_mod]
  rfl
def andI (w : Nat) (a b : Int) : Int := ((BitVec.ofInt w a &&& BitVec.ofInt w b).toNat : Int)
def orI (w : Nat) (a b : Int) : Int := ((BitVec.ofInt w a ||| BitVec.ofInt w b).toNat : Int)
def xorI (w : Nat) (a b : Int) : Int := ((BitVec.ofInt w a ^^^ BitVec.ofInt w b).toNat : Int)
theorem abin_andI {k : IntKind} {a b : Int} : abin .and (.int k a) (.int k b) = some (.int k (k.wrap (andI k.bits a b))) := abin_and
theorem abin_orI {k : IntKind} {a b : Int} : abin .or (.int k a) (.int k b) = some (.int k (k.wrap (orI k.bits a b))) := abin_or
theorem abin_xorI {k : IntKind} {a b : Int} : abin .xor (.int k a) (.int k b) = some (.int k (k.wrap (xorI k.bits a b))) := abin_xor
theorem and127_i64 {n : Int} (h0 : 0 ≤ n) (h1 : n ≤ 9223372036854775807) : andI 64 n 127 = n % 128 := mask 64 n 7 h0 (by omega) (by omega)
theorem and127_u8 {n : Int} (h0 : 0 ≤ n) (h1 : n ≤ 255) : andI 8 n 127 = n % 128 := mask 8 n 7 h0 (by omega) (by omega)
theorem or7_i64 {v x : Int} (h0 : 0 ≤ v) (h1 : v ≤ 36028797018963967) (h2 : 0 ≤ x) (h3 : x ≤ 127) : orI 64 (v * 128) x = v * 128 + x := by
  obtain ⟨a, rfl⟩ : ∃ a : Nat, v = a := ⟨v.toNat, by omega⟩
  obtain ⟨b, rfl⟩ : ∃ b : Nat, x = b := ⟨x.toNat, by omega⟩
  have e : (a : Int) * 128 = ((a * 128 : Nat) : Int) := by omega
  unfold orI; rw [e, or_nat 64 (a * 128) b (by omega) (by omega)]
  have h : a * 128 ||| b = a * 128 + b := by
    have := Nat.shiftLeft_add_eq_or_of_lt (i := 7) (b := b) (by omega) a
    rw [Nat.shiftLeft_eq] at this
    exact this.symm
  rw [h]; omega
theorem or128_u8 {x : Int} (h2 : 0 ≤ x) (h3 : x ≤ 127) : orI 8 x 128 = 128 + x := by
  obtain ⟨b, rfl⟩ : ∃ b : Nat, x = b := ⟨x.toNat, by omega⟩
  have e : (128 : Int) = ((128 : Nat) : Int) := rfl
  unfold orI; rw [e, or_nat 8 b 128 (by omega) (by omega)]
  have h : b ||| 128 = 128 + b := by
    have := Nat.shiftLeft_add_eq_or_of_lt (i := 7) (b := b) (by omega) 1
    rw [Nat.or_comm]; exact this.symm
  rw [h]; omega

/-! ### Bytes as a string has them -/
def b8 (l : List Nat) : List UInt8 := l.map UInt8.ofNat
def By (l : List Nat) : Prop := ∀ b ∈ l, b < 256
theorem By.nil : By [] := fun b h => by cases h
theorem By.cons {b : Nat} {l : List Nat} (h : b < 256) (hl : By l) : By (b :: l) := fun x hx => by
  rcases List.mem_cons.1 hx with rfl | hx
  · exact h
  · exact hl x hx
theorem By.head {b : Nat} {l : List Nat} (h : By (b :: l)) : b < 256 := h b (by simp)
theorem By.tail {b : Nat} {l : List Nat} (h : By (b :: l)) : By l := fun x hx => h x (by simp [hx])
theorem By.append {l m : List Nat} (h : By l) (k : By m) : By (l ++ m) := fun x hx => (List.mem_append.1 hx).elim (h x) (k x)
theorem By.left {l m : List Nat} (h : By (l ++ m)) : By l := fun x hx => h x (by simp [hx])
theorem By.right {l m : List Nat} (h : By (l ++ m)) : By m := fun x hx => h x (by simp [hx])
theorem By.take {l : List Nat} (h : By l) (n : Nat) : By (l.take n) := fun x hx => h x (List.mem_of_mem_take hx)
theorem By.drop {l : List Nat} (h : By l) (n : Nat) : By (l.drop n) := fun x hx => h x (List.mem_of_mem_drop hx)
theorem By.get {l : List Nat} (h : By l) {i : Nat} (hi : i < l.length) : l[i] < 256 := h _ (List.getElem_mem hi)
theorem b8_inj {l m : List Nat} (hl : By l) (hm : By m) : b8 l = b8 m ↔ l = m := by
  refine ⟨fun h => ?_, fun h => by rw [h]⟩
  unfold b8 at h
  induction l generalizing m with
  | nil => cases m with
    | nil => rfl
    | cons => simp at h
  | cons x l ih => cases m with
    | nil => simp at h
    | cons y m =>
      simp only [List.map_cons, List.cons.injEq] at h
      have h1 : x = y := by
        have := congrArg UInt8.toNat h.1
        simp only [UInt8.toNat_ofNat'] at this
        have := hl.head
        have := hm.head
        omega
      rw [h1, ih hl.tail hm.tail h.2]
theorem b8_append (l m : List Nat) : b8 l ++ b8 m = b8 (l ++ m) := by simp [b8]
theorem b8_length (l : List Nat) : (b8 l).length = l.length := by simp [b8]
theorem b8_nil : b8 [] = [] := rfl
theorem bytesv_u8s : ∀ (l : List Nat), bytesv (u8s l) = some (b8 l)
  | [] => rfl
  | x :: l => by
    have := bytesv_u8s l
    simp only [u8s, List.map_cons, bytesv] at this ⊢
    rw [this]
    simp [b8]
theorem size_str (l : List UInt8) : (ByteArray.mk l.toArray).size = l.length := by simp [ByteArray.size]
theorem toList_str (l : List UInt8) : (ByteArray.mk l.toArray).data.toList = l := by simp
theorem sbin_eql (l m : List UInt8) : abin .eql (.string ⟨l.toArray⟩) (.string ⟨m.toArray⟩) = some (.bool (l == m)) := by simp [abin, sbin]
theorem sbin_neq (l m : List UInt8) : abin .neq (.string ⟨l.toArray⟩) (.string ⟨m.toArray⟩) = some (.bool (!(l == m))) := by simp [abin, sbin]
theorem sbin_lss (l m : List UInt8) : abin .lss (.string ⟨l.toArray⟩) (.string ⟨m.toArray⟩) = some (.bool (bless l m)) := by simp [abin, sbin]
theorem sbin_add (l m : List UInt8) : abin .add (.string ⟨l.toArray⟩) (.string ⟨m.toArray⟩) = if l.length + m.length ≤ 1099511627776 then some (.string ⟨(l ++ m).toArray⟩) else none := by simp [abin, sbin, ByteArray.size]
theorem b8_eq {l m : List Nat} (hl : By l) (hm : By m) : (b8 l == b8 m) = decide (l = m) := by
  rw [Bool.eq_iff_iff]; simp [b8_inj hl hm]

/-! ### What was hidden, what may be written -/
def Low (n : Nat) (H : List Nat) : Prop := ∀ t ∈ H, t < n
theorem Low.nil (n : Nat) : Low n [] := fun t h => by cases h
theorem Low.mono {n m : Nat} {H : List Nat} (h : Low n H) (k : n ≤ m) : Low m H := fun t ht => Nat.lt_of_lt_of_le (h t ht) k
theorem Low.range {n lo k : Nat} {H : List Nat} (h : Low n H) (hk : lo + k ≤ n) : Low n (List.range' lo k ++ H) := fun t ht => by
  rcases List.mem_append.1 ht with ht | ht
  · have := List.mem_range'_1.1 ht; omega
  · exact h t ht
theorem Low.not {n i : Nat} {H : List Nat} (h : Low n H) (hi : n ≤ i) : H.contains i = false := by
  cases e : H.contains i with
  | false => rfl
  | true => have := h i (by simpa using e); omega
theorem Low.not0 {n : Nat} {H : List Nat} (h : Low n H) : H.contains n = false := h.not (Nat.le_refl _)
theorem Low.not1 {n : Nat} {H : List Nat} (h : Low n H) (i : Nat) : H.contains (n + i) = false := h.not (by omega)
theorem contains_range {lo k i : Nat} {H : List Nat} (h : i < lo ∨ lo + k ≤ i) : (List.range' lo k ++ H).contains i = H.contains i := by
  rw [Bool.eq_iff_iff]
  simp only [List.contains_iff_mem, List.mem_append, List.mem_range'_1]
  constructor
  · rintro (h1 | h1)
    · omega
    · exact h1
  · exact .inr

/-! ### A slice of bytes that can be read -/
structure Rd (σ : St) (v : Value) (l : List Nat) : Prop where
  by_ : By l
  form : (v = .slice none 0 0 ∧ l = []) ∨ ∃ b o g e pl cs, v = .slice (some ⟨b, o, some g⟩) l.length e ∧ (e = 0 ∨ e = 1) ∧ σ.hid.contains b = false ∧ σ.heap[b]? = some (.cells g pl cs) ∧ o + l.length ≤ cs.length ∧ (cs.drop o).take l.length = u8s l
theorem Rd.len {σ : St} {v : Value} {l : List Nat} (h : Rd σ v l) : ∃ a e, v = .slice a l.length e := by
  rcases h.form with ⟨rfl, rfl⟩ | ⟨b, o, g, e, pl, cs, rfl, _⟩
  · exact ⟨none, 0, rfl⟩
  · exact ⟨_, _, rfl⟩
theorem Rd.str {σ : St} {v : Value} {l : List Nat} (h : Rd σ v l) : σ.str v = some (b8 l) := by
  rcases h.form with ⟨rfl, rfl⟩ | ⟨b, o, g, e, pl, cs, rfl, _, hh, hb, hl, hc⟩
  · rfl
  · have : σ.blk ⟨b, o, some g⟩ = some (pl, cs) := by unfold St.blk; rw [hh, hb]; simp
    simp only [St.str, this, Option.bind_some, if_pos hl, hc, bytesv_u8s]
theorem Rd.lenF {σ : St} {v : Value} {l : List Nat} (h : Rd σ v l) : lenF v = some (.int .i64 l.length) := by
  obtain ⟨a, e, rfl⟩ := h.len; rfl
/-- Reading on: a longer heap, other things hidden. -/
theorem Rd.more {σ τ : St} {v : Value} {l : List Nat} (h : Rd σ v l) (hp : ∀ b x, σ.heap[b]? = some x → σ.hid.contains b = false → τ.heap[b]? = some x ∧ τ.hid.contains b = false) : Rd τ v l := by
  refine ⟨h.by_, ?_⟩
  rcases h.form with h1 | ⟨b, o, g, e, pl, cs, h1, h2, h3, h4, h5⟩
  · exact .inl h1
  · obtain ⟨h6, h7⟩ := hp b _ h4 h3
    exact .inr ⟨b, o, g, e, pl, cs, h1, h2, h7, h6, h5⟩
theorem Rd.app {h nw : List Blk} {L L' : Nat} {H d d' : List Nat} {v : Value} {l : List Nat} (k : Rd ⟨h, L, H, d⟩ v l) : Rd ⟨h ++ nw, L', H, d'⟩ v l :=
  k.more fun b x hx hh => ⟨by rw [List.getElem?_append_left (List.getElem?_eq_some_iff.1 hx).1]; exact hx, hh⟩
theorem Rd.hide {h nw : List Blk} {L L' : Nat} {H d d' : List Nat} {v : Value} {l : List Nat} (k : Rd ⟨h, L, H, d⟩ v l) (lo n : Nat) (hlo : h.length ≤ lo) : Rd ⟨h ++ nw, L', List.range' lo n ++ H, d'⟩ v l :=
  k.more fun b x hx hh => by
    have hb := (List.getElem?_eq_some_iff.1 hx).1
    exact ⟨by rw [List.getElem?_append_left hb]; exact hx, by rw [contains_range (.inl (by simp only at hb; omega))]; exact hh⟩
theorem Rd.locked {h : List Blk} {L L' : Nat} {H d d' : List Nat} {v : Value} {l : List Nat} (k : Rd ⟨h, L, H, d⟩ v l) : Rd ⟨h, L', H, d'⟩ v l := k.more fun _ _ hx hh => ⟨hx, hh⟩
theorem u8s_drop_one {cs : List Value} {o : Nat} {l : List Nat} (h : (cs.drop o).take l.length = u8s l) {i : Nat} (hi : i < l.length) : cs[o + i]? = some (.int .u8 (l[i] : Nat)) := by
  have : ((cs.drop o).take l.length)[i]? = some (.int .u8 (l[i] : Nat)) := by rw [h, u8s_get, List.getElem?_eq_getElem hi]; rfl
  rw [List.getElem?_take, if_pos hi, List.getElem?_drop] at this
  exact this
/-- A byte of it: where it lies, and what lies there. -/
theorem Rd.at_ {σ : St} {a : Option Addr} {e : Nat} {l : List Nat} {n : Nat} (h : Rd σ (.slice a n e) l) {i : Nat} (hi : i < l.length) :
    ∃ b o g pl cs, a = some ⟨b, o, some g⟩ ∧ n = l.length ∧ σ.hid.contains b = false ∧ σ.heap[b]? = some (.cells g pl cs) ∧ cs[o + i]? = some (.int .u8 (l[i] : Nat)) := by
  rcases h.form with ⟨h1, rfl⟩ | ⟨b, o, g, e', pl, cs, h1, _, hh, hb, hl, hc⟩
  · simp at hi
  · cases h1
    exact ⟨b, o, g, pl, cs, rfl, rfl, hh, hb, u8s_drop_one hc hi⟩
theorem Rd.n_eq {σ : St} {a : Option Addr} {e : Nat} {l : List Nat} {n : Nat} (h : Rd σ (.slice a n e) l) : n = l.length := by
  rcases h.form with ⟨h1, rfl⟩ | ⟨b, o, g, e', pl, cs, h1, _⟩ <;> cases h1 <;> rfl
/-- What an append or a copy takes from it. -/
theorem Rd.news {σ : St} {v : Value} {l : List Nat} (h : Rd σ v l) : σ.news 1 v = some (l.length, u8s l) := by
  rcases h.form with ⟨rfl, rfl⟩ | ⟨b, o, g, e, pl, cs, rfl, _, hh, hb, hl, hc⟩
  · rfl
  · have : σ.blk ⟨b, o, some g⟩ = some (pl, cs) := by unfold St.blk; rw [hh, hb]; simp
    simp only [St.news, this, Option.bind_some, Nat.mul_one, if_pos hl, hc]
/-- A part of it. -/
theorem Rd.cut {σ : St} {v : Value} {l : List Nat} (h : Rd σ v l) {i j : Nat} (hi : i ≤ j) (hj : j ≤ l.length) : ∃ w, sliceF 1 v (some (.int .i64 i)) (some (.int .i64 j)) none = some w ∧ Rd σ w ((l.drop i).take (j - i)) := by
  rcases h.form with ⟨rfl, rfl⟩ | ⟨b, o, g, e, pl, cs, rfl, he, hh, hb, hl, hc⟩
  · have : i = 0 ∧ j = 0 := by simp at hj; omega
    obtain ⟨rfl, rfl⟩ := this
    exact ⟨_, rfl, By.nil, .inl ⟨rfl, by simp⟩⟩
  · refine ⟨.slice (some ⟨b, o + i, some g⟩) (j - i) e, ?_, (h.by_.drop i).take _, .inr ⟨b, o + i, g, e, pl, cs, ?_, he, hh, hb, ?_, ?_⟩⟩
    · simp only [sliceF, cuts, boundv]
      rw [if_pos he, if_pos (by omega)]
      simp only [Option.bind_some, Int.toNat_natCast]
      rw [if_pos (by omega)]
      simp
    · congr 1; simp; omega
    · simp; omega
    · have e1 : ((l.drop i).take (j - i)).length = j - i := by simp; omega
      rw [e1, u8s_take, u8s_drop, ← hc, List.drop_take, List.drop_drop, List.take_take]
      congr 1; omega
theorem Rd.from_ {σ : St} {v : Value} {l : List Nat} (h : Rd σ v l) {i : Nat} (hi : i ≤ l.length) : ∃ w, sliceF 1 v (some (.int .i64 i)) none none = some w ∧ Rd σ w (l.drop i) := by
  rcases h.form with ⟨rfl, rfl⟩ | ⟨b, o, g, e, pl, cs, rfl, he, hh, hb, hl, hc⟩
  · have : i = 0 := by simpa using hi
    subst this
    exact ⟨_, rfl, By.nil, .inl ⟨rfl, by simp⟩⟩
  · refine ⟨.slice (some ⟨b, o + i, some g⟩) (l.length - i) e, ?_, h.by_.drop i, .inr ⟨b, o + i, g, e, pl, cs, ?_, he, hh, hb, ?_, ?_⟩⟩
    · simp only [sliceF, cuts, boundv, Option.bind_some]
      rw [if_pos he, if_pos (by omega)]
      simp
    · congr 1; simp
    · simp; omega
    · rw [List.length_drop, u8s_drop, ← hc, List.drop_take, List.drop_drop]
theorem Rd.upto {σ : St} {v : Value} {l : List Nat} (h : Rd σ v l) {j : Nat} (hj : j ≤ l.length) : ∃ w, sliceF 1 v none (some (.int .i64 j)) none = some w ∧ Rd σ w (l.take j) := by
  rcases h.form with ⟨rfl, rfl⟩ | ⟨b, o, g, e, pl, cs, rfl, he, hh, hb, hl, hc⟩
  · have : j = 0 := by simpa using hj
    subst this
    exact ⟨_, rfl, By.nil, .inl ⟨rfl, by simp⟩⟩
  · refine ⟨.slice (some ⟨b, o, some g⟩) j e, ?_, h.by_.take j, .inr ⟨b, o, g, e, pl, cs, ?_, he, hh, hb, ?_, ?_⟩⟩
    · simp only [sliceF, cuts, boundv]
      rw [if_pos he, if_pos (by omega)]
      simp
    · congr 1; simp; omega
    · simp; omega
    · have e1 : (l.take j).length = j := by simp; omega
      rw [e1, u8s_take, ← hc, List.take_take]
      congr 1; omega

/-! ### A fresh slice of bytes, or none -/
/-- A slice that a function returns: none, or the one new block, with its stamp. -/
def sl (k g : Nat) : Option (List Nat) → Value
  | none => .slice none 0 0
  | some l => .slice (some ⟨k, 0, some g⟩) l.length 1
def slB (g : Nat) : Option (List Nat) → List Blk
  | none => []
  | some l => [.cells g true (u8s l)]
theorem sl_none (k g : Nat) : sl k g none = .slice none 0 0 := rfl
theorem sl_some (k g : Nat) (l : List Nat) : sl k g (some l) = .slice (some ⟨k, 0, some g⟩) l.length 1 := rfl
theorem slB_none (g : Nat) : slB g none = [] := rfl
theorem slB_some (g : Nat) (l : List Nat) : slB g (some l) = [.cells g true (u8s l)] := rfl
theorem sl_rd {h : List Blk} {L g : Nat} {H d : List Nat} {o : Option (List Nat)} (hh : H.contains h.length = false) (hb : By (o.getD [])) : Rd ⟨h ++ slB g o, L, H, d⟩ (sl h.length g o) (o.getD []) := by
  cases o with
  | none => exact ⟨By.nil, .inl ⟨rfl, rfl⟩⟩
  | some l => exact ⟨hb, .inr ⟨h.length, 0, g, 1, true, u8s l, rfl, .inr rfl, hh, by simp [slB], by simp [u8s], by rw [List.drop_zero, List.take_of_length_le (by simp [u8s])]; rfl⟩⟩
theorem lenF_sl (k g : Nat) (o : Option (List Nat)) : lenF (sl k g o) = some (.int .i64 (o.getD []).length) := by cases o <;> rfl
theorem u8s_sc (l : List Nat) : (u8s l).all sc = true := by
  rw [List.all_eq_true]; intro v hv; obtain ⟨x, _, rfl⟩ := List.mem_map.1 hv; rfl
theorem u8s_cellv (l : List Nat) : (u8s l).all cellv = true := by
  rw [List.all_eq_true]; intro v hv; obtain ⟨x, _, rfl⟩ := List.mem_map.1 hv; rfl
theorem u8s_cons (x : Nat) (l : List Nat) : u8s (x :: l) = .int .u8 x :: u8s l := rfl
theorem u8s_nil : u8s [] = [] := rfl

/-! ### Collecting -/
theorem gc_drop {hp nw : List Blk} {base : Nat} {v : Value} {L : Nat} {H : List Nat} (hb : hp.length = base) (hv : refs v = []) : gc base [v] ⟨hp ++ nw, L, H, []⟩ = some ([v], ⟨hp, L, H, []⟩) := by
  subst hb
  exact gc_zero1 fun r hr => by rw [hv] at hr; cases hr
theorem gcFr_drop {hp nw : List Blk} {base : Nat} {fr : Fr} {L : Nat} {H : List Nat} (hb : hp.length = base) (hv : ∀ p ∈ fr, ∀ r ∈ refs p.2, r < base) : gcFr base fr ⟨hp ++ nw, L, H, []⟩ = some (fr, ⟨hp, L, H, []⟩) := by
  subst hb
  unfold gcFr
  rw [gc_zero (fun v hv' r hr => by
    obtain ⟨p, hp', rfl⟩ := List.mem_map.1 hv'
    exact hv p hp' r hr) rfl]
  simp only [Option.map_some]
  congr 2
  clear hv
  induction fr with
  | nil => rfl
  | cons x fr ih => simpa using ih
def gcY (h nw : List Blk) (v : Value) (L : Nat) (H : List Nat) : Bool → Option (List Value × St)
  | true => some ([v], ⟨h, L, H, []⟩)
  | false => gc h.length [v] ⟨h ++ nw, L, H, []⟩
theorem gc_new (h nw : List Blk) (v : Value) (L : Nat) (H : List Nat) : gc h.length [v] ⟨h ++ nw, L, H, []⟩ = gcY h nw v L H (refs v).isEmpty := by
  cases e : (refs v).isEmpty with
  | false => rfl
  | true => exact gc_drop rfl (List.isEmpty_iff.1 e)
theorem gcY_true (h nw : List Blk) (v : Value) (L : Nat) (H : List Nat) : gcY h nw v L H true = some ([v], ⟨h, L, H, []⟩) := rfl
theorem gc_new_set (h nw : List Blk) (i : Nat) (b : Blk) (v : Value) (L : Nat) (H : List Nat) : gc h.length [v] ⟨h.set i b ++ nw, L, H, []⟩ = gcY (h.set i b) nw v L H (refs v).isEmpty := by
  have := gc_new (h.set i b) nw v L H
  rwa [List.length_set] at this
/-- One new block is kept. -/
theorem gc_keep {h nw : List Blk} {v : Value} {L : Nat} {H : List Nat} (k : Nat) {g : Nat} {cs : List Value} (hk : nw[k]? = some (.cells g true cs)) (hv : ∀ r ∈ refs v, r < h.length ∨ r = h.length + k) (hx : h.length + k ∈ refs v) :
    gcY h nw v L H false = some ([ren (AM.one h.length (h.length + k)) v], ⟨h ++ [.cells g true cs], L, H, []⟩) := by
  unfold gcY
  exact gc_one hk (fun v' h1 r h2 => by simp at h1; subst h1; exact hv r h2) ⟨v, by simp, hx⟩ rfl
/-- The one kept block under its new name. -/
theorem one_new0 {base : Nat} : AM.one base base base = base := one_new (k := 0)

/-! ### What a call needs of the state -/
def Fit (n L : Nat) (H : List Nat) : Prop := L ≤ n ∧ Low n H
theorem Fit.mono {n m L : Nat} {H : List Nat} (h : Fit n L H) (k : n ≤ m) : Fit m L H := ⟨Nat.le_trans h.1 k, h.2.mono k⟩
theorem Fit.not0 {n L : Nat} {H : List Nat} (h : Fit n L H) : H.contains n = false := h.2.not0
theorem Fit.not1 {n L : Nat} {H : List Nat} (h : Fit n L H) (i : Nat) : H.contains (n + i) = false := h.2.not1 i
theorem Fit.up0 {n L : Nat} {H : List Nat} (h : Fit n L H) : (n < L) = False := eq_false (by have := h.1; omega)
theorem Fit.up1 {n L : Nat} {H : List Nat} (h : Fit n L H) (i : Nat) : (n + i < L) = False := eq_false (by have := h.1; omega)
theorem Fit.draw {n m L L' : Nat} {H : List Nat} (h : Fit n L H) (k : n ≤ m) (kl : L' ≤ m) : Fit m L' H := ⟨kl, h.2.mono k⟩
theorem Fit.draw1 {n m L L' lo k : Nat} {H : List Nat} (h : Fit n L H) (k1 : n ≤ m) (kl : L' ≤ m) (k2 : lo + k ≤ m) : Fit m L' (List.range' lo k ++ H) := ⟨kl, (h.2.mono k1).range k2⟩
theorem Fit.draw2 {n m L L' lo k lo' k' : Nat} {H : List Nat} (h : Fit n L H) (k1 : n ≤ m) (kl : L' ≤ m) (k2 : lo + k ≤ m) (k3 : lo' + k' ≤ m) : Fit m L' (List.range' lo k ++ (List.range' lo' k' ++ H)) := ⟨kl, ((h.2.mono k1).range k3).range k2⟩
theorem Fit.hidc1 {n m L a : Nat} {H : List Nat} (h : Fit n L H) (k1 : n ≤ m) (k2 : a < m) : Fit m L (a :: H) := ⟨Nat.le_trans h.1 k1, fun t ht => by
  rcases List.mem_cons.1 ht with rfl | h1
  · exact k2
  · exact h.2.mono k1 t h1⟩
theorem Fit.hidc2 {n m L a b : Nat} {H : List Nat} (h : Fit n L H) (k1 : n ≤ m) (k2 : a < m) (k3 : b < m) : Fit m L (a :: b :: H) := (h.hidc1 k1 k3).hidc1 (Nat.le_refl _) k2
theorem Fit.hid1 {n m L lo k : Nat} {H : List Nat} (h : Fit n L H) (k1 : n ≤ m) (k2 : lo + k ≤ m) : Fit m L (List.range' lo k ++ H) := ⟨Nat.le_trans h.1 k1, (h.2.mono k1).range k2⟩
theorem get_left {h nw : List Blk} {i : Nat} (hi : i < h.length) : (h ++ nw)[i]? = h[i]? := List.getElem?_append_left hi
theorem set_left {h nw : List Blk} {i : Nat} {b : Blk} (hi : i < h.length) : (h ++ nw).set i b = h.set i b ++ nw := by rw [List.set_append_left _ _ hi]

/-! ### Cuts, said whole -/
theorem sliceF_lo (esz b o n e : Nat) (s : Option Nat) (k : IntKind) (i : Int) : sliceF esz (.slice (some ⟨b, o, s⟩) n e) (some (.int k i)) none none = if e = 0 ∨ e = esz then (if 0 ≤ i ∧ i ≤ n then some (.slice (some ⟨b, o + i.toNat * esz, s⟩) (n - i.toNat) e) else none) else none := by
  simp only [sliceF, cuts, boundv, Option.bind_some]
  split
  · split <;> rfl
  · rfl
theorem sliceF_hi (esz b o n e : Nat) (s : Option Nat) (k : IntKind) (j : Int) : sliceF esz (.slice (some ⟨b, o, s⟩) n e) none (some (.int k j)) none = if e = 0 ∨ e = esz then (if 0 ≤ j ∧ j ≤ n then some (.slice (some ⟨b, o, s⟩) j.toNat e) else none) else none := by
  simp only [sliceF, cuts, boundv]
  split
  · split
    · simp
    · rfl
  · rfl
theorem sliceF_lohi (esz b o n e : Nat) (s : Option Nat) (k k' : IntKind) (i j : Int) : sliceF esz (.slice (some ⟨b, o, s⟩) n e) (some (.int k i)) (some (.int k' j)) none = if e = 0 ∨ e = esz then (if 0 ≤ i ∧ i ≤ j ∧ j ≤ n then some (.slice (some ⟨b, o + i.toNat * esz, s⟩) (j.toNat - i.toNat) e) else none) else none := by
  simp only [sliceF, cuts, boundv]
  split
  · by_cases h1 : 0 ≤ j ∧ j ≤ (n : Int)
    · rw [if_pos h1]
      simp only [Option.bind_some]
      by_cases h2 : 0 ≤ i ∧ i ≤ (j.toNat : Int)
      · rw [if_pos h2, if_pos (by omega)]; rfl
      · rw [if_neg h2, if_neg (by omega)]; rfl
    · rw [if_neg h1, if_neg (by omega)]; rfl
  · rfl

/-! ### Appends to slices of bytes -/
theorem append_nil1 {hp : List Blk} {L : Nat} {H d : List Nat} {l : List Nat} (h0 : l ≠ []) (hs : l.length ≤ 1048576) : St.append ⟨hp, L, H, d⟩ true 1 (.slice none 0 0) l.length (u8s l) = some (.slice (some ⟨hp.length, 0, some l.length⟩) l.length 1, ⟨hp ++ [.cells l.length true (u8s l)], L, H, d⟩) := by
  have h1 : ¬ l.length = 0 := fun h => h0 (List.eq_nil_of_length_eq_zero h)
  simp only [St.append]
  rw [if_neg h1, if_pos (by simp [small, u8s_sc, u8s_cellv]; omega)]
  simp
theorem append_nil0 {hp : List Blk} {L : Nat} {H d : List Nat} {vs : List Value} (pl : Bool) (esz : Nat) : St.append ⟨hp, L, H, d⟩ pl esz (.slice none 0 0) 0 vs = some (.slice none 0 0, ⟨hp, L, H, d⟩) := rfl
theorem set_same {hp : List Blk} {b : Nat} {x : Blk} (h : hp[b]? = some x) : hp.set b x = hp := by
  obtain ⟨h1, rfl⟩ := List.getElem?_eq_some_iff.1 h
  exact List.set_getElem_self h1
/-- An append at the end of a whole block (the stamp g: any; the new one is the new length, if something comes). -/
theorem append_end {hp : List Blk} {L b g : Nat} {H d : List Nat} {l0 l : List Nat} (hb : hp[b]? = some (.cells g true (u8s l0))) (hL : L ≤ b) (hh : H.contains b = false) (hs : l0.length + l.length ≤ 1048576) :
    St.append ⟨hp, L, H, d⟩ true 1 (.slice (some ⟨b, 0, some g⟩) l0.length 1) l.length (u8s l) =
      some (.slice (some ⟨b, 0, some (if l = [] then g else (l0 ++ l).length)⟩) (l0 ++ l).length 1, ⟨hp.set b (.cells (if l = [] then g else (l0 ++ l).length) true (u8s (l0 ++ l))), L, H, d⟩) := by
  by_cases h0 : l = []
  · subst h0
    simp only [St.append, List.length_nil, if_true, List.append_nil]
    rw [set_same hb]
  · have h1 : ¬ l.length = 0 := fun h => h0 (List.eq_nil_of_length_eq_zero h)
    have hk : St.blk ⟨hp, L, H, d⟩ ⟨b, 0, some g⟩ = some (true, u8s l0) := by unfold St.blk; simp only [hh, hb]; simp
    simp only [St.append]
    rw [if_neg h1, if_neg (by simp; omega), hk]
    simp only [Option.bind_some]
    rw [if_pos (by simp [u8s_cellv, u8s_sc]), if_pos (by simp [u8s]), if_pos (by simp [small]; omega)]
    simp only [if_neg h0, addDirty, u8s_sc, Bool.true_or, if_true, u8s_append, List.length_append, Nat.mul_one]
/-- An append to the fresh literal without bytes. -/
theorem append_lit0 {hp : List Blk} {L : Nat} {H d : List Nat} {l : List Nat} (hF : Fit hp.length L H) (hs : l.length ≤ 1048576) :
    St.append ⟨hp ++ [.cells 0 true []], L, H, d⟩ true 1 (.slice (some ⟨hp.length, 0, some 0⟩) 0 1) l.length (u8s l) = some (.slice (some ⟨hp.length, 0, some l.length⟩) l.length 1, ⟨hp ++ [.cells l.length true (u8s l)], L, H, d⟩) := by
  have h := append_end (hp := hp ++ [.cells 0 true []]) (L := L) (H := H) (d := d) (b := hp.length) (g := 0) (l0 := []) (l := l) (by rw [get_new0]; rfl) hF.1 hF.not0 (by simpa using hs)
  have e : (if l = [] then 0 else l.length) = l.length := by split <;> simp_all
  simpa only [List.length_nil, List.nil_append, set_new0, e] using h
/-- An append to a whole block whose stamp is its length. -/
theorem append_full {hp : List Blk} {L b : Nat} {H d : List Nat} {l0 l : List Nat} (hb : hp[b]? = some (.cells l0.length true (u8s l0))) (hL : L ≤ b) (hh : H.contains b = false) (hs : l0.length + l.length ≤ 1048576) :
    St.append ⟨hp, L, H, d⟩ true 1 (.slice (some ⟨b, 0, some l0.length⟩) l0.length 1) l.length (u8s l) =
      some (.slice (some ⟨b, 0, some (l0 ++ l).length⟩) (l0 ++ l).length 1, ⟨hp.set b (.cells (l0 ++ l).length true (u8s (l0 ++ l))), L, H, d⟩) := by
  have h := append_end (d := d) hb hL hh hs
  have e : (if l = [] then l0.length else (l0 ++ l).length) = (l0 ++ l).length := by split <;> simp_all
  rwa [e] at h
theorem u8s_ren (f : Nat → Nat) (l : List Nat) : (u8s l).map (renC f) = u8s l := by simp [u8s, renC]
theorem toNat_add1 (n : Nat) : ((n : Int) + 1).toNat = n + 1 := by omega
theorem Rd.esz {σ : St} {a : Addr} {e n : Nat} {l : List Nat} (h : Rd σ (.slice (some a) n e) l) : (e = 0 ∨ e = 1) = True := by
  rcases h.form with ⟨h1, rfl⟩ | ⟨b, o, g, e', pl, cs, h1, h2, _⟩
  · cases h1
  · cases h1; exact eq_true h2
/-- The end of a loop's round: of the new blocks the first k stay. -/
theorem gcFr_cut {hp nw : List Blk} {fr : Fr} {L : Nat} {H : List Nat} (k : Nat) (hk : k ≤ nw.length) (hv : ∀ p ∈ fr, ∀ r ∈ refs p.2, r < hp.length + k) : gcFr (hp.length + k) fr ⟨hp ++ nw, L, H, []⟩ = some (fr, ⟨hp ++ nw.take k, L, H, []⟩) := by
  have e : hp ++ nw = (hp ++ nw.take k) ++ nw.drop k := by rw [List.append_assoc, List.take_append_drop]
  rw [e]
  exact gcFr_drop (by simp; omega) hv
def newsZ (esz o m : Nat) : Option (Bool × List Value) → Option (Nat × List Value)
  | some (_, cs) => if o + m * esz ≤ cs.length then some (m, (cs.drop o).take (m * esz)) else none
  | none => none
theorem newsZ_some (esz o m : Nat) (pl : Bool) (cs : List Value) : newsZ esz o m (some (pl, cs)) = if o + m * esz ≤ cs.length then some (m, (cs.drop o).take (m * esz)) else none := rfl
theorem news_slice (σ : St) (esz b o m e : Nat) (s : Option Nat) : St.news σ esz (.slice (some ⟨b, o, s⟩) m e) = newsZ esz o m (St.blk σ ⟨b, o, s⟩) := by
  simp only [St.news]
  cases St.blk σ ⟨b, o, s⟩ <;> rfl
theorem news_none (σ : St) (esz : Nat) : St.news σ esz (.slice none 0 0) = some (0, []) := rfl
def strZ (o n : Nat) : Option (Bool × List Value) → Option (List UInt8)
  | some (_, cs) => if o + n ≤ cs.length then bytesv ((cs.drop o).take n) else none
  | none => none
theorem strZ_some (o n : Nat) (pl : Bool) (cs : List Value) : strZ o n (some (pl, cs)) = if o + n ≤ cs.length then bytesv ((cs.drop o).take n) else none := rfl
theorem str_slice (σ : St) (b o n e : Nat) (s : Option Nat) : St.str σ (.slice (some ⟨b, o, s⟩) n e) = strZ o n (St.blk σ ⟨b, o, s⟩) := by
  simp only [St.str]
  cases St.blk σ ⟨b, o, s⟩ <;> rfl
theorem str_none (σ : St) : St.str σ (.slice none 0 0) = some [] := rfl
theorem take_u8s (l : List Nat) : (u8s l).take l.length = u8s l := List.take_of_length_le (by simp [u8s])
theorem sbin_add' {l m : List UInt8} (h : l.length + m.length ≤ 1099511627776) : abin .add (.string ⟨l.toArray⟩) (.string ⟨m.toArray⟩) = some (.string ⟨(l ++ m).toArray⟩) := by rw [sbin_add, if_pos h]
theorem Rd.whole {hp : List Blk} {L b g e : Nat} {H d : List Nat} {pl : Bool} {l : List Nat} (h : hp[b]? = some (.cells g pl (u8s l))) (hh : H.contains b = false) (hb : By l) (he : e = 0 ∨ e = 1) : Rd ⟨hp, L, H, d⟩ (.slice (some ⟨b, 0, some g⟩) l.length e) l :=
  ⟨hb, .inr ⟨b, 0, g, e, pl, u8s l, rfl, he, hh, h, by simp [u8s], by rw [List.drop_zero, List.take_of_length_le (by simp [u8s])]⟩⟩
theorem Rd.refs {σ : St} {v : Value} {l : List Nat} (h : Rd σ v l) : ∀ r ∈ refs v, r < σ.heap.length := by
  rcases h.form with ⟨rfl, rfl⟩ | ⟨b, o, g, e, pl, cs, rfl, _, hh, hb, _⟩
  · simp [AM.refs, refsF, refsC]
  · have := (List.getElem?_eq_some_iff.1 hb).1
    simp [AM.refs, refsF, refsC]; omega
theorem bless_left : ∀ {p q s t : List UInt8}, bless p q = true → p.length = q.length → bless (p ++ s) (q ++ t) = true
  | p, [], s, t, h, _ => by simp [bless] at h
  | [], _ :: _, s, t, h, e => by simp at e
  | a :: p, b :: q, s, t, h, e => by
    simp only [bless, Bool.or_eq_true, Bool.and_eq_true, List.cons_append] at h ⊢
    rcases h with h | ⟨h1, h2⟩
    · exact .inl h
    · exact .inr ⟨h1, bless_left h2 (by simpa using e)⟩
theorem bless_same : ∀ (p : List UInt8) {s t : List UInt8}, bless s t = true → bless (p ++ s) (p ++ t) = true
  | [], s, t, h => h
  | a :: p, s, t, h => by
    simp only [bless, Bool.or_eq_true, Bool.and_eq_true, List.cons_append]
    exact .inr ⟨by simp, bless_same p h⟩
theorem Rd.upto' {σ : St} {b o g n e : Nat} {l : List Nat} (h : Rd σ (.slice (some ⟨b, o, some g⟩) n e) l) {j : Nat} (hj : j ≤ n) : Rd σ (.slice (some ⟨b, o, some g⟩) j e) (l.take j) := by
  have hn := h.n_eq
  obtain ⟨w, h1, h2⟩ := h.upto (j := j) (by omega)
  simp only [sliceF_hi, h.esz, if_true] at h1
  rw [if_pos (by omega)] at h1
  cases h1
  simpa using h2
theorem Rd.from' {σ : St} {b o g n e : Nat} {l : List Nat} (h : Rd σ (.slice (some ⟨b, o, some g⟩) n e) l) {i : Nat} (hi : i ≤ n) : Rd σ (.slice (some ⟨b, o + i, some g⟩) (n - i) e) (l.drop i) := by
  have hn := h.n_eq
  obtain ⟨w, h1, h2⟩ := h.from_ (i := i) (by omega)
  simp only [sliceF_lo, h.esz, if_true] at h1
  rw [if_pos (by omega)] at h1
  cases h1
  simpa using h2
end AM
end Go.Proofs.Ytpjjkmfidghkjaa
end
section
namespace Go.Proofs.Ytpjjkmfidghkjaa
namespace AM
open Go Go.RowKit

/-- A law's end, whatever memory is left. -/
theorem gc_bool (σ : St) (base : Nat) (b : Bool) (hq : List Blk) (L : Nat) (H : List Nat) : ∃ τ, gcX σ (gc base [.bool b] ⟨hq, L, H, []⟩) = some (.bool b, τ) := by
  unfold gc
  split
  · exact ⟨_, rfl⟩
  · simp [refs, refsF, refsC]
    exact ⟨_, rfl⟩
theorem sliceF_3 (esz b o n e : Nat) (s : Option Nat) (k1 k2 k3 : IntKind) (i j m : Int) : sliceF esz (.slice (some ⟨b, o, s⟩) n e) (some (.int k1 i)) (some (.int k2 j)) (some (.int k3 m)) = if e = 0 ∨ e = esz then (if 0 ≤ i ∧ i ≤ j ∧ j ≤ m ∧ m ≤ n then some (.slice (some ⟨b, o + i.toNat * esz, s⟩) (j.toNat - i.toNat) 0) else none) else none := by
  simp only [sliceF, cuts, boundv]
  split
  · by_cases h1 : 0 ≤ m ∧ m ≤ (n : Int)
    · rw [if_pos h1]
      simp only [Option.bind_some]
      by_cases h2 : 0 ≤ j ∧ j ≤ (m.toNat : Int)
      · rw [if_pos h2]
        simp only [Option.bind_some]
        by_cases h3 : 0 ≤ i ∧ i ≤ (j.toNat : Int)
        · rw [if_pos h3, if_pos (by omega)]; rfl
        · rw [if_neg h3, if_neg (by omega)]; rfl
      · rw [if_neg h2, if_neg (by omega)]; rfl
    · rw [if_neg h1, if_neg (by omega)]; rfl
  · rfl
theorem contains_range0 {lo k i : Nat} (h : i < lo ∨ lo + k ≤ i) : (List.range' lo k).contains i = false := by
  have := contains_range (H := []) h
  rw [List.append_nil] at this
  rw [this]; rfl
theorem Fit.nil {n L : Nat} (h : L ≤ n) : Fit n L [] := ⟨h, Low.nil n⟩
theorem Fit.range0 {n L lo k : Nat} (h : L ≤ n) (h2 : lo + k ≤ n) : Fit n L (List.range' lo k) := by
  have := Low.range (Low.nil n) h2
  rw [List.append_nil] at this
  exact ⟨h, this⟩
/-- An append to a block without room, where nothing old may be written. -/
theorem append_bare {hp : List Blk} {L b : Nat} {H d : List Nat} {l : List Nat} (hb : hp[b]? = some (.cells 0 true [])) (hL : b < L) (hh : H.contains b = false) (h0 : l ≠ []) (hs : l.length ≤ 1048576) :
    St.append ⟨hp, L, H, d⟩ true 1 (.slice (some ⟨b, 0, some 0⟩) 0 1) l.length (u8s l) = some (.slice (some ⟨hp.length, 0, some l.length⟩) l.length 1, ⟨hp ++ [.cells l.length true (u8s l)], L, H, d⟩) := by
  have h1 : ¬ l.length = 0 := fun h => h0 (List.eq_nil_of_length_eq_zero h)
  have hk : St.blk ⟨hp, L, H, d⟩ ⟨b, 0, some 0⟩ = some (true, []) := by unfold St.blk; simp only [hh, hb]; simp
  have hbare : St.bare ⟨hp, L, H, d⟩ ⟨b, 0, some 0⟩ = true := by unfold St.bare; rw [hk]
  simp only [St.append]
  rw [if_neg h1, if_pos (by simp; omega), hbare, if_pos (by simp), if_pos (by simp [small, u8s_sc, u8s_cellv]; omega)]
  simp
theorem append_zero {σ : St} {pl : Bool} {esz n e : Nat} {a : Addr} {vs : List Value} : St.append σ pl esz (.slice (some a) n e) 0 vs = some (.slice (some a) n e, σ) := rfl
theorem zip_map_fst {α β γ : Type} (l : List (α × β)) (f : β → γ) : (l.map (·.1)).zip ((l.map (·.2)).map f) = l.map fun p => (p.1, f p.2) := by
  induction l with
  | nil => rfl
  | cons x l ih => simp only [List.map_cons, List.zip_cons_cons, ih]
/-- The end of a loop's round: one new block is kept. -/
theorem gcFr_one {hp nw : List Blk} {fr : Fr} {L : Nat} {H : List Nat} (k : Nat) {g : Nat} {cs : List Value} (hk : nw[k]? = some (.cells g true cs)) (hv : ∀ p ∈ fr, ∀ r ∈ refs p.2, r < hp.length ∨ r = hp.length + k) (hx : ∃ p ∈ fr, hp.length + k ∈ refs p.2) :
    gcFr hp.length fr ⟨hp ++ nw, L, H, []⟩ = some (fr.map fun p => (p.1, ren (AM.one hp.length (hp.length + k)) p.2), ⟨hp ++ [.cells g true cs], L, H, []⟩) := by
  unfold gcFr
  obtain ⟨p, hp1, hp2⟩ := hx
  rw [gc_one hk (fun v hv' r hr => by
    obtain ⟨p, hp', rfl⟩ := List.mem_map.1 hv'
    exact hv p hp' r hr) ⟨p.2, List.mem_map.2 ⟨p, hp1, rfl⟩, hp2⟩ rfl]
  simp only [Option.map_some, zip_map_fst]
end AM
end Go.Proofs.Ytpjjkmfidghkjaa
end
section
set_option linter.all false
namespace Go.Proofs.Ytpjjkmfidghkjaa
namespace AM
open Go Go.RowKit
def syA1 := And.intro @seq_sym <| And.intro @region_sym <| And.intro @drawn_sym <| And.intro @moves_sym <| And.intro @movesX_some <| And.intro @boxes_nil <| And.intro @boxes_cons <| And.intro @bxsX_some <| And.intro @bxsX_sl <| And.intro @mops_nil <| And.intro @mops_sym <| And.intro @mwantX_true <| And.intro @mwantX_br <| And.intro @mwantY_tt <| And.intro @mwantY_ff <| And.intro @mgoX_free <| And.intro @mgoX_bound <| And.intro @moM_some <| And.intro @tgt_load <| And.intro @tgt_store <| And.intro @tgL_some <| And.intro @tgt_mv <| And.intro @tgt_pick <| And.intro @tgt_build <| And.intro @tgt_nilck <| And.intro @tgt_bin <| And.intro @tgt_eqs <| And.intro @tgt_un <| And.intro @tgt_conv <| And.intro @tgt_slice <| And.intro @tgt_slices <| And.intro @tgt_faddr <| And.intro @tgt_field <| And.intro @tgt_iaddr <| And.intro @tgt_iaddra <| And.intro @tgt_idx <| And.intro @tgt_ext <| And.intro @tgt_len <| And.intro @tgt_lens <| And.intro @tgt_lena <| And.intro @tgt_mm <| And.intro @moF_nil <| And.intro @moF_loadF <| And.intro @moF_loadT <| And.intro @moF_storeF <| And.intro @moF_storeT <| And.intro @cond_sym <| And.intro @block_sym <| And.intro @loop_sym <| And.intro @Lexec_ret <| And.intro @Lexec_skip <| And.intro @Lexec_exit <| And.intro @thenX_normal <| And.intro @thenX_ret <| And.intro @thenX_exit <| And.intro @blockX_normal <| And.intro @blockX_ret <| And.intro @blockX_exit <| And.intro @normX_some <| And.intro @condX_br <| And.intro @condY_tt <| And.intro @condY_ff <| And.intro @loopX_some <| And.intro @finX_ret <| And.intro @finX_normal <| And.intro @ressX_some <| And.intro @resX_some <| And.intro @resvs_cons <| And.intro @resvs_nil <| And.intro @resv_tmp <| And.intro @resv_cell <| And.intro @rescX_some <| And.intro @rescY_some <| And.intro @resOf_one <| And.intro @resOf_two <| And.intro @resOf_nil <| And.intro @gcX_some <| And.intro @gc_same <| And.intro @gc_new <| And.intro @gc_new_set <| And.intro @gcY_true <| And.intro @w64 <| And.intro @wu8 <| And.intro @wu32 <| And.intro @wu64 <| And.intro @joinDirty_nil <| And.intro @aops_sym <| And.intro @aops_nil <| And.intro @want_none <| And.intro @want_some <| And.intro @wantG_true <| And.intro @wantG_false <| And.intro @wantG_tuple <| And.intro @wantX_true <| And.intro @wantX_br <| And.intro @wantY_tt <| And.intro @wantY_ff <| And.intro @opX_some <| And.intro @dops_sym <| And.intro @dops_nil <| And.intro @dwantX_true <| And.intro @dwantX_br <| And.intro @dwantY_tt <| And.intro @dwantY_ff <| And.intro @dopX_born <| And.intro @bornX_same <| And.intro @hiddenBy_nil <| And.intro @hiddenBy_bornX <| And.intro @lockD_ff <| And.intro @lockD_tf <| And.intro @lockD_tt <| And.intro @lockO_in <| And.intro @ownO_eq <| And.intro @baseOf_nil <| And.intro @baseOf_born <| And.intro @ev_tmp <| And.intro @ev_const <| And.intro @ev_func <| And.intro @evo_none <| And.intro @evo_some <| And.intro @evoX_some <| And.intro @evs_cons <| And.intro @evs_nil <| And.intro @evsX_some <| And.intro @evps_cons <| And.intro @evps_nil <| And.intro @evpsX_some <| And.intro @get_cons <| And.intro @put_some <| And.intro @put_none <| And.intro @keep_cons <| And.intro @keep_nil <| And.intro @keepX_some <| And.intro @keepX_none <| And.intro @retX_some <| And.intro @bindX_some <| And.intro @bind2X_some <| And.intro @binX_some <| And.intro @pickX_br <| And.intro @pickY_tt <| And.intro @pickY_ff <| And.intro @loadX_some <| And.intro @cellsX_some <| And.intro @storeX_some <| And.intro @wroteX_some <| And.intro @aop_mv <| @aop_pick
def syA2 := And.intro @aop_bin <| And.intro @aop_load <| And.intro @aop_store <| And.intro @aop_nilck <| And.intro @aop_eqs <| And.intro @aop_un <| And.intro @aop_conv <| And.intro @aop_len <| And.intro @aop_lens <| And.intro @aop_lena <| And.intro @aop_faddr <| And.intro @aop_field <| And.intro @aop_ext <| And.intro @aop_iaddr <| And.intro @aop_iaddra <| And.intro @aop_idx <| And.intro @aop_idxs <| And.intro @aop_build <| And.intro @aop_mm <| And.intro @aop_mkfn <| And.intro @aop_slice <| And.intro @aop_slicea <| And.intro @aop_slices <| And.intro @aop_alloc <| And.intro @aop_box <| And.intro @aop_bslice <| And.intro @aop_strb <| And.intro @aop_bstr <| And.intro @aop_mark <| And.intro @markX_some <| And.intro @markY_some <| And.intro @aop_mkslice <| And.intro @aop_call <| And.intro @aop_callv <| And.intro @aop_append <| And.intro @aop_appendz <| And.intro @zerosX_nil <| And.intro @aop_copy <| And.intro @aop_clear <| And.intro @nilckF_ptr <| And.intro @nilckF_func <| And.intro @convF_int <| And.intro @lenF_slice <| And.intro @lensF_str <| And.intro @faddrF_ptr <| And.intro @fieldF_agg <| And.intro @iaddrF_some <| And.intro @iaddraF_some <| And.intro @idxF_some <| And.intro @idxsF_some <| And.intro @extF_tuple <| And.intro @buildX_some <| And.intro @filledX_some <| And.intro @mmX_cons <| And.intro @mmf_nil <| And.intro @mmf_max <| And.intro @mmf_min <| And.intro @mkfnX_some <| And.intro @sliceX_some <| And.intro @sliceaX_some <| And.intro @slicesX_some <| And.intro @boxX_some <| And.intro @bsliceX_some <| And.intro @bfilledX_some <| And.intro @strbX_some <| And.intro @bstrX_some <| And.intro @bstrX'_some <| And.intro @mksliceX_some <| And.intro @callX_some <| And.intro @callvX_some <| And.intro @callvX_yield <| And.intro @noYield_func <| And.intro @Lrun_yl_func <| And.intro @each_sym <| And.intro @eachX_some <| And.intro @eachY_normal <| And.intro @eachY_ret <| And.intro @eachZ_some <| And.intro @roundX_normal <| And.intro @roundY_normal <| And.intro @roundZ_some <| And.intro @appendX_some <| And.intro @newsX_some <| And.intro @newsY_some <| And.intro @copyX_some <| And.intro @copyX_none <| And.intro @copiedX_some <| And.intro @clearX_none <| And.intro @clearX_some <| And.intro @cellX_some <| And.intro @blk_eq <| And.intro @write_eq <| And.intro @writeX_some <| And.intro @abin_add <| And.intro @abin_sub <| And.intro @abin_mul <| And.intro @abin_eql <| And.intro @abin_neq <| And.intro @abin_lss <| And.intro @abin_leq <| And.intro @abin_gtr <| And.intro @abin_geq <| And.intro @abin_shl <| And.intro @abin_shr <| And.intro @abin_quo <| And.intro @abin_rem <| And.intro @abin_andI <| And.intro @abin_orI <| And.intro @abin_xorI <| And.intro @aun_not <| And.intro @sbin_eql <| And.intro @sbin_neq <| And.intro @sbin_lss <| And.intro @bits_i64 <| And.intro @bits_u64 <| And.intro @bits_u32 <| And.intro @bits_u8 <| And.intro @get_new <| And.intro @get_new0 <| And.intro @set_new <| And.intro @set_new0 <| And.intro @get_left <| And.intro @set_left <| And.intro @contains_range <| And.intro @contains_range0 <| And.intro @sliceF_lo <| And.intro @sliceF_hi <| And.intro @sliceF_lohi <| And.intro @lenF_sl <| And.intro @append_nil0 <| And.intro @str_slice <| And.intro @strZ_some <| And.intro @str_none <| And.intro @take_u8s <| And.intro @bytesv_u8s <| And.intro @u8s_length <| And.intro @b8_length <| And.intro @sbin_add' <| And.intro @news_slice <| And.intro @newsZ_some <| And.intro @news_none <| And.intro @toNat_add1 <| And.intro @iterX_normal <| And.intro @iterX_ret <| And.intro @iterX_exit <| And.intro @againX_some <| @gcFr_same
def syA := And.intro syA1 syA2
def syB := And.intro @List.isEmpty_nil.{0} <| And.intro @List.isEmpty_cons.{0} <| And.intro @List.nil_append.{0} <| And.intro @Option.isNone_none.{0} <| And.intro @Option.isNone_some.{0} <| And.intro @Option.getD_some.{0} <| And.intro @Option.getD_none.{0} <| And.intro @decide_true <| And.intro @decide_false <| And.intro @decide_eq_true_eq <| And.intro @decide_eq_false_iff_not <| And.intro @decide_not <| And.intro @Bool.not_true <| And.intro @Bool.not_false <| And.intro @Bool.not_not <| And.intro @Bool.not_eq_true' <| And.intro @Bool.and_true <| And.intro @Bool.true_and <| And.intro @Bool.and_false <| And.intro @Bool.false_and <| And.intro @Bool.and_self <| And.intro @Bool.or_true <| And.intro @Bool.true_or <| And.intro @Bool.or_false <| And.intro @Bool.false_or <| And.intro @Bool.or_self <| And.intro @Bool.false_eq_true <| And.intro @Bool.and_eq_true <| And.intro @Bool.or_eq_true <| And.intro @and_true <| And.intro @true_and <| And.intro @and_false <| And.intro @false_and <| And.intro @or_true <| And.intro @true_or <| And.intro @or_false <| And.intro @false_or <| And.intro @not_true_eq_false <| And.intro @not_false_eq_true <| And.intro @Option.map_some.{0,0} <| And.intro @Option.map_none.{0,0} <| And.intro @Option.bind_some.{0,0} <| And.intro @Option.bind_none.{0,0} <| And.intro @Nat.testBit_eq_decide_div_mod_eq <| And.intro @Nat.zero_add <| And.intro @Nat.add_zero <| And.intro @Nat.sub_self <| And.intro @Nat.le_refl <| And.intro @Nat.lt_irrefl <| And.intro @Nat.mul_one <| And.intro @Int.mul_one <| And.intro @Int.one_mul <| And.intro @Int.sub_zero <| And.intro @Int.add_zero <| And.intro @Int.zero_add <| And.intro @beq_iff_eq.{0} <| And.intro @bne_iff_ne.{0} <| And.intro @bne_self_eq_false.{0} <| And.intro @bne_eq_false_iff_eq.{0} <| And.intro @beq_eq_false_iff_ne.{0} <| And.intro @ne_eq.{1} <| And.intro @beq_self_eq_true.{0} <| And.intro @List.all_cons.{0} <| And.intro @List.all_nil.{0} <| And.intro @List.flatMap_cons.{0,0} <| And.intro @List.flatMap_nil.{0,0} <| And.intro @List.append_nil.{0} <| And.intro @List.append_assoc.{0} <| And.intro @List.cons_append.{0} <| And.intro @List.length_append.{0} <| And.intro @List.length_set.{0} <| And.intro @Int.cast_ofNat_Int <| And.intro @List.length_cons.{0} <| And.intro @List.length_nil.{0} <| And.intro @List.getElem?_cons_zero.{0} <| And.intro @List.getElem?_cons_succ.{0} <| And.intro @List.set_cons_zero.{0} <| And.intro @List.set_cons_succ.{0} <| And.intro @List.take_succ_cons.{0} <| And.intro @List.take_zero.{0} <| And.intro @List.drop_zero.{0} <| And.intro @List.drop_succ_cons.{0} <| And.intro @List.contains_nil.{0} <| And.intro @Int.toNat_natCast <| And.intro @Int.lt_irrefl <| And.intro @Nat.min_eq_left <| @Nat.min_eq_right
theorem length_nilB : ([] : List Blk).length = 0 := rfl
def lnE := And.intro (@List.length_append Blk) <| And.intro (@List.length_cons Blk) <| And.intro length_nilB <| And.intro (@List.length_set Blk) <| And.intro @b8_length <| And.intro @u8s_length <| And.intro (@List.length_set Nat) <| And.intro (@List.length_append Nat) <| And.intro (@List.length_append UInt8) <| And.intro (@List.length_cons Nat) <| And.intro @FarL_nil <| And.intro @FarL_true <| And.intro @FarL_false <| And.intro @FarS_nil <| And.intro @FarS_cons <| And.intro @MemB_nil <| And.intro @MemB_cons <| And.intro @or_false <| And.intro (@eq_self.{1} Nat) <| And.intro @or_true <| And.intro @true_or @and_true
end AM
end Go.Proofs.Ytpjjkmfidghkjaa
end
