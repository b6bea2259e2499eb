/-
  THE BIT WRITER's laws: what was written is read back. Conditions: none.
-/
import Derived.Test.YtlphmnhkkhcjfaaBdC
set_option linter.all false
section
namespace Go.Proofs.Ytlphmnhkkhcjfaa
namespace Bt
open Go Go.RowKit AM ArEnv

def want (d : Dd) : Nat := if d.pad then 0 else d.v
theorem piece_num {l : List Nat} {d : Dd} (h : (piece l d).length ≠ 0) : num (piece l d) = want d := by
  unfold piece want at *
  cases hp : d.pad with
  | true => simp only [if_true]; exact num_zeros _
  | false =>
    rw [hp] at h
    simp only [Bool.false_eq_true, if_false] at h ⊢
    cases hf : fitsV d.v d.w with
    | false => rw [hf] at h; simp at h
    | true =>
      simp only [if_true]
      rw [num_bitsAt]
      unfold fitsV at hf
      rw [decide_eq_true_eq, Nat.div_eq_zero_iff] at hf
      have := Nat.pow_pos (n := d.w.toNat) (show 0 < 2 by decide)
      exact Nat.mod_eq_of_lt (by omega)
theorem piece_width {l : List Nat} {d : Dd} (hp : d.pad = false) (h : (piece l d).length ≠ 0) : ((piece l d).length : Int) = d.w := by
  unfold piece at *
  rw [hp] at h ⊢
  simp only [Bool.false_eq_true, if_false] at h ⊢
  cases hf : fitsV d.v d.w with
  | false => rw [hf] at h; simp at h
  | true =>
    simp only [if_true]
    unfold fitsV at hf
    rw [decide_eq_true_eq] at hf
    rw [bitsAt_length]
    omega
theorem piece_pad {l : List Nat} {d : Dd} (hp : d.pad = true) : ((l ++ piece l d).length) % 8 = 0 := by
  unfold piece
  rw [if_pos hp]
  simp [padN]
  omega
section
variable {hq : List Blk} {L : Nat} {H : List Nat} {a k s : Nat}
end
/-! ### The operations as an argument -/
theorem deeds_sc (ds : List Dd) : ∀ v ∈ (ds.map drow).flatten, AM.sc v = true := fun v hv => by
  obtain ⟨l, hl, hv⟩ := List.mem_flatten.1 hv
  obtain ⟨d, _, rfl⟩ := List.mem_map.1 hl
  simp only [drow, List.mem_cons, List.not_mem_nil, or_false] at hv
  rcases hv with rfl | rfl | rfl <;> rfl
section
variable {P : Program} {W : World} {H : Type} {enc : TypeId × Value → H}
theorem trod_deed {t : TypeId} {f0 f1 f2 : Field} {fuel : Nat} {cs : List Value} {x : DataW H × List MemPlace} {base : Nat} {spare : Nat → Bool} {held : Bool} (ht : P.underlying t = some (.struct #[f0, f1, f2])) (h0 : P.underlying f0.type = some (.int .u32)) (h1 : P.underlying f1.type = some (.int .i64)) (h2 : P.underlying f2.type = some .bool) (o0 : f0.offset = 0) (o1 : f1.offset = 1) (o2 : f2.offset = 2) (c0 : P.cellsOf f0.type = 1) (c1 : P.cellsOf f1.type = 1) (c2 : P.cellsOf f2.type = 1) (hct : P.cellsOf t = 3)
    (h : DataW.trod enc P W base spare held fuel t cs = some x) : ∃ d : Dd, cs = drow d ∧ (drow d).length = 3 ∧ DOk d := by
  obtain ⟨xs, n, _, _, hl, hlen, hf⟩ := DataW.trod_struct ht h
  rw [hct] at hl
  have g0 := hf 0 f0 rfl
  have g1 := hf 1 f1 rfl
  have g2 := hf 2 f2 rfl
  rw [o0, c0] at g0
  rw [o1, c1] at g1
  rw [o2, c2] at g2
  match cs, hl with
  | [u, v, w], _ =>
    match xs, hlen with
    | [y0, y1, y2], _ =>
      simp only [List.drop_zero, List.drop_succ_cons, List.take_succ_cons, List.take_zero, List.getElem?_cons_zero, List.getElem?_cons_succ] at g0 g1 g2
      obtain ⟨a, e0, _, w0⟩ := DataW.trod_int h0 g0
      obtain ⟨b, e1, _, w1⟩ := DataW.trod_int h1 g1
      obtain ⟨c, e2, _⟩ := DataW.trod_bool h2 g2
      simp only [List.cons.injEq, and_true] at e0 e1 e2
      subst e0 e1 e2
      simp only [Lit.wf, Bool.and_eq_true, decide_eq_true_eq] at w0 w1
      have k0 : IntKind.u32.min = 0 := by decide
      have k1 : IntKind.u32.max = 4294967295 := by decide
      have k2 : IntKind.i64.min = -9223372036854775808 := by decide
      have k3 : IntKind.i64.max = 9223372036854775807 := by decide
      rw [k0, k1] at w0
      rw [k2, k3] at w1
      obtain ⟨a, rfl⟩ := Int.eq_ofNat_of_zero_le w0.1
      exact ⟨⟨a, b, c⟩, rfl, rfl, by show a < 4294967296; omega, w1.1, w1.2⟩
theorem open_deeds {t e : TypeId} {f0 f1 f2 : Field} {r : Reach} {b0 : Nat} {v : Value} {d : DataW H} {ps : List MemPlace} {base : Nat} {spare : Nat → Bool} {held : Bool} {tu ti tb : TypeId} (ht : P.underlying t = some (.slice e)) (he : P.underlying e = some (.struct #[f0, f1, f2])) (h0 : P.underlying tu = some (.int .u32)) (h1 : P.underlying ti = some (.int .i64)) (h2 : P.underlying tb = some .bool) (u0 : f0.type = tu ∧ f0.offset = 0) (u1 : f1.type = ti ∧ f1.offset = 1) (u2 : f2.type = tb ∧ f2.offset = 2) (c0 : P.cellsOf tu = 1) (c1 : P.cellsOf ti = 1) (c2 : P.cellsOf tb = 1) (hct : P.cellsOf e = 3)
    (hval : Value.okWide P W r b0 t v) (hd : DataW.Trod enc P W base spare held t v d ps) :
    ∃ (A : Option Addr) (ls : List Dd) (cap : Nat), v = .slice A ls.length cap ∧ At W A (ls.map drow).flatten ∧ (∀ d ∈ ls, DOk d) ∧ ls.length ≤ cap ∧ cap ≤ maxLen ∧ (A = none → ls.length = 0 ∧ cap = 0) ∧ (∀ a, A = some a → a.spot = none ∧ a.block < W.heap.size) := by
  obtain ⟨A, ls, cap, h1', h2', h3, h4⟩ := open_rows ht hct drow DOk (fun m cs x hx => trod_deed he (by rw [u0.1]; exact h0) (by rw [u1.1]; exact h1) (by rw [u2.1]; exact h2) u0.2 u1.2 u2.2 (by rw [u0.1]; exact c0) (by rw [u1.1]; exact c1) (by rw [u2.1]; exact c2) hct hx) hval hd
  exact ⟨A, ls, cap, h1', h2', fun d hd => (h3 d hd).2, h4⟩
end
theorem rw_arg {bs bs' : List Blk} {v : Value} {ds : List Dd} (h : (v = .slice none 0 0 ∧ ds.length = 0 ∧ bs' = []) ∨ (v = .slice (some ⟨bs.length, 0, some 0⟩) ds.length 0 ∧ bs' = [.cells 0 true (ds.map drow).flatten])) : Rw (bs ++ bs') [] v ds := by
  rcases h with ⟨rfl, h, rfl⟩ | ⟨rfl, rfl⟩
  · exact .inl ⟨rfl, List.eq_nil_of_length_eq_zero h⟩
  · exact .inr ⟨bs.length, rfl, rfl, get_new0 _⟩
end Bt
end Go.Proofs.Ytlphmnhkkhcjfaa
end
