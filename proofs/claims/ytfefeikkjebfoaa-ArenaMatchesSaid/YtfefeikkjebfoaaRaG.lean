/-
  ARGUMENTS that are rows with byte strings in them: the arena's operations. Conditions: none.
-/
import Derived.Test.YtfefeikkjebfoaaRaF
set_option linter.all false
namespace Go.Proofs.Ytfefeikkjebfoaa
namespace AM
open Go Go.RowKit Go.ChangeShapes Go.WideShapes Go.ChangeAt Go.Deep ArA
section
variable {P : Program} {W : World} {H : Type} {enc : TypeId × Value → H}
theorem cell_some {a : Addr} {v : Value} (h : W.cell? a = some v) : a.spot = none ∧ a.block < W.heap.size := by
  unfold World.cell? at h
  split at h
  · rename_i c _ _ hc
    split at h
    · cases h
    · rename_i hs
      refine ⟨?_, ?_⟩
      · cases e : a.spot with
        | none => rfl
        | some _ => rw [e] at hs; simp at hs
      · exact (Array.getElem?_eq_some_iff.1 hc).1
  · cases h
theorem trod_str {t e : TypeId} {fuel : Nat} {cs : List Value} {x : DataW H × List MemPlace} {base : Nat} {spare : Nat → Bool} {held : Bool} (ht : P.underlying t = some (.slice e)) (he : P.underlying e = some (.int .u8)) (hc : P.cellsOf e = 1)
    (h : DataW.trod enc P W base spare held fuel t cs = some x) : ∃ q : RB, cs = [q.val] ∧ RBok W q := by
  rcases open_slice ht h with ⟨h1, _⟩ | ⟨a, len, cap, m, n, D, Pl, h1, _, hl, hm, hmm, _, hi⟩
  · exact ⟨⟨none, [], 0⟩, h1, ⟨(fun i p hp => by simp [u8s] at hp), By.nil, Nat.le_refl _, Nat.zero_le _, (fun _ => ⟨rfl, rfl⟩), (fun a ha => by cases ha)⟩⟩
  · have hle : len ≤ m := by rw [hmm]; split <;> omega
    have each : ∀ i, i < len → ∃ y : Nat, y < 256 ∧ W.cell? (a.add i) = some (.int .u8 (y : Int)) := by
      intro i hil
      obtain ⟨cs', h2, h3⟩ := hi i (by omega)
      rw [hc, Nat.mul_one] at h2
      obtain ⟨z, h4, _, h5⟩ := DataW.trod_int he h3
      subst h4
      have h6 := cell_of_cells?_one h2
      simp only [Lit.wf, Bool.and_eq_true, decide_eq_true_eq] at h5
      have k0 : IntKind.u8.min = 0 := by decide
      have k1 : IntKind.u8.max = 255 := by decide
      rw [k0, k1] at h5
      obtain ⟨z, rfl⟩ := Int.eq_ofNat_of_zero_le h5.1
      exact ⟨z, by omega, h6⟩
    have build : ∀ k, k ≤ len → ∃ l : List Nat, l.length = k ∧ By l ∧ ∀ (i y : Nat), l[i]? = some y → W.cell? (a.add i) = some (.int .u8 (y : Int)) := by
      intro k
      induction k with
      | zero => exact fun _ => ⟨[], rfl, By.nil, fun i p hp => by simp at hp⟩
      | succ k ih =>
        intro hk
        obtain ⟨l, e1, e2, e3⟩ := ih (by omega)
        obtain ⟨y, y1, y2⟩ := each k (by omega)
        refine ⟨l ++ [y], by simp [e1], e2.append (fun z hz => by simp at hz; omega), fun i z hz => ?_⟩
        rcases Nat.lt_or_ge i l.length with hlt | hge
        · rw [List.getElem?_append_left hlt] at hz
          exact e3 i z hz
        · rw [List.getElem?_append_right hge] at hz
          have hi0 : i - l.length = 0 := by
            rcases Nat.eq_zero_or_pos (i - l.length) with h0 | h0
            · exact h0
            · rw [List.getElem?_eq_none (by simp only [List.length_cons, List.length_nil]; omega)] at hz; cases hz
          rw [hi0] at hz
          simp at hz
          subst hz
          obtain rfl : i = k := by omega
          exact y2
    obtain ⟨l, e1, e2, e3⟩ := build len (Nat.le_refl _)
    refine ⟨⟨some a, l, cap⟩, by rw [h1]; unfold RB.val; rw [e1], ⟨fun j u hj => ⟨a, rfl, ?_⟩, e2, by rw [e1]; exact hl, hm, (fun h => by cases h), fun b hb hne => ?_⟩⟩
    · rw [u8s_get] at hj
      cases hy : l[j]? with
      | none => rw [hy] at hj; cases hj
      | some y =>
        rw [hy] at hj
        simp only [Option.map_some, Option.some.injEq] at hj
        rw [← hj]
        exact e3 j y hy
    · cases hb
      have h0 : 0 < l.length := by
        cases l with
        | nil => exact absurd rfl hne
        | cons _ _ => simp
      have := cell_some (e3 0 l[0] (List.getElem?_eq_getElem h0))
      rw [blk_add] at this
      refine ⟨?_, this.2⟩
      have h1 := this.1
      unfold Addr.add at h1
      split at h1
      · exact h1
      · rename_i hs
        exact absurd h1 (by simpa using hs)
structure RD where
  dn : Int
  n : Int
  s : Int
  z : Int
  v : Nat
  q : RB
def rrow (d : RD) : List Value := [.int .i64 d.dn, .int .i64 d.n, .int .i64 d.s, .int .i64 d.z, .int .u32 d.v, d.q.val]
structure RDok (W : World) (d : RD) : Prop where
  v : d.v < 4294967296
  n0 : -9223372036854775808 ≤ d.n
  n1 : d.n ≤ 9223372036854775807
  q : RBok W d.q
theorem trod_span {t ti : TypeId} {g0 g1 : Field} {fuel : Nat} {cs : List Value} {x : DataW H × List MemPlace} {base : Nat} {spare : Nat → Bool} {held : Bool} (ht : P.underlying t = some (.struct #[g0, g1])) (hi : P.underlying ti = some (.int .i64)) (u0 : g0.type = ti ∧ g0.offset = 0) (u1 : g1.type = ti ∧ g1.offset = 1) (ci : P.cellsOf ti = 1) (hct : P.cellsOf t = 2)
    (h : DataW.trod enc P W base spare held fuel t cs = some x) : ∃ a b : Int, cs = [.int .i64 a, .int .i64 b] := by
  obtain ⟨xs, n, _, _, hl, hlen, hf⟩ := DataW.trod_struct ht h
  rw [hct] at hl
  have e0 := hf 0 g0 rfl
  have e1 := hf 1 g1 rfl
  rw [u0.1, u0.2, ci] at e0
  rw [u1.1, u1.2, ci] at e1
  match cs, hl with
  | [a, b], _ =>
    match xs, hlen with
    | [y0, y1], _ =>
      simp only [List.drop_zero, List.drop_succ_cons, List.take_succ_cons, List.take_zero, List.getElem?_cons_zero, List.getElem?_cons_succ] at e0 e1
      obtain ⟨p, q0, _, _⟩ := DataW.trod_int hi e0
      obtain ⟨r, q1, _, _⟩ := DataW.trod_int hi e1
      simp only [List.cons.injEq, and_true] at q0 q1
      exact ⟨p, r, by rw [q0, q1]⟩
theorem trod_deed6 {t ti tu tp tb te : TypeId} {f0 f1 f2 f3 f4 g0 g1 : Field} {fuel : Nat} {cs : List Value} {x : DataW H × List MemPlace} {base : Nat} {spare : Nat → Bool} {held : Bool} (ht : P.underlying t = some (.struct #[f0, f1, f2, f3, f4])) (hi : P.underlying ti = some (.int .i64)) (hu : P.underlying tu = some (.int .u32)) (hp : P.underlying tp = some (.struct #[g0, g1])) (hb : P.underlying tb = some (.slice te)) (he : P.underlying te = some (.int .u8))
    (u0 : f0.type = ti ∧ f0.offset = 0) (u1 : f1.type = ti ∧ f1.offset = 1) (u2 : f2.type = tp ∧ f2.offset = 2) (u3 : f3.type = tu ∧ f3.offset = 4) (u4 : f4.type = tb ∧ f4.offset = 5) (w0 : g0.type = ti ∧ g0.offset = 0) (w1 : g1.type = ti ∧ g1.offset = 1)
    (ci : P.cellsOf ti = 1) (cu : P.cellsOf tu = 1) (cp : P.cellsOf tp = 2) (cb : P.cellsOf tb = 1) (ce : P.cellsOf te = 1) (hct : P.cellsOf t = 6)
    (h : DataW.trod enc P W base spare held fuel t cs = some x) : ∃ d : RD, cs = rrow d ∧ (rrow d).length = 6 ∧ RDok W d := by
  obtain ⟨xs, n, _, _, hl, hlen, hf⟩ := DataW.trod_struct ht h
  rw [hct] at hl
  have e0 := hf 0 f0 rfl
  have e1 := hf 1 f1 rfl
  have e2 := hf 2 f2 rfl
  have e3 := hf 3 f3 rfl
  have e4 := hf 4 f4 rfl
  rw [u0.1, u0.2, ci] at e0
  rw [u1.1, u1.2, ci] at e1
  rw [u2.1, u2.2, cp] at e2
  rw [u3.1, u3.2, cu] at e3
  rw [u4.1, u4.2, cb] at e4
  match cs, hl with
  | [a, b, c, d, e, f], _ =>
    match xs, hlen with
    | [y0, y1, y2, y3, y4], _ =>
      simp only [List.drop_zero, List.drop_succ_cons, List.take_succ_cons, List.take_zero, List.getElem?_cons_zero, List.getElem?_cons_succ] at e0 e1 e2 e3 e4
      obtain ⟨p0, q0, _, _⟩ := DataW.trod_int hi e0
      obtain ⟨p1, q1, _, k1⟩ := DataW.trod_int hi e1
      obtain ⟨p2, p2', q2⟩ := trod_span hp hi w0 w1 ci cp e2
      obtain ⟨p3, q3, _, k3⟩ := DataW.trod_int hu e3
      obtain ⟨p4, q4, k4⟩ := trod_str hb he ce e4
      simp only [List.cons.injEq, and_true] at q0 q1 q2 q3 q4
      simp only [Lit.wf, Bool.and_eq_true, decide_eq_true_eq] at k1 k3
      have z0 : IntKind.u32.min = 0 := by decide
      have z1 : IntKind.u32.max = 4294967295 := by decide
      have z2 : IntKind.i64.min = -9223372036854775808 := by decide
      have z3 : IntKind.i64.max = 9223372036854775807 := by decide
      rw [z2, z3] at k1
      rw [z0, z1] at k3
      obtain ⟨p3, rfl⟩ := Int.eq_ofNat_of_zero_le k3.1
      refine ⟨⟨p0, p1, p2, p2', p3, p4⟩, ?_, rfl, ⟨by show p3 < 4294967296; omega, k1.1, k1.2, k4⟩⟩
      simp only [rrow]
      rw [q0, q1, q2.1, q2.2, q3, q4]
end
end AM
end Go.Proofs.Ytfefeikkjebfoaa
