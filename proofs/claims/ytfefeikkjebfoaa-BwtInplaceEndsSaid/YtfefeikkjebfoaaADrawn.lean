/-
  REGIONS WHOSE ORDER IS DRAWN: whatever order is picked, what is left stands for what the run in the text's order leaves. Conditions: the calls are sound; the static conditions of 'statB'.
-/
import Derived.Test.YtfefeikkjebfoaaAFrame
namespace Go.Proofs.Ytfefeikkjebfoaa
namespace AM
open Go Go.RowKit

/-! ### The run in the text's order, as functions of the place -/
def lkOf (σ : St) (bn : List (Nat × Nat × Nat)) (o : AOper) : St := { σ with lock := if o.wr then σ.lock else σ.heap.length, hid := hiddenBy o.bef bn ++ σ.hid }
structure Trace (callf : CallF) (as : List AOper) (off : Nat) (st : Nat → St) (frm : Nat → Fr) (val : Nat → Value) (ran : Nat → Bool) (bn : Nat → List (Nat × Nat × Nat)) : Prop where
  want : ∀ i o, as[i]? = some o → want o (frm (off + i)) = some (ran (off + i))
  frame : ∀ i o, as[i]? = some o → frm (off + i + 1) = (frm (off + i)).put o.dst (val (off + i))
  does : ∀ i o, as[i]? = some o → ran (off + i) = true → ∃ s', aop callf o.op (frm (off + i)) (lkOf (st (off + i)) (bn (off + i)) o) = some (val (off + i), s') ∧ st (off + i + 1) = { s' with lock := (st (off + i)).lock, hid := (st (off + i)).hid }
  skips : ∀ i o, as[i]? = some o → ran (off + i) = false → val (off + i) = undefv ∧ st (off + i + 1) = st (off + i)
  born : ∀ i o, as[i]? = some o → bn (off + i + 1) = if (st (off + i)).heap.length < (st (off + i + 1)).heap.length then (off + i, (st (off + i)).heap.length, (st (off + i + 1)).heap.length) :: bn (off + i) else bn (off + i)
theorem dops_trace {callf : CallF} : ∀ (l : List AOper) (born : List (Nat × Nat × Nat)) (j : Nat) (fr : Fr) (σ : St) (fr' : Fr) (σ' : St), dops callf born j l fr σ = some (fr', σ') →
    ∃ st frm val ran bn, st j = σ ∧ frm j = fr ∧ bn j = born ∧ st (j + l.length) = σ' ∧ frm (j + l.length) = fr' ∧ Trace callf l j st frm val ran bn
  | [], born, j, fr, σ, fr', σ', h => by
    simp only [dops, Option.some.injEq, Prod.mk.injEq] at h
    refine ⟨fun _ => σ, fun _ => fr, fun _ => undefv, fun _ => false, fun _ => born, rfl, rfl, rfl, h.2, h.1, ⟨?_, ?_, ?_, ?_, ?_⟩⟩ <;> (intro i o ho; simp at ho)
  | o :: l, born, j, fr, σ, fr', σ', h => by
    simp only [dops, Option.bind_eq_some_iff] at h
    obtain ⟨b, hb, h⟩ := h
    -- what the first operation leaves
    obtain ⟨v, σ1, born1, h1, h2, hrec⟩ : ∃ v σ1 born1, (b = true → ∃ s', aop callf o.op fr (lkOf σ born o) = some (v, s') ∧ σ1 = { s' with lock := σ.lock, hid := σ.hid }) ∧ (b = false → v = undefv ∧ σ1 = σ) ∧
        (born1 = if σ.heap.length < σ1.heap.length then (j, σ.heap.length, σ1.heap.length) :: born else born) ∧ dops callf born1 (j + 1) l (fr.put o.dst v) σ1 = some (fr', σ') := by
      cases b with
      | true =>
        simp only [if_true, Option.bind_eq_some_iff] at h
        obtain ⟨⟨v, s'⟩, h1, h2⟩ := h
        exact ⟨v, { s' with lock := σ.lock, hid := σ.hid }, _, fun _ => ⟨s', h1, rfl⟩, fun e => (by cases e), rfl, h2⟩
      | false =>
        simp only [Bool.false_eq_true, if_false] at h
        exact ⟨undefv, σ, _, fun e => (by cases e), fun _ => ⟨rfl, rfl⟩, rfl, by simpa using h⟩
    obtain ⟨hborn, hrec⟩ := hrec
    obtain ⟨st, frm, val, ran, bn, e1, e2, e3, e4, e5, T⟩ := dops_trace l born1 (j + 1) _ _ _ _ hrec
    have sh : ∀ i, j + (i + 1) = j + 1 + i := fun i => by omega
    refine ⟨fun i => if i = j then σ else st i, fun i => if i = j then fr else frm i, fun i => if i = j then v else val i, fun i => if i = j then b else ran i, fun i => if i = j then born else bn i, by simp, by simp, by simp, ?_, ?_, ⟨?_, ?_, ?_, ?_, ?_⟩⟩
    · have : ¬ j + (l.length + 1) = j := by omega
      simp only [List.length_cons, this, if_false]
      rw [sh]; exact e4
    · have : ¬ j + (l.length + 1) = j := by omega
      simp only [List.length_cons, this, if_false]
      rw [sh]; exact e5
    all_goals
      intro i o' ho'
      cases i with
      | zero =>
        simp at ho'
        subst ho'
        have n1 : ¬ j + 1 = j := by omega
        simp only [Nat.add_zero, if_true, n1, if_false, e1, e2, e3]
        try (first
          | exact hb
          | exact fun e => h1 e
          | exact fun e => h2 e
          | exact hborn)
      | succ i =>
        have n1 : ¬ j + (i + 1) = j := by omega
        have n2 : ¬ j + (i + 1) + 1 = j := by omega
        simp only [n1, n2, if_false]
        rw [sh]
        have ho2 : l[i]? = some o' := by simpa using ho'
        first
          | exact T.want i o' ho2
          | exact T.frame i o' ho2
          | exact T.does i o' ho2
          | exact T.skips i o' ho2
          | exact T.born i o' ho2
end AM
end Go.Proofs.Ytfefeikkjebfoaa
