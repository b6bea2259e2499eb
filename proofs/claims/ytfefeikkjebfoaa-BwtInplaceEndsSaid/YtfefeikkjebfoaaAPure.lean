/-
  THE ABSTRACT MACHINE's PURE OPERATIONS: what they give stands for what the program's operations give, and the world stays. Conditions: none.
-/
import Derived.Test.YtfefeikkjebfoaaASim
import Derived.Laws.Strings
namespace Go.Proofs.Ytfefeikkjebfoaa
namespace AM
open Go Go.RowKit

section
variable {P : Program}

theorem run_under {t : TypeId} {d : TypeDesc} (h : P.underlying t = some d) (w : World) : (underlying t).run P w = .ok d w := run_underlying h w
theorem run_size {t : TypeId} {n : Nat} (h : sizeTy P t = some n) (w : World) : (sizeOf t).run P w = .ok n w := by
  unfold sizeTy at h
  cases hi : P.info? t with
  | none => rw [hi] at h; cases h
  | some i => rw [hi] at h; simp at h; simp [sizeOf, typeInfo, hi, h]
theorem run_isAgg {t : TypeId} {b : Bool} (h : aggTy P t = some b) (w : World) : (isAgg t).run P w = .ok b w := by
  unfold aggTy at h
  unfold isAgg
  cases hu : P.underlying t with
  | none => rw [hu] at h; cases h
  | some d =>
    rw [hu] at h
    simp only [Sem.run_bind, run_under hu, Result.andThen_ok]
    cases d <;> simp at h <;> subst h <;> rfl
theorem spanTy_agg {t : TypeId} {n : Nat} (h : spanTy P t = some (some n)) : aggTy P t = some true ∧ sizeTy P t = some n := by
  unfold spanTy at h
  split at h
  · rename_i e; refine ⟨e, ?_⟩; cases hs : sizeTy P t <;> rw [hs] at h <;> simp at h; rw [h]
  · split at h <;> cases h
  · cases h
theorem spanTy_one {t : TypeId} (h : spanTy P t = some none) : aggTy P t = some false ∧ sizeTy P t = some 1 := by
  unfold spanTy at h
  split at h
  · cases hs : sizeTy P t <;> rw [hs] at h <;> simp at h
  · rename_i e; split at h
    · rename_i e'; exact ⟨e, e'⟩
    · cases h
  · cases h

/-- The world of an operation that does nothing to it. -/
def Gives (P : Program) (o : Oper) (a : Act) (w : World) (X : Emb) (v : Value) : Prop := ∃ u, (execOp a.eval o).run P w = .ok (.value u) w ∧ relV X v u

theorem run_part {X : Emb} {t : TypeId} {n : Option Nat} {cs rs : List Value} {off : Nat} {v : Value} (ht : spanTy P t = some n) (h : rdCells cs off n = some v) (hr : rel2 (relC X) cs rs) (w : World) :
    ∃ u, (part t rs.toArray off).run P w = .ok u w ∧ relF X v u := by
  cases n with
  | none =>
    obtain ⟨h1, h2⟩ := spanTy_one ht
    simp only [rdCells] at h
    obtain ⟨u, hu, hv⟩ := hr.get h
    refine ⟨u, ?_, relF_of_relC hv⟩
    simp [part, run_isAgg h1, hu]
  | some n =>
    obtain ⟨h1, h2⟩ := spanTy_agg ht
    simp only [rdCells] at h
    split at h
    · rename_i hle
      cases h
      refine ⟨.agg ((rs.drop off).take n).toArray, ?_, ?_⟩
      · simp [part, run_isAgg h1, run_size h2, List.take_drop]
      · simp only [relF]; exact ⟨_, rfl, by simpa using (hr.drop off).take n⟩
    · cases h

theorem pureOf_eq {α : Type} {s : Sem α} {a : α} (h : pureOf s = some a) : s = .pure a := by
  cases s <;> simp [pureOf] at h; rw [h]
theorem bless_eq : ∀ (x y : List UInt8), Op.bytesLess x y = bless x y
  | _, [] => by unfold Op.bytesLess bless; rfl
  | [], _ :: _ => by unfold Op.bytesLess bless; rfl
  | a :: x, b :: y => by unfold Op.bytesLess bless; rw [bless_eq x y]
theorem binOp_int (op : BinOp) (t : TypeId) (k k' : IntKind) (a b : Int) : binOp op t (.int k a) (.int k' b) = binOp op 0 (.int k a) (.int k' b) := by
  cases op <;> simp only [binOp]
theorem guard_int (op : BinOp) (t : TypeId) (x y : Operand) (k k' : IntKind) (a b : Int) (w : World) : (eqGuard op t x y (.int k a) (.int k' b)).run P w = .ok () w := by
  unfold eqGuard; split <;> simp
theorem guard_str (op : BinOp) (t : TypeId) (x y : Operand) (a b : ByteArray) (w : World) : (eqGuard op t x y (.string a) (.string b)).run P w = .ok () w := by
  unfold eqGuard; split <;> simp
theorem sbin_ok {op : BinOp} {s t : ByteArray} {v : Value} (h : sbin op s t = some v) (w : World) : (Op.stringOp op s t).run P w = .ok v w := by
  cases op <;> simp only [sbin, reduceCtorEq, Option.some.injEq] at h <;> (try subst h) <;> simp [Op.stringOp, ByteArray.toList_eq, bless_eq]
  split at h
  · rename_i hl
    cases h
    rw [if_neg (by have : IntKind.i64.max = 9223372036854775807 := by decide
                   omega)]
    congr 2
    apply ByteArray.ext; simp
  · cases h
theorem relV_int {X : Emb} {k : IntKind} {n : Int} {u : Value} (h : relV X (.int k n) u) : u = .int k n := (relV_sc rfl).1 h
theorem relV_bool {X : Emb} {b : Bool} {u : Value} (h : relV X (.bool b) u) : u = .bool b := (relV_sc rfl).1 h
theorem relV_string {X : Emb} {s : ByteArray} {u : Value} (h : relV X (.string s) u) : u = .string s := (relV_sc rfl).1 h
theorem relV_int_mk {X : Emb} (k : IntKind) (n : Int) : relV X (.int k n) (.int k n) := (relV_sc rfl).2 rfl
theorem relV_bool_mk {X : Emb} (b : Bool) : relV X (.bool b) (.bool b) := (relV_sc rfl).2 rfl
theorem relV_string_mk {X : Emb} (s : ByteArray) : relV X (.string s) (.string s) := (relV_sc rfl).2 rfl

/-- The result of a number's operation is a number, a bool. -/
theorem pure_sc {op : BinOp} {k k' : IntKind} {a b : Int} {v : Value} (h : pureOf (binOp op 0 (.int k a) (.int k' b)) = some v) : sc v = true := by
  have h' := pureOf_eq h
  cases op <;> simp only [binOp, Op.shift, Op.intArith, Op.intDiv, Op.intBits, Op.intCmp] at h' <;> (repeat' split at h') <;> first
    | (cases h'; rfl)
    | (simp only [pure] at h'; cases h'; rfl)
    | (exfalso; revert h'; simp [stuck, runtimePanic, program, bind, Sem.bind]; done)

theorem bin_gives {X : Emb} {fr : Fr} {a : Act} {op : BinOp} {t yt : TypeId} {x y : Operand} {o : Oper} {v : Value} (ho : o.op = .binOp op t x y yt)
    (hx : ∀ v, ev fr x = some v → relV X v (a.eval x)) (hy : ∀ v, ev fr y = some v → relV X v (a.eval y)) (h : pval (.bin op x y) fr = some v) (w : World) : Gives P o a w X v := by
  simp only [pval, Option.bind_eq_some_iff] at h
  obtain ⟨p, hp, q, hq, h⟩ := h
  have h1 := hx p hp
  have h2 := hy q hq
  unfold abin at h
  split at h
  · rename_i k n k' m
    have h1 := relV_int h1
    have h2 := relV_int h2
    have hs := pure_sc h
    refine ⟨v, ?_, (relV_sc hs).2 rfl⟩
    simp only [execOp, ho, h1, h2, Sem.run_bind, guard_int, Result.andThen_ok, binOp_int op t, pureOf_eq h, Sem.run_pure', Sem.run_pure]
  · rename_i s u
    have h1 := relV_string h1
    have h2 := relV_string h2
    refine ⟨v, ?_, ?_⟩
    · have : binOp op t (.string s) (.string u) = Op.stringOp op s u := by cases op <;> rfl
      simp only [execOp, ho, h1, h2, Sem.run_bind, guard_str, Result.andThen_ok, this, sbin_ok h, Sem.run_pure]
    · refine (relV_sc ?_).2 rfl
      cases op <;> simp [sbin] at h <;> (try (obtain ⟨_, h⟩ := h)) <;> (try subst h) <;> rfl
  · cases h

theorem un_gives {X : Emb} {fr : Fr} {a : Act} {op : UnOp} {t : TypeId} {x : Operand} {o : Oper} {v : Value} (ho : o.op = .unOp op t x)
    (hx : ∀ v, ev fr x = some v → relV X v (a.eval x)) (h : pval (.un op x) fr = some v) (w : World) : Gives P o a w X v := by
  simp only [pval, Option.bind_eq_some_iff] at h
  obtain ⟨p, hp, h⟩ := h
  have h1 := hx p hp
  unfold aun at h
  split at h
  · rename_i k n
    have h1 := relV_int h1
    have h' := pureOf_eq h
    refine ⟨v, by simp only [execOp, ho, h1, Sem.run_bind, h', Sem.run_pure', Result.andThen_ok, Sem.run_pure], (relV_sc ?_).2 rfl⟩
    cases op <;> simp only [Op.unary, Op.intArith, Op.intBits] at h' <;> first
      | (simp only [pure] at h'; cases h'; rfl)
      | (exfalso; revert h'; simp [stuck]; done)
  · rename_i b
    have h1 := relV_bool h1
    have h' := pureOf_eq h
    refine ⟨v, by simp only [execOp, ho, h1, Sem.run_bind, h', Sem.run_pure', Result.andThen_ok, Sem.run_pure], (relV_sc ?_).2 rfl⟩
    cases op <;> simp only [Op.unary] at h' <;> first
      | (simp only [pure] at h'; cases h'; rfl)
      | (exfalso; revert h'; simp [stuck]; done)
  · cases h

/-- The three cuts' bounds. -/
theorem bound_int {v : Value} {y d n : Nat} (h : boundv y (some v) d = some n) : ∃ k i, v = .int k i := by
  cases v <;> simp only [boundv] at h <;> first | cases h | exact ⟨_, _, rfl⟩
theorem run_bound' {v : Value} {y d n c : Nat} (h : boundv y (some v) d = some n) (hc : y ≤ c) (code : BoundsCode) (w : World) : (Instr.sliceBound v c code).run P w = .ok n w := by
  obtain ⟨k, i, rfl⟩ := bound_int h
  simp only [boundv] at h
  split at h
  · cases h
    simp only [Instr.sliceBound, asIntOf, Sem.run_bind, Sem.run_pure, Result.andThen_ok]
    rw [if_pos (by omega)]
    rfl
  · cases h
theorem bound_le {v : Value} {y d n : Nat} (h : boundv y (some v) d = some n) : n ≤ y := by
  obtain ⟨k, i, rfl⟩ := bound_int h
  simp only [boundv] at h
  split at h
  · cases h; omega
  · cases h
theorem run_cuts {isS : Bool} {len cap : Nat} {lo hi mx : Option Value} {l h : Nat} {m : Option Nat} (hl : len ≤ cap) (hc : cuts len lo hi mx = some (l, h, m)) (w : World) :
    (Instr.sliceBounds isS len cap lo hi mx).run P w = .ok (l, h, m.getD cap) w ∧ l ≤ h ∧ h ≤ len ∧ (∀ k, m = some k → h ≤ k ∧ k ≤ len) := by
  cases mx with
  | none =>
    simp only [cuts, Option.bind_eq_some_iff, Option.map_eq_some_iff] at hc
    obtain ⟨h', hh, l', hl', he⟩ := hc
    cases he
    have h1 : h ≤ len := by
      cases hi with
      | none => simp only [boundv] at hh; cases hh; exact Nat.le_refl _
      | some v => exact bound_le hh
    have h2 : l ≤ h := by
      cases lo with
      | none => simp only [boundv] at hl'; cases hl'; exact Nat.zero_le _
      | some v => exact bound_le hl'
    refine ⟨?_, h2, h1, fun k hk => by cases hk⟩
    unfold Instr.sliceBounds
    cases hi <;> cases lo <;> (try (simp only [boundv] at hh; cases hh)) <;> (try (simp only [boundv] at hl'; cases hl')) <;>
      simp only [Sem.run_bind, Sem.run_pure, Result.andThen_ok, Option.getD_none]
    · rw [run_bound' hl' (Nat.le_refl _)]; rfl
    · rw [run_bound' hh hl]; rfl
    · rw [run_bound' hh hl]
      simp only [Result.andThen_ok]
      rw [run_bound' hl' (Nat.le_refl _)]; rfl
  | some mv =>
    simp only [cuts, Option.bind_eq_some_iff, Option.map_eq_some_iff] at hc
    obtain ⟨m', hm, h', hh, l', hl', he⟩ := hc
    cases he
    cases hi with
    | none => cases hh
    | some v =>
      simp only at hh
      have h2 : l ≤ h := by
        cases lo with
        | none => simp only [boundv] at hl'; cases hl'; exact Nat.zero_le _
        | some v => exact bound_le hl'
      refine ⟨?_, h2, Nat.le_trans (bound_le hh) (bound_le hm), fun k hk => by cases hk; exact ⟨bound_le hh, bound_le hm⟩⟩
      unfold Instr.sliceBounds
      cases lo <;> (try (simp only [boundv] at hl'; cases hl')) <;>
        simp only [Sem.run_bind, Sem.run_pure, Result.andThen_ok, Option.getD_some]
      · rw [run_bound' hm hl]
        simp only [Result.andThen_ok]
        rw [run_bound' hh (Nat.le_refl _)]; rfl
      · rw [run_bound' hm hl]
        simp only [Result.andThen_ok]
        rw [run_bound' hh (Nat.le_refl _)]
        simp only [Result.andThen_ok]
        rw [run_bound' hl' (Nat.le_refl _)]; rfl

theorem evo_rel {X : Emb} {fr : Fr} {a : Act} {x : Option Operand} {v : Option Value} (hx : ∀ y, x = some y → ∀ v, ev fr y = some v → relV X v (a.eval y)) (h : evo fr x = some v) :
    (v = none ∧ x = none) ∨ ∃ y q, x = some y ∧ v = some q ∧ relV X q (a.eval y) := by
  cases x with
  | none => simp only [evo] at h; cases h; exact .inl ⟨rfl, rfl⟩
  | some y =>
    simp only [evo, Option.map_eq_some_iff] at h
    obtain ⟨q, hq, rfl⟩ := h
    exact .inr ⟨y, q, rfl, rfl, hx y rfl q hq⟩
/-- A bound's operand is the number itself. -/
theorem evo_same {X : Emb} {fr : Fr} {a : Act} {x : Option Operand} {v : Option Value} (hx : ∀ y, x = some y → ∀ v, ev fr y = some v → relV X v (a.eval y)) (h : evo fr x = some v) (hi : ∀ q, v = some q → ∃ k i, q = .int k i) : x.map a.eval = v := by
  rcases evo_rel hx h with ⟨rfl, rfl⟩ | ⟨y, q, rfl, rfl, hr⟩
  · rfl
  · obtain ⟨k, i, rfl⟩ := hi q rfl
    simp [relV_int hr]
theorem cuts_ints {len : Nat} {lo hi mx : Option Value} {r : Nat × Nat × Option Nat} (hc : cuts len lo hi mx = some r) : (∀ q, lo = some q → ∃ k i, q = Value.int k i) ∧ (∀ q, hi = some q → ∃ k i, q = Value.int k i) ∧ (∀ q, mx = some q → ∃ k i, q = Value.int k i) := by
  cases mx with
  | none =>
    simp only [cuts, Option.bind_eq_some_iff, Option.map_eq_some_iff] at hc
    obtain ⟨h', hh, l', hl', he⟩ := hc
    exact ⟨fun q e => by subst e; exact bound_int hl', fun q e => by subst e; exact bound_int hh, fun q e => by cases e⟩
  | some mv =>
    simp only [cuts, Option.bind_eq_some_iff, Option.map_eq_some_iff] at hc
    obtain ⟨m', hm, h', hh, l', hl', he⟩ := hc
    refine ⟨fun q e => by subst e; exact bound_int hl', fun q e => ?_, fun q e => by cases e; exact bound_int hm⟩
    subst e
    exact bound_int hh

/-- A cut of a slice stands for a cut of a slice. -/
theorem relSl.cut {X : Emb} {a ra : Addr} {n e c l h m esz : Nat} {mx : Option Nat} (hs : relSl X a n e ra c) (hl : l ≤ h) (hh : h ≤ n) (hm : mx.getD c = m) (hmx : ∀ k, mx = some k → h ≤ k ∧ k ≤ n) (he : e = 0 ∨ e = esz) (hz : 0 < esz) :
    relSl X { a with off := a.off + l * esz } (h - l) (if mx.isSome then 0 else e) (if m = l then ra else ra.add (l * esz)) (m - l) := by
  obtain ⟨h1, h2, bx, hx, s, hsp, hle, hr⟩ := hs
  have hmc : h ≤ m ∧ m ≤ c := by
    cases mx with
    | none => simp at hm; omega
    | some k => simp at hm; have := hmx k rfl; omega
  refine ⟨by omega, by omega, bx, hx, s, hsp, hle, fun e' => ?_⟩
  obtain ⟨g1, g2⟩ := hr e'
  constructor
  · intro hpos
    rcases Nat.eq_zero_or_pos l with rfl | hl0
    · have hp : 0 < n ∨ a.off = 0 := by
        rcases hpos with h' | h'
        · exact .inl (by omega)
        · exact .inr (by simpa using h')
      rw [g1 hp]
      simp [Addr.add]
    · have hne : 0 < l * esz := Nat.mul_pos hl0 hz
      have hpos' : 0 < h - l := by
        rcases hpos with h | h
        · exact h
        · simp at h; omega
      rw [if_neg (by omega), g1 (.inl (by omega))]
      simp [Addr.add, Nat.ne_of_gt hne, Nat.add_assoc]
  · intro hpos
    cases mx with
    | some k => simp at hpos
    | none =>
      simp at hpos hm
      subst hm
      have he' : e = esz := by omega
      subst he'
      obtain ⟨q1, q2⟩ := g2 hpos
      simp only [Option.isSome_none, Bool.false_eq_true, if_false]
      have hk : l * e + (c - l) * e = c * e := by rw [← Nat.add_mul]; congr 1; omega
      constructor <;> omega

end
end AM
end Go.Proofs.Ytfefeikkjebfoaa
