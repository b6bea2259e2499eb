/-
  CALLS THAT ARE KNOWN BY ANOTHER PROOF: the abstract machine runs other code for them. Conditions: that other proof.
-/
import Derived.Test.YtpjjkmfidghkjaaALim
namespace Go.Proofs.Ytpjjkmfidghkjaa
namespace AM
open Go Go.RowKit

section
variable {P : Program} {w0 : World}
/-- Whatever the code gives, the program's function i gives. -/
def OrOk (P : Program) (i : Nat) (fn : AFn) : Prop := ∀ (w0 : World) (callf : CallF) (m : Nat) (args : List Value) (σ σ' : St) (v : Value) (X : Emb) (w : World) (rargs : Array Value),
  CallOk P w0 AnyY callf → body callf m fn args σ = some (v, σ') → Sim w0 X σ w → (∀ t ∈ σ.hid, t < σ.heap.length) → σ.lock ≤ σ.heap.length → rel2 (relV X) args rargs.toList →
    Calls P i rargs w fun e w' => ∃ u X', e = .returned u ∧ relV X' v u ∧ Sim w0 X' σ' w' ∧ Stp X σ w X' w'
/-- Each function is the program's, or its code is known to do the same. -/
def EnvOr (P : Program) (env : Env) : Prop := ∃ l, env = .base l ∧ ∀ i fn, lookFn l i = some fn → ∃ f, P.funcs[i]? = some f ∧ f.name ≠ "runtime.NumGoroutine" ∧ f.body.isSome = true ∧ (compFn P f = some fn ∨ OrOk P i fn)
theorem EnvOr.of {env : Env} (h : EnvOk P env) : EnvOr P env := by
  obtain ⟨l, rfl, h⟩ := h
  refine ⟨l, rfl, fun i fn hi => ?_⟩
  obtain ⟨f, h1, h2, h3⟩ := h i fn hi
  exact ⟨f, h1, h3, compFn_body h2, .inl h2⟩
theorem EnvOr.cons {l : List (Nat × AFn)} {i : Nat} {fn : AFn} {f : Func} (h1 : P.funcs[i]? = some f) (h2 : f.name ≠ "runtime.NumGoroutine") (h3 : f.body.isSome = true) (h4 : OrOk P i fn) (h : EnvOr P (.base l)) : EnvOr P (.base ((i, fn) :: l)) := ⟨_, rfl, fun k g hk => by
  obtain ⟨l', e, h⟩ := h
  cases e
  simp only [lookFn] at hk
  split at hk
  · rename_i e; subst e; cases hk; exact ⟨f, h1, h2, h3, .inr h4⟩
  · exact h k g hk⟩
theorem runB_sound2 {l : List (Nat × AFn)} (he : ∀ i fn, lookFn l i = some fn → ∃ f, P.funcs[i]? = some f ∧ f.name ≠ "runtime.NumGoroutine" ∧ f.body.isSome = true ∧ (compFn P f = some fn ∨ OrOk P i fn)) (hm : P.follows .mixedOrders = true) : ∀ n, CallOk P w0 AnyY (runB l n)
  | 0 => ⟨runB_ast l 0, anyY_stable, fun g args σ v σ' h => by simp [runB] at h⟩
  | n + 1 => ⟨runB_ast l (n + 1), anyY_stable, fun g args σ v σ' h => by
    cases g with
    | func f =>
      simp only [runB, Option.bind_eq_some_iff] at h
      obtain ⟨fn, hfn, h⟩ := h
      obtain ⟨f', h1, h3, hb, h2⟩ := he f fn hfn
      refine .inl ⟨f, rfl, ⟨f', h1, h3, hb⟩, fun X w rargs S hh hl hr => ?_⟩
      rcases h2 with h2 | h2
      · exact body_sound (runB_sound2 he hm n) hm h1 h2 h S hh hl hr
      · exact h2 w0 (runB l n) n args σ σ' v X w rargs (runB_sound2 he hm n) h S hh hl hr
    | _ => simp [runB] at h⟩
theorem run_sound2 {env : Env} (he : EnvOr P env) (hm : P.follows .mixedOrders = true) (n : Nat) : CallOk P w0 AnyY (run env n) := by
  obtain ⟨l, rfl, h⟩ := he
  exact runB_sound2 h hm n
/-- What only adds new blocks leaves the state as it is. -/
theorem Sim.below {X : Emb} {σ : St} {w w' : World} (S : Sim w0 X σ w) (hb : Below w.heap.size w w') : Sim w0 X σ w' where
  bel := below_then S.bel hb |> fun h => h
  dom := S.dom
  place := fun id bx h => ⟨Nat.lt_of_lt_of_le (S.place id bx h).1 hb.size, (S.place id bx h).2⟩
  cell := fun id bx g pl cs h1 h2 h3 => by
    obtain ⟨a1, a2, a3, a4, a5, a6⟩ := S.cell id bx g pl cs h1 h2 h3
    have hlt := (S.place id bx h1).1
    refine ⟨a1, a2, a3, a4, fun j v hj => ?_, fun ho => ?_⟩
    · obtain ⟨u, hu, hr⟩ := a5 j v hj
      exact ⟨u, by rw [hb.cell hlt]; exact hu, hr⟩
    · obtain ⟨b1, rs, ty, lo, hi, b2, b3⟩ := a6 ho
      exact ⟨b1, rs, ty, lo, hi, by rw [hb.block _ hlt]; exact b2, b3⟩
  inj := S.inj
  lock := S.lock
  zero := S.zero
theorem body_sound0 {callf : CallF} (hcf : CallOk P w0 AnyY callf) (hm : P.follows .mixedOrders = true) {m : Nat} {fid : FuncId} {f : Func} {fn : AFn} (hf : P.funcs[fid]? = some f) (hc : compFn P f = some fn) {σ σ' : St} {v : Value} (h : body callf m fn [] σ = some (v, σ'))
    {X : Emb} {w : World} {rargs : Array Value} (S : Sim w0 X σ w) (hh : ∀ t ∈ σ.hid, t < σ.heap.length) (hl : σ.lock ≤ σ.heap.length) :
    Calls P fid rargs w fun e w' => ∃ u X', e = .returned u ∧ relV X' v u ∧ Sim w0 X' σ' w' ∧ Stp X σ w X' w' :=
  body_soundX hcf hm hf hc h S hh hl fun t q ht => by simp [argFr, Fr.get] at ht

/-- A call that nobody hands anything and that is run to its end, whatever lies in the slots. -/
theorem closed_any {env : Env} (he : EnvOk P env) (hm : P.follows .mixedOrders = true) {n f : Nat} (h : isTrue (run env n (.func f) [] ⟨[], 0, [], []⟩) = true) (w : World) (rargs : Array Value) :
    Calls P f rargs w fun e w' => e = .returned (.bool true) ∧ Below w.heap.size w w' := by
  obtain ⟨σ', h⟩ := isTrue_eq h
  obtain ⟨l, rfl, he'⟩ := he
  cases n with
  | zero => simp [run, runB] at h
  | succ n =>
    simp only [run, runB, Option.bind_eq_some_iff] at h
    obtain ⟨fn, hfn, h⟩ := h
    obtain ⟨f', h1, h2, h3⟩ := he' f fn hfn
    have S : Sim w ⟨fun _ => none, 0⟩ ⟨[], 0, [], []⟩ w := ⟨Below.refl _ _, fun id bx h => by (cases h), fun id bx h => by (cases h), fun id bx g pl cs h => by (cases h), fun i j bi bj h => by (cases h), fun id bx h => by (cases h), fun id bx h => by (cases h)⟩
    refine (body_sound0 (runB_sound (w0 := w) he' hm n) hm h1 h2 h S (by simp) (by simp)).mono fun e w' ⟨u, X', h1, h2, h3, h4⟩ => ?_
    rw [relV_bool h2] at h1
    exact ⟨h1, h3.bel⟩
/-- The same where some calls are known by another proof. -/
theorem closed_any2 {env : Env} (he : EnvOr P env) (hm : P.follows .mixedOrders = true) {n f : Nat} {f' : Func} {fn : AFn} (h1 : P.funcs[f]? = some f') (h2 : compFn P f' = some fn) (h3 : env.fn f = some fn) (h : isTrue (run env n (.func f) [] ⟨[], 0, [], []⟩) = true) (w : World) (rargs : Array Value) :
    Calls P f rargs w fun e w' => e = .returned (.bool true) ∧ Below w.heap.size w w' := by
  obtain ⟨σ', h⟩ := isTrue_eq h
  obtain ⟨l, rfl, he'⟩ := he
  have h3' : lookFn l f = some fn := h3
  cases n with
  | zero => simp [run, runB] at h
  | succ n =>
    simp only [run, runB, h3', Option.bind_some] at h
    have S : Sim w ⟨fun _ => none, 0⟩ ⟨[], 0, [], []⟩ w := ⟨Below.refl _ _, fun id bx h => by (cases h), fun id bx h => by (cases h), fun id bx g pl cs h => by (cases h), fun i j bi bj h => by (cases h), fun id bx h => by (cases h), fun id bx h => by (cases h)⟩
    refine (body_sound0 (runB_sound2 (w0 := w) he' hm n) hm h1 h2 h S (by simp) (by simp)).mono fun e w' ⟨u, X', h1, h2, h3, h4⟩ => ?_
    rw [relV_bool h2] at h1
    exact ⟨h1, h3.bel⟩
/-- A constant, without memory of its own. -/
def constFn (v : Value) : AFn := ⟨.seq (.region [⟨some 0, none, 0, true, .mv (.const v)⟩]) .ret, [.tmp 0]⟩
theorem const_body {callf : CallF} {m : Nat} {u v : Value} {args : List Value} {σ σ' : St} (h : body callf m (constFn u) args σ = some (v, σ')) : v = u ∧ σ' = σ := by
  obtain ⟨hp, L, H, d⟩ := σ
  simp [body, constFn, exec, aops, want, aop, pval, ev, Fr.put, resvs, resv, Fr.get, resOf, gc, joinDirty] at h
  exact ⟨h.1.symm, h.2.symm⟩
theorem constTrue_ok {env : Env} (he : EnvOk P env) (hm : P.follows .mixedOrders = true) {n i : Nat} (h : isTrue (run env n (.func i) [] ⟨[], 0, [], []⟩) = true) : OrOk P i (constFn (.bool true)) := fun w0 callf m args σ σ' v X w rargs _ hb S _ _ _ => by
  obtain ⟨rfl, rfl⟩ := const_body hb
  refine (closed_any he hm h w rargs).mono fun e w' ⟨he, hw⟩ => ⟨_, X, he, (relV_sc rfl).2 rfl, S.below hw, ?_⟩
  exact ⟨hw.size, hw.os, hw.tape, hw.output, fun k hk _ => hw.block k hk, Evo.refl X, fun id bx bx' h1 h2 => by rw [h1] at h2; cases h2; exact .inl rfl, fun id bx' h1 => .inl ⟨bx', h1, rfl, .inl rfl⟩⟩
theorem constTrue_ok2 {env : Env} (he : EnvOr P env) (hm : P.follows .mixedOrders = true) {n i : Nat} {f' : Func} {fn : AFn} (h1 : P.funcs[i]? = some f') (h2 : compFn P f' = some fn) (h3 : env.fn i = some fn) (h : isTrue (run env n (.func i) [] ⟨[], 0, [], []⟩) = true) : OrOk P i (constFn (.bool true)) := fun w0 callf m args σ σ' v X w rargs _ hb S _ _ _ => by
  obtain ⟨rfl, rfl⟩ := const_body hb
  refine (closed_any2 he hm h1 h2 h3 h w rargs).mono fun e w' ⟨he, hw⟩ => ⟨_, X, he, (relV_sc rfl).2 rfl, S.below hw, ?_⟩
  exact ⟨hw.size, hw.os, hw.tape, hw.output, fun k hk _ => hw.block k hk, Evo.refl X, fun id bx bx' h1 h2 => by rw [h1] at h2; cases h2; exact .inl rfl, fun id bx' h1 => .inl ⟨bx', h1, rfl, .inl rfl⟩⟩
/-- A function that only looks, and hands back a value of its own. -/
def natFn (k : Fr → St → Option Value) : AFn := ⟨.seq (.region [⟨some 1, none, 0, true, .native k⟩]) .ret, [.tmp 1]⟩
theorem nat_body {callf : CallF} {m : Nat} {k : Fr → St → Option Value} {v : Value} {args : List Value} {σ σ' : St} (hk : ∀ fr σ u, k fr σ = some u → AM.sc u = true) (h : body callf m (natFn k) args σ = some (v, σ')) : k (argFr 0 args) { σ with dirty := [] } = some v ∧ σ' = σ := by
  obtain ⟨hp, L, H, d⟩ := σ
  simp only [body, natFn, exec, aops, want, aop, Option.bind_some, if_true, Option.bind_eq_some_iff, Option.map_eq_some_iff] at h
  obtain ⟨q, h1, h2⟩ := h
  obtain ⟨r, ⟨q2, ⟨q3, ⟨u, hu, rfl⟩, h4⟩, rfl⟩, h5⟩ := h1
  simp only [Option.some.injEq] at h4
  subst h4
  simp only [Option.some.injEq] at h5
  subst h5
  have hu' := hk _ _ _ hu
  have hr : resOf [u] = some u := by
    cases u <;> first
      | rfl
      | (simp [AM.sc] at hu')
  simp [resvs, resv, Fr.put, Fr.get, hr, gc, joinDirty] at h2
  refine ⟨by rw [hu, h2.1], h2.2.symm⟩
theorem Stp.below {X : Emb} {σ : St} {w w' : World} (hw : Below w.heap.size w w') : Stp X σ w X w' :=
  ⟨hw.size, hw.os, hw.tape, hw.output, fun k hk _ => hw.block k hk, Evo.refl X, fun id bx bx' h1 h2 => by rw [h1] at h2; cases h2; exact .inl rfl, fun id bx' h1 => .inl ⟨bx', h1, rfl, .inl rfl⟩⟩
end
end AM
end Go.Proofs.Ytpjjkmfidghkjaa
