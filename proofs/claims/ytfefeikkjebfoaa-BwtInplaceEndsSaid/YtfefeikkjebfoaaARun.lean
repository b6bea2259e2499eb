/-
  FROM A RUN OF THE ABSTRACT MACHINE TO THE PROGRAM's CALL: each function of a translated set, and a call from a state without memory of its own. Conditions: the functions are the translated ones.
-/
import Derived.Test.YtfefeikkjebfoaaAExec
namespace Go.Proofs.Ytfefeikkjebfoaa
namespace AM
open Go Go.RowKit

section
variable {P : Program} {w0 : World}

theorem resv_sound {X : Emb} {σ : St} {fr : Fr} {a : Act} {w : World} (S : Sim w0 X σ w) (hf : FrR X fr a) : ∀ (l : List ResultVar) (rs : List ARes) (vs : List Value), compRes P l = some rs → resvs fr σ rs = some vs →
    ∃ us : List Value, (l.mapM (fun | .tmp t => pure (a.tmps.getD t undef) | .cell c t => do loadVar t (← asAddr (a.tmps.getD c undef)) : ResultVar → Sem Value)).run P w = .ok us w ∧ rel2 (relV X) vs us
  | [], rs, vs, hc, h => by
    simp only [compRes, Option.some.injEq] at hc
    subst hc
    simp only [resvs, Option.some.injEq] at h
    subst h
    exact ⟨[], by simp, rel2.nil⟩
  | .tmp t :: l, rs, vs, hc, h => by
    simp only [compRes, Option.map_eq_some_iff] at hc
    obtain ⟨rs', h1, rfl⟩ := hc
    simp only [resvs, Option.bind_eq_some_iff, Option.map_eq_some_iff] at h
    obtain ⟨v, hv, vs', hvs, rfl⟩ := h
    obtain ⟨us, e1, e2⟩ := resv_sound S hf l rs' vs' h1 hvs
    simp only [resv] at hv
    refine ⟨a.tmps.getD t undef :: us, ?_, e2.cons (hf t v hv)⟩
    rw [List.mapM_cons]
    simp only [Sem.run_bind, Sem.run_pure, Result.andThen_ok, e1]
  | .cell c t :: l, rs, vs, hc, h => by
    simp only [compRes, Option.bind_eq_some_iff, Option.map_eq_some_iff] at hc
    obtain ⟨n, hn, rs', h1, rfl⟩ := hc
    simp only [resvs, Option.bind_eq_some_iff, Option.map_eq_some_iff] at h
    obtain ⟨v, hv, vs', hvs, rfl⟩ := h
    obtain ⟨us, e1, e2⟩ := resv_sound S hf l rs' vs' h1 hvs
    simp only [resv] at hv
    split at hv
    · rename_i ad e
      simp only [Option.bind_eq_some_iff] at hv
      obtain ⟨⟨pl, cs⟩, hb, hv⟩ := hv
      obtain ⟨ra, q1, q2⟩ := relV_ptr (hf c _ e)
      obtain ⟨u, hu, hr⟩ := run_loadVar_rel (P := P) hn S hb q2 hv
      refine ⟨u :: us, ?_, e2.cons (relV_of_relF hr)⟩
      have q3 : (do loadVar t (← asAddr (a.tmps.getD c undef)) : Sem Value).run P w = .ok u w := by rw [q1]; simp [asAddr, hu]
      rw [List.mapM_cons, Sem.run_bind]
      erw [q3]
      simp only [Result.andThen_ok]
      rw [Sem.run_bind, e1]
      rfl
    · cases hv
theorem relF_of_relV {X : Emb} {v u : Value} (h : relV X v u) (hf : flatv v = true) : relF X v u := by
  cases v <;> first
    | exact h
    | simp [flatv] at hf
theorem res_sound {X : Emb} {vs : List Value} {us : List Value} {v : Value} (h : rel2 (relV X) vs us) (hr : resOf vs = some v) : relV X v (if h : us.toArray.size = 1 then us.toArray[0] else .tuple us.toArray) := by
  unfold resOf at hr
  split at hr
  · rename_i q
    cases hr
    obtain ⟨u, m, rfl, h1, h2⟩ := h.head
    have := h2.nil'
    subst this
    simpa using h1
  · rename_i hne
    split at hr
    · rename_i hall
      cases hr
      have hl := h.1
      have hn : ¬ us.toArray.size = 1 := by
        intro e
        simp at e
        have : vs.length = 1 := by omega
        match vs, this with
        | [q], _ => exact hne q rfl
      rw [dif_neg hn]
      exact ⟨us.toArray, rfl, by simpa using h.mono fun v hv u hr => relF_of_relV hr (List.all_eq_true.1 hall v hv)⟩
    · cases hr
theorem argFr_get : ∀ (l : List Value) (i t : Nat) (v : Value), Fr.get (argFr i l) t = some v → i ≤ t ∧ l[t - i]? = some v
  | [], i, t, v, h => by simp [argFr, Fr.get] at h
  | x :: l, i, t, v, h => by
    simp only [argFr, Fr.get] at h
    split at h
    · rename_i e; subst e; cases h; simp
    · rename_i e
      obtain ⟨h1, h2⟩ := argFr_get l (i + 1) t v h
      refine ⟨by omega, ?_⟩
      rw [show t - i = (t - (i + 1)) + 1 by omega]
      simpa using h2
theorem body_sound {callf : CallF} (hcf : CallOk P w0 callf) (hm : P.follows .mixedOrders = true) {m : Nat} {fid : FuncId} {f : Func} {fn : AFn} (hf : P.funcs[fid]? = some f) (hc : compFn P f = some fn) {args : List Value} {σ σ' : St} {v : Value} (h : body callf m fn args σ = some (v, σ'))
    {X : Emb} {w : World} {rargs : Array Value} (S : Sim w0 X σ w) (hh : ∀ t ∈ σ.hid, t < σ.heap.length) (hl : σ.lock ≤ σ.heap.length) (hr : rel2 (relV X) args rargs.toList) :
    Calls P fid rargs w fun e w' => ∃ u X', e = .returned u ∧ relV X' v u ∧ Sim w0 X' σ' w' ∧ Stp X σ w X' w' := by
  simp only [compFn, Option.bind_eq_some_iff, Option.map_eq_some_iff] at hc
  obtain ⟨rs, hrs, c, hbody, ⟨ac, live⟩, hcomp, rfl⟩ := hc
  simp only [body, Option.bind_eq_some_iff] at h
  obtain ⟨⟨e1, fr1, σ1⟩, h1, h⟩ := h
  have G : Good w0 f.ntmps X { σ with dirty := [] } (argFr 0 args) { tmps := rargs ++ Array.replicate (f.ntmps - rargs.size) undef, defers := [] } w := by
    refine ⟨S.dirty [], fun t q ht => ?_, by simp; omega, rfl, hh, hl⟩
    obtain ⟨_, g2⟩ := argFr_get args 0 t q ht
    rw [Nat.sub_zero] at g2
    obtain ⟨u, hu, hrel⟩ := hr.get g2
    have hlt : t < rargs.size := by have := (List.getElem?_eq_some_iff.1 hu).1; simpa using this
    have : (rargs ++ Array.replicate (f.ntmps - rargs.size) undef).getD t undef = u := by
      rw [Array.getD_eq_getD_getElem?, Array.getElem?_append_left hlt, ← Array.getElem?_toList, hu]
      rfl
    rw [this]
    exact hrel
  have a1 := exec_ast hcf.1 m ac _ { σ with dirty := [] } _ _ _ hl h1
  refine calls_of_wp hf hbody (exec_sound hcf hm c _ _ live ac hcomp _ _ _ _ _ h1 X _ w G _ fun a' w' ⟨X1, G1, s1⟩ => ?_)
  have fin : (resvs fr1 σ1 rs).bind (fun vs => (resOf vs).bind fun u => (gc σ.heap.length [u] σ1).bind fun q => match q.1 with
      | [v] => some (v, { q.2 with dirty := joinDirty σ.dirty q.2.dirty })
      | _ => none) = some (v, σ') → a'.defers = [] ∧ ∃ v1, (results f a'.tmps).run P w' = .ok v1 w' ∧ ∃ u X', (Ending.returned v1) = .returned u ∧ relV X' v u ∧ Sim w0 X' σ' w' ∧ Stp X σ w X' w' := by
    intro h
    simp only [Option.bind_eq_some_iff] at h
    obtain ⟨vs, hvs, u, hu, ⟨q, σ2⟩, hg, h⟩ := h
    split at h
    · rename_i v' hq
      simp only at hq
      subst hq
      cases h
      obtain ⟨us, r1, r2⟩ := resv_sound (P := P) G1.sim G1.fr f.results.toList rs vs hrs hvs
      obtain ⟨X2, gd, s2, _⟩ := gc_step (τ0 := { σ with dirty := [] }) G1.sim a1 rfl s1 (S.dirty []) hh hl hg
      refine ⟨G1.defers, if h : us.toArray.size = 1 then us.toArray[0] else .tuple us.toArray, ?_, _, X2, rfl, gd.vals.2 0 u v _ rfl rfl (res_sound r2 hu), gd.sim.dirty _, s2.dirty⟩
      simp only [results, Sem.run_bind]
      rw [Array.mapM_eq_mapM_toList, map_eq_pure_bind, Sem.run_bind]
      erw [r1]
      simp only [Result.andThen_ok, Sem.run_pure]
    · cases h
  cases e1 with
  | exit id => cases h
  | normal => exact fin h
  | ret => exact fin h

/-- The translated functions are the program's. -/
def EnvOk (P : Program) (env : Env) : Prop := ∀ i fn, env.fn i = some fn → ∃ f, P.funcs[i]? = some f ∧ compFn P f = some fn ∧ f.name ≠ "runtime.NumGoroutine"
theorem run_sound {env : Env} (he : EnvOk P env) (hm : P.follows .mixedOrders = true) : ∀ n, CallOk P w0 (run env n)
  | 0 => ⟨run_ast env 0, fun g args σ v σ' h => by simp [run] at h⟩
  | n + 1 => ⟨run_ast env (n + 1), fun g args σ v σ' h => by
    cases g with
    | func f =>
      simp only [run, Option.bind_eq_some_iff] at h
      obtain ⟨fn, hfn, h⟩ := h
      obtain ⟨f', h1, h2, h3⟩ := he f fn hfn
      have hb : f'.body.isSome = true := by
        simp only [compFn, Option.bind_eq_some_iff] at h2
        obtain ⟨rs, _, c, hc, _⟩ := h2
        rw [hc]; rfl
      exact ⟨f, rfl, ⟨f', h1, h3, hb⟩, fun X w rargs S hh hl hr => body_sound (run_sound he hm n) hm h1 h2 h S hh hl hr⟩
    | _ => simp [run] at h⟩
/-- A call without arguments that is run to its end. -/
theorem run_closed {env : Env} (he : EnvOk P env) (hm : P.follows .mixedOrders = true) {n f : Nat} {b : Bool} {σ' : St} (h : run env n (.func f) [] ⟨[], 0, [], []⟩ = some (.bool b, σ')) (w : World) :
    Calls P f #[] w fun e w' => e = .returned (.bool b) ∧ Below w.heap.size w w' := by
  obtain ⟨f', e, _, hc⟩ := (run_sound (w0 := w) he hm n).2 _ _ _ _ _ h
  cases e
  have S : Sim w (fun _ => none) ⟨[], 0, [], []⟩ w := ⟨Below.refl _ _, fun id bx h => by (cases h), fun id bx h => by (cases h), fun id bx g pl cs h => by (cases h), fun i j bi bj h => by (cases h), fun id bx h => by (cases h), fun id bx h => by (cases h)⟩
  refine (hc _ w #[] S (by simp) (by simp) rel2.nil).mono fun e w' ⟨u, X', h1, h2, h3, h4⟩ => ?_
  rw [relV_bool h2] at h1
  exact ⟨h1, h3.bel⟩
def isTrue : Option (Value × St) → Bool
  | some (.bool true, _) => true
  | _ => false
theorem isTrue_eq {r : Option (Value × St)} (h : isTrue r = true) : ∃ σ', r = some (.bool true, σ') := by
  unfold isTrue at h
  split at h
  · exact ⟨_, rfl⟩
  · cases h
/-- A call without arguments that answers true, as the kernel finds by running it. -/
theorem closed_true {env : Env} (he : EnvOk P env) (hm : P.follows .mixedOrders = true) {n f : Nat} (h : isTrue (run env n (.func f) [] ⟨[], 0, [], []⟩) = true) (w : World) :
    Calls P f #[] w fun e w' => e = .returned (.bool true) ∧ Below w.heap.size w w' := by
  obtain ⟨σ', h'⟩ := isTrue_eq h
  exact run_closed he hm h' w
end
end AM
end Go.Proofs.Ytfefeikkjebfoaa
