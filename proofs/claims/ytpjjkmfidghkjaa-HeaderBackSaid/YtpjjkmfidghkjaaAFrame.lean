/-
  THE ABSTRACT MACHINE's OPERATIONS TOGETHER: whatever a translated operation does in the abstract, the program's operation does. Conditions: the calls are sound.
  COLLECTING: blocks that nobody can see any more are left out of the state; it goes on standing for the world. Conditions: what is not marked as written holds no new references.
  THE ABSTRACT MACHINE's FRAMES, and the regions whose order is fixed. Conditions: the calls are sound.
-/
import Derived.Test.YtpjjkmfidghkjaaAMem5
import Derived.Test.YtpjjkmfidghkjaaAPure3
import Derived.Test.YtpjjkmfidghkjaaMonoF
set_option linter.all false
section
namespace Go.Proofs.Ytpjjkmfidghkjaa
namespace AM
open Go Go.RowKit

/-- A function that can be entered. -/
def Enters (P : Program) (f : FuncId) : Prop := ∃ fn, P.funcs[f]? = some fn ∧ fn.name ≠ "runtime.NumGoroutine" ∧ fn.body.isSome = true
/-- What a step can't undo. -/
def Stable (Yp : Emb → World → Prop) : Prop := ∀ (X : Emb) (σ : St) (w : World) (X' : Emb) (w' : World), Yp X w → Stp X σ w X' w' → Yp X' w'
def AnyY : Emb → World → Prop := fun _ _ => True
theorem anyY_stable : Stable AnyY := fun _ _ _ _ _ _ _ => trivial
def Ends (w0 : World) (X : Emb) (σ : St) (w : World) (v : Value) (σ' : St) : Ending → World → Prop := fun e w' => ∃ u X', e = .returned u ∧ relV X' v u ∧ Sim w0 X' σ' w' ∧ Stp X σ w X' w'
/-- The calls are sound; and those of yield, where Yp holds. -/
structure CallOk (P : Program) (w0 : World) (Yp : Emb → World → Prop) (callf : CallF) : Prop where
  ast : CallAst callf
  stab : Stable Yp
  call : ∀ g args σ v σ', callf g args σ = some (v, σ') → (∃ f, g = .func f ∧ Enters P f ∧
      ∀ X w (rargs : Array Value), Sim w0 X σ w → (∀ t ∈ σ.hid, t < σ.heap.length) → σ.lock ≤ σ.heap.length → rel2 (relV X) args rargs.toList → Calls P f rargs w fun e w' => ∃ u X', e = .returned u ∧ relV X' v u ∧ Sim w0 X' σ' w' ∧ Stp X σ w X' w') ∨
    (∃ k, g = .yield k ∧ ∀ X w (rargs : Array Value), Yp X w → Sim w0 X σ w → (∀ t ∈ σ.hid, t < σ.heap.length) → σ.lock ≤ σ.heap.length → rel2 (relV X) args rargs.toList →
      ∃ fn tmps assign body, (Instr.yield X.y rargs).run P w = .ok (.round X.y fn tmps assign body) w ∧ RoundIn Fence.wide 0 P X.y fn tmps assign body w (Ends w0 X σ w v σ'))
theorem CallOk.noYield {P : Program} {w0 : World} {Yp : Emb → World → Prop} {callf : CallF} (h : CallOk P w0 Yp callf) : CallOk P w0 AnyY (AM.noYield callf) :=
  ⟨noYield_ast h.ast, anyY_stable, fun g args σ v σ' hg => by
    cases g with
    | func f =>
      rcases h.call (.func f) args σ v σ' hg with h1 | ⟨k, h1, _⟩
      · exact .inl h1
      · cases h1
    | _ => simp [AM.noYield, withYield] at hg⟩

section
variable {P : Program} {X : Emb} {fr : Fr} {a : Act} {o : Oper} {v : Value} {w0 w : World} {σ σ' : St}

def After (w0 : World) (X : Emb) (σ : St) (w : World) (v : Value) (σ' : St) (u : Value) (w' : World) : Prop := ∃ X', relV X' v u ∧ Sim w0 X' σ' w' ∧ Stp X σ w X' w'
def Runs (P : Program) (w0 : World) (o : Oper) (a : Act) (X : Emb) (σ : St) (w : World) (v : Value) (σ' : St) : Prop := Mono.gives P o a w (After w0 X σ w v σ')
theorem Does.runs (h : Does P w0 o a X σ w v σ') : Runs P w0 o a X σ w v σ' := by
  obtain ⟨_, n, u, w', X', h2, h3, h4⟩ := h
  unfold Runs Mono.gives
  rw [h2]
  rcases h3 with rfl | ⟨rfl, rfl⟩ <;> exact ⟨X', h4⟩
theorem pure_runs {p : AOp} (S : Sim w0 X σ w) (h : (pval p fr).map (fun v => (v, σ)) = some (v, σ')) (g : ∀ v, pval p fr = some v → Gives P o a w X v) : Runs P w0 o a X σ w v σ' := by
  simp only [Option.map_eq_some_iff] at h
  obtain ⟨u, hu, h⟩ := h
  cases h
  exact (Gives.does S (g _ hu)).runs

theorem run_callFunc {f : FuncId} (h : Enters P f) (args : Array Value) (w : World) : (callFunc f args).run P w = .ok (.enter f args) w := by
  obtain ⟨fn, h1, h2, h3⟩ := h
  have h4 : fn.body ≠ none := by
    intro hb
    rw [hb] at h3; cases h3
  simp [callFunc, h1, h2, h4]
theorem call_runs {callf : CallF} {Yp : Emb → World → Prop} {c : Call} {f : FuncId} (hcf : CallOk P w0 Yp callf) (ho : o.op = .call c) (hc : c.callee = .value (.func f)) (S : Sim w0 X σ w) (hh : ∀ t ∈ σ.hid, t < σ.heap.length) (hlk : σ.lock ≤ σ.heap.length) (hx : ∀ x ∈ c.args.toList, ∀ v, ev fr x = some v → relV X v (a.eval x))
    (h : aop callf (.call f c.args.toList) fr σ = some (v, σ')) : Runs P w0 o a X σ w v σ' := by
  simp only [aop, Option.bind_eq_some_iff] at h
  obtain ⟨vs, hvs, h⟩ := h
  obtain ⟨f', e, hen, hcall⟩ := (hcf.call _ _ _ _ _ h).resolve_right (fun ⟨k, e, _⟩ => by cases e)
  cases e
  have hr := evs_rel hx hvs
  have hrun : (execOp a.eval o).run P w = .ok (.enter f (c.args.map a.eval)) w := by
    have he : a.eval (.func f) = .func (.func f) #[] #[] := rfl
    simp only [execOp, ho, resolve, hc, he, Deferred.ofValue, Sem.run_bind, Sem.run_pure, Result.andThen_ok, invoke, Array.append_empty, Array.empty_append, run_callFunc hen]
  unfold Runs Mono.gives
  rw [hrun]
  exact (hcall X w _ S hh hlk (by simpa using hr)).mono fun e w' ⟨u, X', h1, h2⟩ => ⟨u, h1, X', h2⟩
theorem callv_runs {callf : CallF} {Yp : Emb → World → Prop} {c : Call} {x : Operand} (hcf : CallOk P w0 Yp callf) (hY : Yp X w) (ho : o.op = .call c) (hc : c.callee = .value x) (S : Sim w0 X σ w) (hh : ∀ t ∈ σ.hid, t < σ.heap.length) (hlk : σ.lock ≤ σ.heap.length) (hx0 : ∀ v, ev fr x = some v → relV X v (a.eval x)) (hx : ∀ x ∈ c.args.toList, ∀ v, ev fr x = some v → relV X v (a.eval x))
    (h : aop callf (.callv x c.args.toList) fr σ = some (v, σ')) : Runs P w0 o a X σ w v σ' := by
  simp only [aop, Option.bind_eq_some_iff] at h
  obtain ⟨q, hq, vs, hvs, h⟩ := h
  split at h
  · rename_i g fi ca
    split at h
    · cases h
    rename_i hny
    have hr := evs_rel hx hvs
    obtain ⟨rf, rc, e1, r1, r2⟩ := relV_func (hx0 _ hq)
    obtain ⟨f', rfl, hen, hcall⟩ | ⟨k, rfl, hcall⟩ := hcf.call _ _ _ _ _ h
    case inr =>
      have hce : ca = #[] := by
        simp only [yieldy, Bool.true_and, Bool.not_eq_true'] at hny
        simpa using hny
      subst hce
      have r1' := r1.mono fun _ _ _ h => relV_of_relC h
      obtain ⟨fn, tmps, assign, body, hy1, hy2⟩ := hcall X w (rf ++ c.args.map a.eval) hY S hh hlk (by simpa using r1'.append hr)
      have hrun : (execOp a.eval o).run P w = .ok (.round X.y fn tmps assign body) w := by
        simp only [execOp, ho, resolve, hc, e1, Emb.name, Deferred.ofValue, Sem.run_bind, Sem.run_pure, Result.andThen_ok, invoke, hy1]
      unfold Runs Mono.gives
      rw [hrun]
      exact hy2.mono fun e w' ⟨u, X', h1, h2⟩ => ⟨u, h1, X', h2⟩
    have hrun : (execOp a.eval o).run P w = .ok (.enter f' (rf ++ c.args.map a.eval ++ rc)) w := by
      simp only [execOp, ho, resolve, hc, e1, Emb.name, Deferred.ofValue, Sem.run_bind, Sem.run_pure, Result.andThen_ok, invoke, run_callFunc hen]
    unfold Runs Mono.gives
    rw [hrun]
    refine (hcall X w _ S hh hlk ?_).mono fun e w' ⟨u, X', h1, h2⟩ => ⟨u, h1, X', h2⟩
    have r1' := r1.mono fun _ _ _ h => relV_of_relC h
    have r2' := r2.mono fun _ _ _ h => relV_of_relC h
    simpa using (r1'.append hr).append r2'
  · cases h

theorem fs_get {α : Type} {x : Option α} {f : α → Option AOp} {p : AOp} (h : x.bind f = some p) : ∃ y, x = some y ∧ f y = some p := Option.bind_eq_some_iff.1 h

set_option maxHeartbeats 1000000 in
theorem aop_runs {callf : CallF} {Yp : Emb → World → Prop} {ao : AOp} (hcf : CallOk P w0 Yp callf) (hY : Yp X w) (hc : compOp P o.op = some ao) (S : Sim w0 X σ w) (hh : ∀ t ∈ σ.hid, t < σ.heap.length) (hlk : σ.lock ≤ σ.heap.length) (hx : ∀ x ∈ o.op.operands.toList, ∀ v, ev fr x = some v → relV X v (a.eval x)) (h : aop callf ao fr σ = some (v, σ')) : Runs P w0 o a X σ w v σ' := by
  cases hop : o.op with
  | move x =>
    rw [hop] at hc hx
    simp only [compOp, Option.some.injEq] at hc
    subst hc
    exact pure_runs S h fun v hv => mv_gives (.inl hop) (hx x (by simp [Op.operands])) hv w
  | assign x =>
    rw [hop] at hc hx
    simp only [compOp, Option.some.injEq] at hc
    subst hc
    exact pure_runs S h fun v hv => mv_gives (.inr hop) (hx x (by simp [Op.operands])) hv w
  | pick c x y =>
    rw [hop] at hc hx
    simp only [compOp, Option.some.injEq] at hc
    subst hc
    exact pure_runs S h fun v hv => pick_gives hop (hx c (by simp [Op.operands])) (hx x (by simp [Op.operands])) (hx y (by simp [Op.operands])) hv w
  | alloc e =>
    rw [hop] at hc
    simp only [compOp, Option.map_eq_some_iff] at hc
    obtain ⟨zs, hz, rfl⟩ := hc
    exact (alloc_does hop hz S h).runs
  | box e x =>
    rw [hop] at hc hx
    simp only [compOp, Option.some.injEq] at hc
    subst hc
    exact (box_does hop S (hx x (by simp [Op.operands])) h).runs
  | build t ps =>
    rw [hop] at hc hx
    simp only [compOp, Option.bind_eq_some_iff, Option.map_eq_some_iff] at hc
    obtain ⟨zs, hz, pl, hpl, ps', hps, rfl⟩ := hc
    exact pure_runs S h fun v hv => build_gives hop hz hpl hps (fun q hq => hx q.2 (by simp only [Op.operands, List.mem_map]; exact ⟨q, hq, rfl⟩)) hv w
  | buildSlice t n ps =>
    rw [hop] at hc hx
    simp only [compOp, Option.bind_eq_some_iff] at hc
    obtain ⟨e, he, s, hs, zs, hz, hc⟩ := hc
    split at hc
    · rename_i hk
      simp only [Bool.and_eq_true, decide_eq_true_eq] at hk
      simp only [Option.map_eq_some_iff] at hc
      obtain ⟨ps', hps, rfl⟩ := hc
      exact (bslice_does hop he hs hz hk.1 hk.2 hps S (fun q hq => hx q.2 (by simp only [Op.operands, List.mem_map]; exact ⟨q, hq, rfl⟩)) h).runs
    · cases hc
  | load t x =>
    rw [hop] at hc hx
    simp only [compOp, Option.map_eq_some_iff] at hc
    obtain ⟨n, hn, rfl⟩ := hc
    exact (load_does hop hn S (hx x (by simp [Op.operands])) h).runs
  | store t x y =>
    rw [hop] at hc hx
    simp only [compOp, Option.map_eq_some_iff] at hc
    obtain ⟨n, hn, rfl⟩ := hc
    exact (store_does hop hn S (hx x (by simp [Op.operands])) (hx y (by simp [Op.operands])) h).runs
  | nilCheck x =>
    rw [hop] at hc hx
    simp only [compOp, Option.some.injEq] at hc
    subst hc
    exact pure_runs S h fun v hv => nilck_gives hop (hx x (by simp [Op.operands])) hv w
  | binOp op t x y yt =>
    rw [hop] at hc hx
    have h1 := hx x (by simp [Op.operands])
    have h2 := hx y (by simp [Op.operands])
    simp only [compOp] at hc
    split at hc
    · cases hc; exact pure_runs S h fun v hv => bin_gives hop h1 h2 hv w
    · cases hc; exact pure_runs S h fun v hv => bin_gives hop h1 h2 hv w
    · split at hc
      · simp only [Option.map_eq_some_iff] at hc
        obtain ⟨sh, hsh, rfl⟩ := hc
        exact pure_runs S h fun v hv => eqs_gives hop (.inl ⟨rfl, rfl⟩) hsh h1 h2 hv w
      · simp only [Option.map_eq_some_iff] at hc
        obtain ⟨sh, hsh, rfl⟩ := hc
        exact pure_runs S h fun v hv => eqs_gives hop (.inr ⟨rfl, rfl⟩) hsh h1 h2 hv w
      · cases hc
  | unOp op t x =>
    rw [hop] at hc hx
    simp only [compOp, Option.some.injEq] at hc
    subst hc
    exact pure_runs S h fun v hv => un_gives hop (hx x (by simp [Op.operands])) hv w
  | convert s d x =>
    rw [hop] at hc hx
    have h1 := hx x (by simp [Op.operands])
    simp only [compOp] at hc
    split at hc
    · rename_i hs hd; cases hc; exact pure_runs S h fun v hv => conv_gives hop hs hd h1 hv w
    · rename_i hs hd
      split at hc
      · rename_i he; cases hc; exact (strb_does hop hs hd he S h1 h).runs
      · cases hc
    · rename_i hs hd
      split at hc
      · rename_i he; cases hc; exact (bstr_does hop hs hd he S h1 h).runs
      · cases hc
    · rename_i hs hd
      split at hc
      · rename_i he
        simp only [Bool.and_eq_true] at he
        cases hc; exact (mark_does hop hs hd he.1 he.2 S h1 h).runs
      · cases hc
    · cases hc
  | makeFunc g fi ca =>
    rw [hop] at hc hx
    cases g <;> simp only [compOp, reduceCtorEq, Option.some.injEq] at hc
    subst hc
    exact pure_runs S h fun v hv => mkfn_gives hop (fun x hx' => hx x (by simp only [Op.operands, Array.toList_append, List.mem_append]; exact .inl hx')) (fun x hx' => hx x (by simp only [Op.operands, Array.toList_append, List.mem_append]; exact .inr hx')) hv w
  | makeSlice t l c =>
    rw [hop] at hc hx
    simp only [compOp, Option.bind_eq_some_iff] at hc
    obtain ⟨e, he, s, hs, zs, hz, hc⟩ := hc
    split at hc
    · rename_i hk
      simp only [Bool.and_eq_true, decide_eq_true_eq] at hk
      cases hc
      exact (mkslice_does hop he hs hz hk.1 hk.2 S (hx l (by simp [Op.operands])) (hx c (by simp [Op.operands])) h).runs
    · cases hc
  | slice t x lo hi mx =>
    rw [hop] at hc hx
    have h1 := hx x (by simp [Op.operands])
    have h2 : ∀ y, lo = some y → ∀ v, ev fr y = some v → relV X v (a.eval y) := fun y e => hx y (by subst e; simp [Op.operands])
    have h3 : ∀ y, hi = some y → ∀ v, ev fr y = some v → relV X v (a.eval y) := fun y e => hx y (by subst e; simp [Op.operands])
    have h4 : ∀ y, mx = some y → ∀ v, ev fr y = some v → relV X v (a.eval y) := fun y e => hx y (by subst e; simp [Op.operands])
    simp only [compOp] at hc
    split at hc
    · rename_i e ht
      simp only [Option.bind_eq_some_iff] at hc
      obtain ⟨s, hs, hc⟩ := hc
      split at hc
      · rename_i h0; cases hc; exact pure_runs S h fun v hv => slice_gives hop ht hs h0 h1 h2 h3 h4 hv w
      · cases hc
    · rename_i ht
      split at hc
      · rename_i hm
        cases hc
        obtain rfl : mx = none := by cases mx <;> simp at hm; rfl
        exact pure_runs S h fun v hv => slices_gives hop ht h1 h2 h3 hv w
      · cases hc
    · rename_i n e ht
      simp only [Option.bind_eq_some_iff] at hc
      obtain ⟨s, hs, hc⟩ := hc
      split at hc
      · rename_i h0
        simp only [Bool.and_eq_true, decide_eq_true_eq] at h0
        cases hc
        exact pure_runs S h fun v hv => slicea_gives hop ht hs h0.2 h1 h2 h3 h4 hv w
      · cases hc
    · cases hc
  | fieldAddr t x f =>
    rw [hop] at hc hx
    simp only [compOp] at hc
    split at hc
    · rename_i fs ht
      simp only [Option.bind_eq_some_iff] at hc
      obtain ⟨fd, hf, s, hs, hc⟩ := hc
      split at hc
      · rename_i h0; cases hc; exact pure_runs S h fun v hv => faddr_gives hop ht hf hs h0 (hx x (by simp [Op.operands])) hv w
      · cases hc
    · cases hc
  | field t x f =>
    rw [hop] at hc hx
    simp only [compOp] at hc
    split at hc
    · rename_i fs ht
      simp only [Option.bind_eq_some_iff, Option.map_eq_some_iff] at hc
      obtain ⟨fd, hf, n, hn, rfl⟩ := hc
      exact pure_runs S h fun v hv => field_gives hop ht hf hn (hx x (by simp [Op.operands])) hv w
    · cases hc
  | indexAddr t x i =>
    rw [hop] at hc hx
    have h1 := hx x (by simp [Op.operands])
    have h2 := hx i (by simp [Op.operands])
    simp only [compOp] at hc
    split at hc
    · rename_i e ht
      simp only [Option.bind_eq_some_iff] at hc
      obtain ⟨s, hs, hc⟩ := hc
      split at hc
      · cases hc; exact pure_runs S h fun v hv => iaddr_gives hop ht hs h1 h2 hv w
      · cases hc
    · rename_i n e ht
      simp only [Option.bind_eq_some_iff] at hc
      obtain ⟨s, hs, hc⟩ := hc
      split at hc
      · cases hc
        exact pure_runs S h fun v hv => iaddra_gives hop ht hs h1 h2 hv w
      · cases hc
    · cases hc
  | index t x i =>
    rw [hop] at hc hx
    have h1 := hx x (by simp [Op.operands])
    have h2 := hx i (by simp [Op.operands])
    simp only [compOp] at hc
    split at hc
    · rename_i n e ht
      simp only [Option.bind_eq_some_iff, Option.map_eq_some_iff] at hc
      obtain ⟨s, hs, m, hm, rfl⟩ := hc
      exact pure_runs S h fun v hv => idx_gives hop ht hs hm h1 h2 hv w
    · rename_i ht
      cases hc
      exact pure_runs S h fun v hv => idxs_gives hop ht h1 h2 hv w
    · cases hc
  | extract x i =>
    rw [hop] at hc hx
    simp only [compOp, Option.some.injEq] at hc
    subst hc
    exact pure_runs S h fun v hv => ext_gives hop (hx x (by simp [Op.operands])) hv w
  | call c =>
    rw [hop] at hc hx
    have harg : ∀ x ∈ c.args.toList, ∀ v, ev fr x = some v → relV X v (a.eval x) := fun x hx' => hx x (by simp only [Op.operands, Call.operands, Array.toList_append, List.mem_append]; exact .inr hx')
    simp only [compOp] at hc
    split at hc
    · rename_i f hcal
      cases hc
      exact call_runs hcf hop hcal S hh hlk harg h
    · rename_i x _ hcal
      split at hc
      · cases hc
        exact callv_runs hcf hY hop hcal S hh hlk (hx x (by simp [Op.operands, Call.operands, hcal])) harg h
      · cases hc
    · rename_i hcal
      split at hc
      · rename_i x y tx ty ha hta
        simp only [Option.bind_eq_some_iff] at hc
        obtain ⟨e, he, s, hs, zs, hz, hc⟩ := hc
        have h1 := harg x (by rw [ha]; simp)
        have h2 := harg y (by rw [ha]; simp)
        split at hc
        · rename_i q hu
          split at hc
          · rename_i hk
            simp only [Bool.and_eq_true, decide_eq_true_eq] at hk
            cases hc
            exact (append_does hop hcal ha hta (elemTy_eq he) hu (by simp) hs hz hk.1 hk.2 S h1 h2 h).runs
          · cases hc
        · rename_i hu
          split at hc
          · rename_i hk
            simp only [Bool.and_eq_true, decide_eq_true_eq] at hk
            cases hc
            exact (append_does hop hcal ha hta (elemTy_eq he) hu (by simp) hs hz hk.1 hk.2 S h1 h2 h).runs
          · cases hc
        · rename_i hu
          split at hc
          · rename_i hk
            simp only [Bool.and_eq_true] at hk
            split at hc
            · cases hc
              exact (appendz_does hop hcal ha hta (elemTy_eq he) hu hk.1 hz rfl hk.2 S h1 h2 h).runs
            · cases hc
          · cases hc
        · cases hc
      · cases hc
    · rename_i hcal
      split at hc
      · rename_i x y tx ty ha hta
        simp only [Option.bind_eq_some_iff] at hc
        obtain ⟨e, he, s, hs, hc⟩ := hc
        have h1 := harg x (by rw [ha]; simp)
        have h2 := harg y (by rw [ha]; simp)
        split at hc
        · rename_i hk
          cases hc
          exact (copy_does hop hcal ha hta (elemTy_eq he) hs hk S h1 h2 h).runs
        · cases hc
      · cases hc
    · rename_i hcal
      split at hc
      · rename_i x tx ha hta
        simp only [Option.bind_eq_some_iff] at hc
        obtain ⟨e, he, s, hs, zs, hz, hc⟩ := hc
        have h1 := harg x (by rw [ha]; simp)
        split at hc
        · rename_i hk
          simp only [Bool.and_eq_true, decide_eq_true_eq] at hk
          cases hc
          exact (clear_does hop hcal ha hta (elemTy_eq he) hs hz hk.1 S h1 h).runs
        · cases hc
      · cases hc
    · rename_i hcal
      split at hc
      · rename_i x tx ha hta
        have h1 := harg x (by rw [ha]; simp)
        split at hc
        · rename_i e hu; cases hc; exact pure_runs S h fun v hv => len_gives hop hcal ha hta hu h1 hv w
        · rename_i hu; cases hc; exact pure_runs S h fun v hv => lens_gives hop hcal ha hta hu h1 hv w
        · rename_i n e hu; cases hc; exact pure_runs (p := .lena n) (fr := fr) S h fun v hv => lena_gives (fr := fr) hop hcal ha hta hu hv w
        · cases hc
      · cases hc
    · rename_i hcal
      split at hc
      · rename_i x tx ha hta
        have h1 := harg x (by rw [ha]; simp)
        split at hc
        · rename_i e hu; cases hc; exact pure_runs S h fun v hv => cap_gives hop hcal ha hta hu h1 hv w
        · cases hc
      · cases hc
    · rename_i hcal; cases hc; exact pure_runs S h fun v hv => mm_gives (mx := false) hop hcal harg hv w
    · rename_i hcal; cases hc; exact pure_runs S h fun v hv => mm_gives (mx := true) hop hcal harg hv w
    · cases hc
  | makeInterface _ _ =>
    rw [hop] at hc
    simp only [compOp, Option.some.injEq] at hc
    subst hc
    simp [aop, failK] at h
  | panic _ =>
    rw [hop] at hc
    simp only [compOp, Option.some.injEq] at hc
    subst hc
    simp [aop, failK] at h
  | _ => rw [hop] at hc; simp [compOp] at hc
end
end AM
end Go.Proofs.Ytpjjkmfidghkjaa
end
section
namespace Go.Proofs.Ytpjjkmfidghkjaa
namespace AM
open Go Go.RowKit

theorem nodupB_iff : ∀ {l : List Nat}, nodupB l = true → l.Nodup
  | [], _ => List.nodup_nil
  | r :: l, h => by
    simp only [nodupB, Bool.and_eq_true, Bool.not_eq_true', List.contains_eq_mem, decide_eq_false_iff_not] at h
    exact List.nodup_cons.2 ⟨h.1, nodupB_iff h.2⟩
theorem renAll_length (f : Nat → Nat) : ∀ (l : List Nat) (h : List Blk), (renAll f l h).length = h.length
  | [], _ => rfl
  | t :: l, h => by rw [renAll, renAll_length]; simp
theorem renAll_not (f : Nat → Nat) : ∀ (l : List Nat) (h : List Blk) (i : Nat), i ∉ l → (renAll f l h)[i]? = h[i]?
  | [], _, _, _ => rfl
  | t :: l, h, i, hi => by
    simp only [List.mem_cons, not_or] at hi
    rw [renAll, renAll_not f l _ i hi.2, List.getElem?_modify]
    have : ¬ t = i := fun e => hi.1 e.symm
    simp [this]
theorem renAll_mem (f : Nat → Nat) : ∀ (l : List Nat) (h : List Blk) (i : Nat), l.Nodup → i ∈ l → (renAll f l h)[i]? = h[i]?.map (renB f)
  | [], _, _, _, hi => by cases hi
  | t :: l, h, i, hn, hi => by
    obtain ⟨h1, h2⟩ := List.nodup_cons.1 hn
    rcases List.mem_cons.1 hi with rfl | hi
    · rw [renAll, renAll_not f l _ i h1, List.getElem?_modify]
      simp
    · rw [renAll, renAll_mem f l _ i h2 hi, List.getElem?_modify]
      have : ¬ t = i := fun e => h1 (by rw [e]; exact hi)
      simp [this]

section
variable {X : Emb} {base : Nat} {keep : List Nat}
def renF' (base : Nat) (keep : List Nat) (id : Nat) : Nat := if id < base then id else base + keep.idxOf id
def renX (X : Emb) (base : Nat) (keep : List Nat) : Emb := ⟨fun id => if id < base then X id else (keep[id - base]?).bind X, X.y⟩
theorem renX_at (X : Emb) (base : Nat) (keep : List Nat) (id : Nat) : renX X base keep id = if id < base then X id else (keep[id - base]?).bind X := rfl
def okR (base : Nat) (keep : List Nat) (r : Nat) : Prop := r < base ∨ r ∈ keep
theorem renX_ok {r : Nat} (h : okR base keep r) : renX X base keep (renF' base keep r) = X r := by
  rw [renX_at]; unfold renF'
  by_cases hr : r < base
  · simp [hr]
  · have hk := h.resolve_left hr
    have hi := List.idxOf_lt_length_of_mem hk
    rw [if_neg hr, if_neg (by omega), Nat.add_sub_cancel_left, List.getElem?_eq_getElem hi]
    simp
theorem renC_sc {f : Nat → Nat} {v : Value} (h : sc v = true) : renC f v = v := by
  unfold renC
  split <;> first | rfl | simp [sc] at h
theorem relC_ren {v u : Value} (h : relC X v u) (ho : ∀ r ∈ refsC v, okR base keep r) : relC (renX X base keep) (renC (renF' base keep) v) u := by
  unfold relC at h
  split at h
  · rename_i a
    obtain ⟨ra, h1, bx, h2, h3⟩ := h
    exact ⟨ra, h1, bx, (renX_ok (ho a.block (by simp [refsC]))).trans h2, h3⟩
  · rename_i a n e
    obtain ⟨ra, c, h1, h2, h3, bx, h4, h5⟩ := h
    exact ⟨ra, c, h1, h2, h3, bx, (renX_ok (ho a.block (by simp [refsC]))).trans h4, h5⟩
  · obtain ⟨h1, rfl⟩ := h
    rw [renC_sc h1]
    exact (relC_sc h1).2 rfl
theorem rel2_ren {l m : List Value} (h : rel2 (relC X) l m) (ho : ∀ r ∈ l.flatMap refsC, okR base keep r) : rel2 (relC (renX X base keep)) (l.map (renC (renF' base keep))) m :=
  ⟨by simp [h.1], fun i v u hv hu => by
    rw [List.getElem?_map, Option.map_eq_some_iff] at hv
    obtain ⟨q, hq, rfl⟩ := hv
    exact relC_ren (h.2 i q u hq hu) fun r hr => ho r (List.mem_flatMap.2 ⟨q, List.mem_of_getElem? hq, hr⟩)⟩
theorem relF_ren {v u : Value} (h : relF X v u) (ho : ∀ r ∈ refsF v, okR base keep r) : relF (renX X base keep) (renF (renF' base keep) v) u := by
  cases v <;> simp only [relF] at h <;> first
    | (have hr := relC_ren h ho
       exact relF_of_relC hr)
    | (obtain ⟨rs, rfl, h2⟩ := h; exact ⟨rs, rfl, rel2_ren h2 ho⟩)
    | (obtain ⟨rf, rc, rfl, h2, h3⟩ := h
       exact ⟨rf, rc, rfl, rel2_ren h2 (fun r hr => ho r (List.mem_append.2 (.inl hr))), rel2_ren h3 (fun r hr => ho r (List.mem_append.2 (.inr hr)))⟩)
theorem relV_ren {v u : Value} (h : relV X v u) (ho : ∀ r ∈ refs v, okR base keep r) : relV (renX X base keep) (ren (renF' base keep) v) u := by
  cases v <;> simp only [relV] at h <;> first
    | (have hr := relF_ren h ho
       exact relV_of_relF hr)
    | (obtain ⟨rs, rfl, h2⟩ := h
       refine ⟨rs, rfl, by simpa using h2.1, fun i q u hq hu => ?_⟩
       rw [List.getElem?_map, Option.map_eq_some_iff] at hq
       obtain ⟨p, hp, rfl⟩ := hq
       exact relF_ren (h2.2 i p u hp hu) fun r hr => ho r (List.mem_flatMap.2 ⟨p, List.mem_of_getElem? hp, hr⟩))
/-- What refers only to old blocks stays as it is. -/
theorem relC_old {v u : Value} (h : relC X v u) (ho : ∀ r ∈ refsC v, r < base) : relC (renX X base keep) v u := by
  have h1 := relC_ren (keep := keep) h fun r hr => .inl (ho r hr)
  have : renC (renF' base keep) v = v := by
    unfold renC
    split
    · rename_i a; simp [renF', ho a.block (by simp [refsC])]
    · rename_i a n e; simp [renF', ho a.block (by simp [refsC])]
    · rename_i r; simp [renF', ho r (by simp [refsC])]
    · rfl
  rwa [this] at h1
end

/-- What collecting leaves. -/
structure Gcd (w0 : World) (base : Nat) (X : Emb) (σ : St) (w : World) (vs vs' : List Value) (σ' : St) (X' : Emb) : Prop where
  y : X'.y = X.y
  sim : Sim w0 X' σ' w
  low : ∀ id, id < base → X' id = X id
  high : ∀ id bx, base ≤ id → X' id = some bx → ∃ id0, base ≤ id0 ∧ X id0 = some bx
  vals : vs'.length = vs.length ∧ ∀ (i : Nat) (v v' u : Value), vs[i]? = some v → vs'[i]? = some v' → relV X v u → relV X' v' u
  lock : σ'.lock = σ.lock
  hid : σ'.hid = σ.hid
  len : base ≤ σ.heap.length → base ≤ σ'.heap.length
  dirty : ∀ t, t < base → (t ∈ σ'.dirty ↔ t ∈ σ.dirty)
  dlow : ∀ t, t ∈ σ'.dirty → t ∈ σ.dirty
  keep : ∀ id, id < base → id ∉ σ.dirty → σ'.heap[id]? = σ.heap[id]?

theorem gc_sound {w0 w : World} {X : Emb} {σ σ' : St} {base : Nat} {vs vs' : List Value} (S : Sim w0 X σ w) (hh : ∀ t ∈ σ.hid, t < base) (hlk : σ.lock ≤ base) (hD : ∀ id bx, id < base → X id = some bx → id ∉ σ.hid → id ∉ σ.dirty → ∀ r ∈ refsAt σ.heap id, r < base)
    (h : gc base vs σ = some (vs', σ')) : ∃ X', Gcd w0 base X σ w vs vs' σ' X' := by
  have key : ∀ keep : List Nat, base < σ.heap.length → keep.Nodup → (∀ r ∈ keep, base ≤ r ∧ r < σ.heap.length ∧ ∀ q ∈ refsAt σ.heap r, okR base keep q) → (σ.dirty.filter (· < base)).Nodup → (∀ t ∈ σ.dirty.filter (· < base), ∀ q ∈ refsAt σ.heap t, okR base keep q) →
      ∀ h' : List Blk, (∀ i, i < base → h'[i]? = if i ∈ σ.dirty then (σ.heap[i]?).map (renB (renF' base keep)) else σ.heap[i]?) → (∀ i, base ≤ i → h'[i]? = (keep[i - base]?).map fun r => renB (renF' base keep) (σ.heap.getD r default)) →
      Sim w0 (renX X base keep) { σ with heap := h', dirty := σ.dirty.filter (· < base) } w := by
    intro keep hlt hnd hk hnd2 hok h' hlow hhigh
    have hX : ∀ id bx, renX X base keep id = some bx → (id < base ∧ X id = some bx) ∨ (base ≤ id ∧ ∃ r, keep[id - base]? = some r ∧ X r = some bx) := by
      intro id bx hx
      rw [renX_at] at hx
      split at hx
      · rename_i hi; exact .inl ⟨hi, hx⟩
      · rename_i hi
        simp only [Option.bind_eq_some_iff] at hx
        obtain ⟨r, h1, h2⟩ := hx
        exact .inr ⟨by omega, r, h1, h2⟩
    refine ⟨S.bel, ?_, ?_, ?_, ?_, ?_, fun id bx hx => by
      rcases hX id bx hx with ⟨_, hx⟩ | ⟨_, r, _, hx⟩
      · exact S.zero id bx hx
      · exact S.zero r bx hx⟩
    · intro id bx hx
      rcases Nat.lt_or_ge id h'.length with h1 | h1
      · exact h1
      · exfalso
        have hn := List.getElem?_eq_none h1
        rcases hX id bx hx with ⟨hi, hx⟩ | ⟨hi, r, hr, hx⟩
        · rw [hlow id hi, List.getElem?_eq_getElem (S.dom id bx hx)] at hn
          split at hn <;> simp at hn
        · rw [hhigh id hi, hr] at hn; simp at hn
    · intro id bx hx
      rcases hX id bx hx with ⟨hi, hx⟩ | ⟨hi, r, hr, hx⟩
      · exact S.place id bx hx
      · exact S.place r bx hx
    · intro id bx g pl cs hx hhid hc
      simp only at hhid hc
      rcases hX id bx hx with ⟨hi, hx⟩ | ⟨hi, r, hr, hx⟩
      · rw [hlow id hi] at hc
        by_cases hdt : id ∈ σ.dirty
        · rw [if_pos hdt, Option.map_eq_some_iff] at hc
          obtain ⟨b, hb, hbe⟩ := hc
          have hrefs := hok id (by simp [hdt, hi])
          cases b with
          | map es => simp [renB] at hbe
          | cells g0 pl0 cs0 =>
            obtain ⟨c1, c2, c3, c4, c5, c6⟩ := S.cell id bx g0 pl0 cs0 hx hhid hb
            cases pl0 with
            | true =>
              simp only [renB, Blk.cells.injEq] at hbe
              obtain ⟨rfl, rfl, rfl⟩ := hbe
              refine ⟨c1, c2, c3, c4, fun j v hv => ?_, c6⟩
              obtain ⟨u, hu, hr⟩ := c5 j v hv
              have hs := List.all_eq_true.1 (c4 rfl) v (List.mem_of_getElem? hv)
              exact ⟨u, hu, (relC_sc hs).2 ((relC_sc hs).1 hr)⟩
            | false =>
              simp only [renB, Blk.cells.injEq] at hbe
              obtain ⟨rfl, rfl, rfl⟩ := hbe
              refine ⟨c1, by simpa using c2, by simpa using c3, fun e => by simp at e, fun j v hv => ?_, c6⟩
              rw [List.getElem?_map, Option.map_eq_some_iff] at hv
              obtain ⟨q, hq, rfl⟩ := hv
              obtain ⟨u, hu, hr⟩ := c5 j q hq
              refine ⟨u, hu, relC_ren hr fun r hr' => hrefs r ?_⟩
              simp only [refsAt, hb, refsB]
              exact List.mem_flatMap.2 ⟨q, List.mem_of_getElem? hq, hr'⟩
        · rw [if_neg hdt] at hc
          have hrefs := hD id bx hi hx hhid hdt
          obtain ⟨c1, c2, c3, c4, c5, c6⟩ := S.cell id bx g pl cs hx hhid hc
          refine ⟨c1, c2, c3, c4, fun j v hv => ?_, c6⟩
          obtain ⟨u, hu, hr⟩ := c5 j v hv
          refine ⟨u, hu, ?_⟩
          cases pl with
          | true =>
            have hs := List.all_eq_true.1 (c4 rfl) v (List.mem_of_getElem? hv)
            exact (relC_sc hs).2 ((relC_sc hs).1 hr)
          | false =>
            refine relC_old hr fun r hr' => hrefs r ?_
            simp only [refsAt, hc, refsB]
            exact List.mem_flatMap.2 ⟨v, List.mem_of_getElem? hv, hr'⟩
      · rw [hhigh id hi, hr] at hc
        simp only [Option.map_some, Option.some.injEq] at hc
        obtain ⟨k1, k2, k3⟩ := hk r (List.mem_of_getElem? hr)
        have hrh : r ∉ σ.hid := fun e => by have := hh r e; omega
        have hg : σ.heap[r]? = some (σ.heap.getD r default) := by
          rw [List.getElem?_eq_getElem k2]; simp [List.getElem?_eq_getElem k2]
        generalize σ.heap.getD r default = b at *
        cases b with
        | map es => simp [renB] at hc
        | cells g0 pl0 cs0 =>
          obtain ⟨c1, c2, c3, c4, c5, c6⟩ := S.cell r bx g0 pl0 cs0 hx hrh hg
          cases pl0 with
          | true =>
            simp only [renB, Blk.cells.injEq] at hc
            obtain ⟨rfl, rfl, rfl⟩ := hc
            refine ⟨c1, c2, c3, c4, fun j v hv => ?_, c6⟩
            obtain ⟨u, hu, hr⟩ := c5 j v hv
            have hs := List.all_eq_true.1 (c4 rfl) v (List.mem_of_getElem? hv)
            exact ⟨u, hu, (relC_sc hs).2 ((relC_sc hs).1 hr)⟩
          | false =>
            simp only [renB, Blk.cells.injEq] at hc
            obtain ⟨rfl, rfl, rfl⟩ := hc
            refine ⟨c1, by simpa using c2, by simpa using c3, fun e => by simp at e, fun j v hv => ?_, c6⟩
            rw [List.getElem?_map, Option.map_eq_some_iff] at hv
            obtain ⟨q, hq, rfl⟩ := hv
            obtain ⟨u, hu, hr⟩ := c5 j q hq
            refine ⟨u, hu, relC_ren hr fun r' hr' => k3 r' ?_⟩
            simp only [refsAt, hg, refsB]
            exact List.mem_flatMap.2 ⟨q, List.mem_of_getElem? hq, hr'⟩
    · intro i j bi bj hi hj oi oj e
      rcases hX i bi hi with ⟨hi', hi⟩ | ⟨hi', r, hr, hi⟩ <;> rcases hX j bj hj with ⟨hj', hj⟩ | ⟨hj', q, hq, hj⟩
      · exact S.inj i j bi bj hi hj oi oj e
      · have := S.inj i q bi bj hi hj oi oj e
        have := (hk q (List.mem_of_getElem? hq)).1
        omega
      · have := S.inj r j bi bj hi hj oi oj e
        have := (hk r (List.mem_of_getElem? hr)).1
        omega
      · have hrq := S.inj r q bi bj hi hj oi oj e
        subst hrq
        have h1 := (List.getElem?_eq_some_iff.1 hr)
        have h2 := (List.getElem?_eq_some_iff.1 hq)
        obtain ⟨l1, e1⟩ := h1
        obtain ⟨l2, e2⟩ := h2
        have := (List.getElem_inj hnd).1 (e1.trans e2.symm)
        omega
    · intro id bx hx hl
      rcases hX id bx hx with ⟨hi, hx⟩ | ⟨hi, r, hr, hx⟩
      · exact S.lock id bx hx hl
      · exact S.lock r bx hx (by have := (hk r (List.mem_of_getElem? hr)).1; simp only at hl; omega)
  unfold gc at h
  split at h
  · rename_i hle
    cases h
    exact ⟨X, rfl, S, fun _ _ => rfl, fun id bx hi hx => ⟨id, hi, hx⟩, ⟨rfl, fun i v v' u h1 h2 hr => by rw [h1] at h2; cases h2; exact hr⟩, rfl, rfl, fun h => h, fun t _ => Iff.rfl, fun t h => h, fun _ _ _ => rfl⟩
  · rename_i hgt
    simp only at h
    have fmem : ∀ (l : List Nat), l.filter (base ≤ ·) = [] → ∀ r ∈ l, r < base := fun l hl r hr => by
      rw [List.filter_eq_nil_iff] at hl
      have := hl r hr
      simp at this
      exact this
    split at h
    · rename_i hroots
      cases h
      have hro := fmem _ hroots
      have hdt : (σ.dirty.filter (· < base)).flatMap (refsAt σ.heap) = (σ.dirty.filter (· < base)).flatMap (refsAt σ.heap) := rfl
      -- the same state, through the general law with nothing kept: old blocks that were written hold old references only
      refine ⟨renX X base [], rfl, ?_, fun id hi => by simp [renX, hi], fun id bx hi hx => ?_, ⟨rfl, fun i v v' u h1 h2 hr => ?_⟩, rfl, rfl, fun _ => by simp; omega, fun t ht => by simp [ht], fun t h => by simp at h; exact h.1, fun id hi _ => by simp [hi]⟩
      · have hD' : ∀ id bx, id < base → X id = some bx → id ∉ σ.hid → ∀ r ∈ refsAt σ.heap id, r < base := fun id bx hi hx hn r hr => by
          by_cases hdt : id ∈ σ.dirty
          · exact hro r (List.mem_append.2 (.inr (List.mem_flatMap.2 ⟨id, by simp [hdt, hi], hr⟩)))
          · exact hD id bx hi hx hn hdt r hr
        have hX : ∀ id bx, renX X base [] id = some bx → id < base ∧ X id = some bx := fun id bx hx => by
          rw [renX_at] at hx
          split at hx
          · rename_i hi; exact ⟨hi, hx⟩
          · simp at hx
        refine ⟨S.bel, fun id bx hx => ?_, fun id bx hx => S.place id bx (hX id bx hx).2, fun id bx g pl cs hx hhid hc => ?_, fun i j bi bj hi hj => S.inj i j bi bj (hX i bi hi).2 (hX j bj hj).2, fun id bx hx => S.lock id bx (hX id bx hx).2, fun id bx hx => S.zero id bx (hX id bx hx).2⟩
        · have := (hX id bx hx).1; simp; omega
        · obtain ⟨hi, hx⟩ := hX id bx hx
          simp only [List.getElem?_take_of_lt hi] at hc
          obtain ⟨c1, c2, c3, c4, c5, c6⟩ := S.cell id bx g pl cs hx hhid hc
          refine ⟨c1, c2, c3, c4, fun j v hv => ?_, c6⟩
          obtain ⟨u, hu, hr⟩ := c5 j v hv
          refine ⟨u, hu, ?_⟩
          cases pl with
          | true =>
            have hs := List.all_eq_true.1 (c4 rfl) v (List.mem_of_getElem? hv)
            exact (relC_sc hs).2 ((relC_sc hs).1 hr)
          | false =>
            refine relC_old hr fun r hr' => hD' id bx hi hx hhid r ?_
            simp only [refsAt, hc, refsB]
            exact List.mem_flatMap.2 ⟨v, List.mem_of_getElem? hv, hr'⟩
      · rw [renX_at] at hx
        rw [if_neg (by omega)] at hx
        simp at hx
      · rw [h1] at h2
        cases h2
        have hv := relV_ren (base := base) (keep := []) hr fun r hr' => .inl (hro r (List.mem_append.2 (.inl (List.mem_flatMap.2 ⟨v, List.mem_of_getElem? h1, hr'⟩))))
        have hren : ∀ (q : Value), (∀ r ∈ refsC q, r < base) → renC (renF' base []) q = q := fun q hq => by
          unfold renC
          split
          · rename_i a; simp [renF', hq a.block (by simp [refsC])]
          · rename_i a n e; simp [renF', hq a.block (by simp [refsC])]
          · rename_i r; simp [renF', hq r (by simp [refsC])]
          · rfl
        have hmap : ∀ (l : List Value), (∀ r ∈ l.flatMap refsC, r < base) → l.map (renC (renF' base [])) = l := fun l hl => by
          refine (List.map_congr_left fun q hq => hren q fun r hr => hl r (List.mem_flatMap.2 ⟨q, hq, hr⟩)).trans (List.map_id _)
        have hrenF : ∀ (q : Value), (∀ r ∈ refsF q, r < base) → renF (renF' base []) q = q := fun q hq => by
          cases q <;> simp only [renF] <;> first
            | exact hren _ hq
            | (rw [hmap _ hq])
            | (rw [hmap _ (fun r hr => hq r (List.mem_append.2 (.inl hr))), hmap _ (fun r hr => hq r (List.mem_append.2 (.inr hr)))])
        have hrenV : ren (renF' base []) v = v := by
          have hq : ∀ r ∈ refs v, r < base := fun r hr' => hro r (List.mem_append.2 (.inl (List.mem_flatMap.2 ⟨v, List.mem_of_getElem? h1, hr'⟩)))
          cases v <;> simp only [ren] <;> first
            | exact hrenF _ hq
            | (congr 1
               apply Array.toList_inj.1
               refine (List.map_congr_left fun q hq' => hrenF q fun r hr => hq r (List.mem_flatMap.2 ⟨q, hq', hr⟩)).trans (List.map_id _))
        rwa [hrenV] at hv
    · rename_i r rs hroots
      unfold gcKeep at h
      simp only at h
      split at h
      · rename_i hc
        simp only [Bool.and_eq_true] at hc
        obtain ⟨⟨⟨⟨n1, n2⟩, h1⟩, h2⟩, h3⟩ := hc
        generalize reach σ.heap base 4096 (r :: rs) [] = keep at *
        simp only [Option.some.injEq, Prod.mk.injEq] at h
        obtain ⟨rfl, rfl⟩ := h
        have ok : ∀ q, (decide (q < base) || keep.contains q) = true → okR base keep q := fun q hq => by
          simp only [Bool.or_eq_true, decide_eq_true_eq, List.contains_eq_mem] at hq
          exact hq
        refine ⟨renX X base keep, rfl, key keep (by omega) (nodupB_iff n1) (fun r hr => ?_) (nodupB_iff n2) (fun t ht q hq => ?_) _ (fun i hi => ?_) (fun i hi => ?_), fun id hi => by simp [renX, hi], fun id bx hi hx => ?_, ⟨by simp, fun i v v' u e1 e2 hr => ?_⟩, rfl, rfl, fun _ => by simp [renAll_length]; omega, fun t ht => by simp [ht], fun t h => by simp at h; exact h.1, fun id hi hnd => ?_⟩
        · have := List.all_eq_true.1 h3 r hr
          simp only [Bool.and_eq_true, decide_eq_true_eq] at this
          exact ⟨this.1.1, this.1.2, fun q hq => ok q (List.all_eq_true.1 this.2 q hq)⟩
        · exact ok q (List.all_eq_true.1 (List.all_eq_true.1 h2 t ht) q hq)
        · rw [List.getElem?_append_left (by rw [renAll_length]; simp; omega)]
          have hti : (σ.heap.take base)[i]? = σ.heap[i]? := List.getElem?_take_of_lt hi
          by_cases hdt : i ∈ σ.dirty
          · rw [if_pos hdt, renAll_mem _ _ _ _ (nodupB_iff n2) (by simp [hdt, hi]), hti]; rfl
          · rw [if_neg hdt, renAll_not _ _ _ _ (by simp [hdt]), hti]
        · have hl : (renAll (fun id => if id < base then id else base + keep.idxOf id) (σ.dirty.filter (· < base)) (σ.heap.take base)).length = base := by rw [renAll_length]; simp; omega
          rw [List.getElem?_append_right (by omega), hl, List.getElem?_map]
          rfl
        · rw [renX_at] at hx
          rw [if_neg (by omega)] at hx
          simp only [Option.bind_eq_some_iff] at hx
          obtain ⟨q, hq, hx⟩ := hx
          have := List.all_eq_true.1 h3 q (List.mem_of_getElem? hq)
          simp only [Bool.and_eq_true, decide_eq_true_eq] at this
          exact ⟨q, this.1.1, hx⟩
        · rw [List.getElem?_map, e1] at e2
          simp only [Option.map_some, Option.some.injEq] at e2
          subst e2
          exact relV_ren hr fun q hq => ok q (List.all_eq_true.1 (List.all_eq_true.1 h1 v (List.mem_of_getElem? e1)) q hq)
        · rw [List.getElem?_append_left (by rw [renAll_length]; simp; omega), renAll_not _ _ _ _ (by simp [hnd])]
          exact List.getElem?_take_of_lt hi
      · cases h
end AM
end Go.Proofs.Ytpjjkmfidghkjaa
end
section
namespace Go.Proofs.Ytpjjkmfidghkjaa
namespace AM
open Go Go.RowKit

section
variable {P : Program} {w0 : World} {lo : Nat}

def FrR (X : Emb) (fr : Fr) (a : Act) : Prop := ∀ t v, fr.get t = some v → relV X v (a.tmps.getD t undef)
theorem FrR.evo {X X' : Emb} {fr : Fr} {a : Act} (h : FrR X fr a) (e : Evo X X') : FrR X' fr a := fun t v ht => (h t v ht).evo e
theorem FrR.put {X : Emb} {fr : Fr} {a : Act} {v u : Value} {d : Option Nat} (h : FrR X fr a) (hv : relV X v u) (hd : ∀ k, d = some k → k < a.tmps.size) : FrR X (fr.put d v) (a.put d u) := by
  cases d with
  | none => exact h
  | some k =>
    have hk := hd k rfl
    intro t q ht
    simp only [Fr.put, Fr.get] at ht
    split at ht
    · rename_i e
      subst e
      cases ht
      simpa [Act.put, hk] using hv
    · rename_i e
      have : (a.put (some k) u).tmps.getD t undef = a.tmps.getD t undef := by
        simp [Act.put, Array.getElem?_setIfInBounds_ne e]
      rw [this]
      exact h t q ht
theorem relV_const {X : Emb} {v : Value} (h : constOk (.const v) = true) : relV X v v := by
  unfold constOk at h
  split at h
  · rename_i cs e
    cases e
    exact ⟨cs, rfl, rel2_sc_refl fun v hv => List.all_eq_true.1 h v hv⟩
  · rename_i e
    cases e
    exact (relV_sc h).2 rfl
  · cases h
  · rename_i h1 h2 _
    exact absurd rfl (h2 v)
theorem FrR.ev {X : Emb} {fr : Fr} {a : Act} (h : FrR X fr a) {x : Operand} (hc : constOk x = true) {v : Value} (hv : ev fr x = some v) : relV X v (a.eval x) := by
  cases x with
  | tmp t => exact h t v hv
  | const q => simp only [AM.ev, Option.some.injEq] at hv; subst hv; exact relV_const hc
  | func f => simp only [AM.ev, Option.some.injEq] at hv; subst hv; exact (relV_sc rfl).2 rfl
  | global g => simp [AM.ev] at hv

/-- The marks of the loops over functions that are behind us. -/
def Mark (lo : Nat) (X : Emb) (w : World) (d : Deferred) : Prop := ∃ D, d = { target := .collected D, args := #[] } ∧ w.heap[D]? = some (.deferred (some [])) ∧ lo ≤ D ∧ ∀ id bx, X id = some bx → bx.b ≠ D
structure Marks (lo : Nat) (X : Emb) (ds : List Deferred) (w : World) : Prop where
  each : ∀ d ∈ ds, Mark lo X w d
  one : ds.Nodup
  low : lo ≤ w.heap.size
theorem Marks.nil {X : Emb} {w : World} (h : lo ≤ w.heap.size) : Marks lo X [] w := ⟨fun d h => by (cases h), List.nodup_nil, h⟩
theorem heap_lt {w : World} {k : Nat} {o : Obj} (h : w.heap[k]? = some o) : k < w.heap.size := (Array.getElem?_eq_some_iff.1 h).1
theorem Stp.clear {X X' : Emb} {σ : St} {w w' : World} {D : Nat} (s : Stp X σ w X' w') (hD : D < w.heap.size) (h : ∀ id bx, X id = some bx → bx.b ≠ D) : w'.heap[D]? = w.heap[D]? ∧ ∀ id bx, X' id = some bx → bx.b ≠ D :=
  ⟨s.frame D hD fun id bx hx _ _ _ => h id bx hx, fun id bx hx e => by
    rcases s.back id bx hx with ⟨by', h1, _, h3⟩ | ⟨_, _, h3, _⟩
    · rcases h3 with h3 | h3
      · exact h id by' h1 (by rw [← h3]; exact e)
      · omega
    · omega⟩
theorem Marks.step {X X' : Emb} {σ : St} {w w' : World} {ds : List Deferred} (m : Marks lo X ds w) (s : Stp X σ w X' w') : Marks lo X' ds w' :=
  ⟨fun d hd => by
    obtain ⟨D, h1, h2, h3, h4⟩ := m.each d hd
    obtain ⟨k1, k2⟩ := s.clear (heap_lt h2) h4
    exact ⟨D, h1, by rw [k1]; exact h2, h3, k2⟩, m.one, Nat.le_trans m.low s.size⟩
theorem Marks.sub {X X' : Emb} {w : World} {ds : List Deferred} (m : Marks lo X ds w) (h : ∀ id bx, X' id = some bx → ∃ id', X id' = some bx) : Marks lo X' ds w :=
  ⟨fun d hd => by
    obtain ⟨D, h1, h2, h3, h4⟩ := m.each d hd
    exact ⟨D, h1, h2, h3, fun id bx hx => by obtain ⟨id', h'⟩ := h id bx hx; exact h4 id' bx h'⟩, m.one, m.low⟩

/-- The state, the frame and the world together. -/
structure Good (w0 : World) (lo n : Nat) (X : Emb) (σ : St) (fr : Fr) (a : Act) (w : World) : Prop where
  sim : Sim w0 X σ w
  fr : FrR X fr a
  size : n ≤ a.tmps.size
  defers : Marks lo X a.defers w
  hid : ∀ t ∈ σ.hid, t < σ.heap.length
  lock : σ.lock ≤ σ.heap.length
theorem Good.step {n : Nat} {X X' : Emb} {σ σ' : St} {fr fr' : Fr} {a a' : Act} {w w' : World} (G : Good w0 lo n X σ fr a w) (h1 : Ast σ σ') (h2 : Sim w0 X' σ' w') (h3 : FrR X' fr' a') (h4 : a'.tmps.size = a.tmps.size) (h5 : a'.defers = a.defers) (hs : Stp X σ w X' w') : Good w0 lo n X' σ' fr' a' w' :=
  ⟨h2, h3, by rw [h4]; exact G.size, by rw [h5]; exact G.defers.step hs, fun t ht => Nat.lt_of_lt_of_le (G.hid t (by rw [← h1.hid]; exact ht)) h1.len, by rw [h1.lock]; exact Nat.le_trans G.lock h1.len⟩
/-- What a run leaves. -/
def Post (w0 : World) (lo n : Nat) (X : Emb) (σ : St) (w : World) (fr' : Fr) (σ' : St) (a' : Act) (w' : World) : Prop := ∃ X', Good w0 lo n X' σ' fr' a' w' ∧ Stp X σ w X' w'

theorem compOper_inv {ops : Array Oper} {n : Nat} {o : Oper} {ao : AOper} (hc : compOper P ops n o = some ao) : (∀ x ∈ o.op.operands.toList, constOk x = true) ∧ (∀ d, o.dst = some d → d < n) ∧ ∃ p, compOp P o.op = some p ∧
    ((o.guard = none ∧ ao = ⟨o.dst, none, 0, true, p⟩) ∨ ∃ g b s, o.guard = some (g, b) ∧ (ops[g]?).bind (·.dst) = some s ∧ ao = ⟨o.dst, some (s, b), 0, true, p⟩) := by
  unfold compOper at hc
  by_cases hk : (o.op.operands.toList.all constOk && dstOk n o.dst) = true
  · rw [if_pos hk] at hc
    simp only [Bool.and_eq_true] at hk
    simp only [Option.bind_eq_some_iff] at hc
    obtain ⟨p, hp, hc⟩ := hc
    refine ⟨fun x hx => List.all_eq_true.1 hk.1 x hx, fun d hd => by have := hk.2; rw [hd] at this; simpa [dstOk] using this, p, hp, ?_⟩
    cases hg : o.guard with
    | none => rw [hg] at hc; simp only [Option.some.injEq] at hc; exact .inl ⟨rfl, hc.symm⟩
    | some gb =>
      obtain ⟨g, b⟩ := gb
      rw [hg] at hc
      simp only at hc
      cases hs : (ops[g]?).bind (·.dst) with
      | none => rw [hs] at hc; simp at hc
      | some s => rw [hs] at hc; simp only [Option.some.injEq] at hc; exact .inr ⟨g, b, s, rfl, hs, hc.symm⟩
  · rw [if_neg hk] at hc; cases hc
/-- The guard's slot, read. -/
theorem want_slot {ops : Array Oper} {o : Oper} {ao : AOper} {X : Emb} {fr : Fr} {a : Act} {b : Bool} {p : AOp} {g s : Nat} {b' : Bool} (hg : o.guard = some (g, b')) (hs : (ops[g]?).bind (·.dst) = some s) (hao : ao = ⟨o.dst, some (s, b'), 0, true, p⟩)
    (hf : ∀ v, fr.get s = some v → relV X v (a.tmps.getD s undef)) (h : want ao fr = some b) : Region.wanted o (yielded ops a.tmps) = b := by
  subst hao
  simp only [want] at h
  simp only [Region.wanted, hg, yielded, hs, Option.bind_some]
  split at h
  · rename_i c e
    cases h
    have hr := relV_bool (hf _ e)
    have : a.tmps[s]? = some (.bool c) := by
      rw [Array.getD_eq_getD_getElem?] at hr
      cases he : a.tmps[s]? with
      | none => rw [he] at hr; simp [undef] at hr
      | some q => rw [he] at hr; simp at hr; rw [hr]
    rw [this]
    cases c <;> cases b' <;> rfl
  · rename_i vs e
    cases h
    obtain ⟨rs, hr, _⟩ := relV_tuple (hf _ e)
    rw [Array.getD_eq_getD_getElem?] at hr
    cases he : a.tmps[s]? with
    | none => cases b' <;> rfl
    | some q => rw [he] at hr; simp at hr; subst hr; cases b' <;> rfl
  · cases h
theorem want_real {ops : Array Oper} {n : Nat} {o : Oper} {ao : AOper} {X : Emb} {fr : Fr} {a : Act} {b : Bool} (hc : compOper P ops n o = some ao) (hf : FrR X fr a) (h : want ao fr = some b) : Region.wanted o (yielded ops a.tmps) = b := by
  obtain ⟨_, _, p, _, h2⟩ := compOper_inv hc
  rcases h2 with ⟨hg, rfl⟩ | ⟨g, b', s, hg, hs, hao⟩
  · simp only [want, Option.some.injEq] at h
    simp [Region.wanted, hg, h]
  · exact want_slot hg hs hao (fun v hv => hf s v hv) h
theorem compOper_op {ops : Array Oper} {n : Nat} {o : Oper} {ao : AOper} (hc : compOper P ops n o = some ao) : compOp P o.op = some ao.op ∧ ao.dst = o.dst ∧ (∀ x ∈ o.op.operands.toList, constOk x = true) ∧ ∀ d, o.dst = some d → d < n := by
  obtain ⟨h1, h2, p, hp, h3⟩ := compOper_inv hc
  rcases h3 with ⟨_, rfl⟩ | ⟨_, _, _, _, _, rfl⟩ <;> exact ⟨hp, rfl, h1, h2⟩
theorem relV_undefv {X : Emb} : relV X undefv undef := relV_undef
theorem size_put (a : Act) (d : Option Tmp) (v : Value) : (a.put d v).tmps.size = a.tmps.size := Mono.size_put a d v
theorem defers_put (a : Act) (d : Option Tmp) (v : Value) : (a.put d v).defers = a.defers := Mono.defers_put a d v

theorem compOp_defer {o : Op} {ao : AOp} (h : compOp P o = some ao) : ∀ c, o ≠ .defer c := fun c e => by
  subst e
  simp [compOp] at h
theorem aops_sound {callf : CallF} {Yp : Emb → World → Prop} {r : Option Nat} (hcf : CallOk P w0 Yp callf) {ops : Array Oper} {n : Nat} {Q : Exit → Act → World → Prop} : ∀ (l : List Oper) (as : List AOper), compOpers P ops n l = some as → ∀ (fr : Fr) (σ : St) (fr' : Fr) (σ' : St), aops callf as fr σ = some (fr', σ') →
    ∀ (X : Emb) (a : Act) (w : World), Good w0 lo n X σ fr a w → Yp X w → (∀ a' w', Post w0 lo n X σ w fr' σ' a' w' → Q .normal a' w') → wpListIn (Mono.fw r) 0 P ops Q l a w
  | [], as, hc, fr, σ, fr', σ', h, X, a, w, G, hY, hQ => by
    simp only [compOpers, Option.some.injEq] at hc
    subst hc
    simp only [aops, Option.some.injEq, Prod.mk.injEq] at h
    obtain ⟨rfl, rfl⟩ := h
    exact wpListIn_nil (hQ a w ⟨X, G, Stp.refl _ _ _⟩)
  | o :: l, as, hc, fr, σ, fr', σ', h, X, a, w, G, hY, hQ => by
    simp only [compOpers, Option.bind_eq_some_iff, Option.map_eq_some_iff] at hc
    obtain ⟨ao, hao, as', has', rfl⟩ := hc
    simp only [aops, Option.bind_eq_some_iff] at h
    obtain ⟨b, hb, h⟩ := h
    have hw := want_real hao G.fr hb
    obtain ⟨c1, c2, c3, c4⟩ := compOper_op hao
    have hdst : ∀ k, ao.dst = some k → k < a.tmps.size := fun k hk => Nat.lt_of_lt_of_le (c4 k (by rw [← c2]; exact hk)) G.size
    cases b with
    | true =>
      simp only [if_true, Option.bind_eq_some_iff] at h
      obtain ⟨⟨v, σ1⟩, h1, h2⟩ := h
      have hg := aop_runs (w := w) (a := a) (X := X) hcf hY c1 G.sim G.hid G.lock (fun x hx v hv => G.fr.ev (c3 x hx) hv) h1
      have ha1 := aop_ast hcf.ast G.lock h1
      have next : ∀ u w1 X1, relV X1 v u → Sim w0 X1 σ1 w1 → Stp X σ w X1 w1 → Good w0 lo n X1 σ1 (fr.put ao.dst v) (a.put o.dst u) w1 := fun u w1 X1 r1 r2 r3 => by
        rw [← c2]
        exact G.step ha1 r2 ((G.fr.evo r3.evo).put r1 hdst) (size_put _ _ _) (defers_put _ _ _) r3
      refine wpListIn_step fun K hK => ?_
      rw [hw, if_pos rfl]
      refine Mono.wpIn_of_gives (compOp_defer c1) (T := After w0 X σ w v σ1) (fun u w1 ⟨X1, r1, r2, r3⟩ => ?_) hg
      exact hK _ _ (aops_sound (Q := Q) hcf l as' has' _ _ _ _ h2 X1 _ w1 (next u w1 X1 r1 r2 r3) (hcf.stab _ _ _ _ _ hY r3) fun a' w' ⟨X2, g2, s2⟩ => hQ a' w' ⟨X2, g2, r3.trans ha1 s2⟩)
    | false =>
      simp only [Bool.false_eq_true, if_false] at h
      have G1 : Good w0 lo n X σ (fr.put ao.dst undefv) (a.put o.dst undef) w := by
        rw [← c2]
        exact G.step (Ast.refl _) G.sim (G.fr.put relV_undefv hdst) (size_put _ _ _) (defers_put _ _ _) (Stp.refl _ _ _)
      refine wpListIn_step fun K hK => ?_
      rw [hw, if_neg (by simp)]
      exact ⟨fun _ _ => (by cases r <;> exact trivial), hK _ _ (aops_sound (Q := Q) hcf l as' has' _ _ _ _ h X _ w G1 hY hQ)⟩
end
end AM
end Go.Proofs.Ytpjjkmfidghkjaa
end
