/-
  THE ABSTRACT MACHINE's OPERATIONS TOGETHER: whatever a translated operation does in the abstract, the program's operation does. Conditions: the calls are sound.
-/
import Derived.Test.YtfefeikkjebfoaaAMem5
import Derived.Test.YtfefeikkjebfoaaAAst
import Derived.Test.YtfefeikkjebfoaaMono
namespace Go.Proofs.Ytfefeikkjebfoaa
namespace AM
open Go Go.RowKit

/-- A function that can be entered. -/
def Enters (P : Program) (f : FuncId) : Prop := ∃ fn, P.funcs[f]? = some fn ∧ fn.name ≠ "runtime.NumGoroutine" ∧ fn.body.isSome = true
/-- The calls are sound. -/
def CallOk (P : Program) (w0 : World) (callf : CallF) : Prop := CallAst callf ∧ ∀ g args σ v σ', callf g args σ = some (v, σ') → ∃ f, g = .func f ∧ Enters P f ∧
  ∀ X w (rargs : Array Value), Sim w0 X σ w → (∀ t ∈ σ.hid, t < σ.heap.length) → σ.lock ≤ σ.heap.length → rel2 (relV X) args rargs.toList → Calls P f rargs w fun e w' => ∃ u X', e = .returned u ∧ relV X' v u ∧ Sim w0 X' σ' w' ∧ Stp X σ w X' w'

section
variable {P : Program} {X : Emb} {fr : Fr} {a : Act} {o : Oper} {v : Value} {w0 w : World} {σ σ' : St}

def After (w0 : World) (X : Emb) (σ : St) (w : World) (v : Value) (σ' : St) (u : Value) (w' : World) : Prop := ∃ X', relV X' v u ∧ Sim w0 X' σ' w' ∧ Stp X σ w X' w'
def Runs (P : Program) (w0 : World) (o : Oper) (a : Act) (X : Emb) (σ : St) (w : World) (v : Value) (σ' : St) : Prop := Mono.gives P o a w (After w0 X σ w v σ')
theorem Does.runs (h : Does P w0 o a X σ w v σ') : Runs P w0 o a X σ w v σ' := by
  obtain ⟨_, n, u, w', X', h2, h3, h4⟩ := h
  unfold Runs Mono.gives
  rw [h2]
  rcases h3 with rfl | ⟨rfl, rfl⟩ <;> exact ⟨X', h4⟩
theorem pure_runs {p : AOp} (S : Sim w0 X σ w) (h : (pval p fr).map (fun v => (v, σ)) = some (v, σ')) (g : ∀ v, pval p fr = some v → Gives P o a w X v) : Runs P w0 o a X σ w v σ' := by
  simp only [Option.map_eq_some_iff] at h
  obtain ⟨u, hu, h⟩ := h
  cases h
  exact (Gives.does S (g _ hu)).runs

theorem run_callFunc {f : FuncId} (h : Enters P f) (args : Array Value) (w : World) : (callFunc f args).run P w = .ok (.enter f args) w := by
  obtain ⟨fn, h1, h2, h3⟩ := h
  have h4 : fn.body ≠ none := by
    intro hb
    rw [hb] at h3; cases h3
  simp [callFunc, h1, h2, h4]
theorem call_runs {callf : CallF} {c : Call} {f : FuncId} (hcf : CallOk P w0 callf) (ho : o.op = .call c) (hc : c.callee = .value (.func f)) (S : Sim w0 X σ w) (hh : ∀ t ∈ σ.hid, t < σ.heap.length) (hlk : σ.lock ≤ σ.heap.length) (hx : ∀ x ∈ c.args.toList, ∀ v, ev fr x = some v → relV X v (a.eval x))
    (h : aop callf (.call f c.args.toList) fr σ = some (v, σ')) : Runs P w0 o a X σ w v σ' := by
  simp only [aop, Option.bind_eq_some_iff] at h
  obtain ⟨vs, hvs, h⟩ := h
  obtain ⟨f', e, hen, hcall⟩ := hcf.2 _ _ _ _ _ h
  cases e
  have hr := evs_rel hx hvs
  have hrun : (execOp a.eval o).run P w = .ok (.enter f (c.args.map a.eval)) w := by
    have he : a.eval (.func f) = .func (.func f) #[] #[] := rfl
    simp only [execOp, ho, resolve, hc, he, Deferred.ofValue, Sem.run_bind, Sem.run_pure, Result.andThen_ok, invoke, Array.append_empty, Array.empty_append, run_callFunc hen]
  unfold Runs Mono.gives
  rw [hrun]
  exact (hcall X w _ S hh hlk (by simpa using hr)).mono fun e w' ⟨u, X', h1, h2⟩ => ⟨u, h1, X', h2⟩
theorem callv_runs {callf : CallF} {c : Call} {x : Operand} (hcf : CallOk P w0 callf) (ho : o.op = .call c) (hc : c.callee = .value x) (S : Sim w0 X σ w) (hh : ∀ t ∈ σ.hid, t < σ.heap.length) (hlk : σ.lock ≤ σ.heap.length) (hx0 : ∀ v, ev fr x = some v → relV X v (a.eval x)) (hx : ∀ x ∈ c.args.toList, ∀ v, ev fr x = some v → relV X v (a.eval x))
    (h : aop callf (.callv x c.args.toList) fr σ = some (v, σ')) : Runs P w0 o a X σ w v σ' := by
  simp only [aop, Option.bind_eq_some_iff] at h
  obtain ⟨q, hq, vs, hvs, h⟩ := h
  split at h
  · rename_i g fi ca
    obtain ⟨f', rfl, hen, hcall⟩ := hcf.2 _ _ _ _ _ h
    have hr := evs_rel hx hvs
    obtain ⟨rf, rc, e1, r1, r2⟩ := relV_func (hx0 _ hq)
    have hrun : (execOp a.eval o).run P w = .ok (.enter f' (rf ++ c.args.map a.eval ++ rc)) w := by
      simp only [execOp, ho, resolve, hc, e1, Deferred.ofValue, Sem.run_bind, Sem.run_pure, Result.andThen_ok, invoke, run_callFunc hen]
    unfold Runs Mono.gives
    rw [hrun]
    refine (hcall X w _ S hh hlk ?_).mono fun e w' ⟨u, X', h1, h2⟩ => ⟨u, h1, X', h2⟩
    have r1' := r1.mono fun _ _ _ h => relV_of_relC h
    have r2' := r2.mono fun _ _ _ h => relV_of_relC h
    simpa using (r1'.append hr).append r2'
  · cases h

theorem fs_get {α : Type} {x : Option α} {f : α → Option AOp} {p : AOp} (h : x.bind f = some p) : ∃ y, x = some y ∧ f y = some p := Option.bind_eq_some_iff.1 h

set_option maxHeartbeats 1000000 in
theorem aop_runs {callf : CallF} {ao : AOp} (hcf : CallOk P w0 callf) (hc : compOp P o.op = some ao) (S : Sim w0 X σ w) (hh : ∀ t ∈ σ.hid, t < σ.heap.length) (hlk : σ.lock ≤ σ.heap.length) (hx : ∀ x ∈ o.op.operands.toList, ∀ v, ev fr x = some v → relV X v (a.eval x)) (h : aop callf ao fr σ = some (v, σ')) : Runs P w0 o a X σ w v σ' := by
  cases hop : o.op with
  | move x =>
    rw [hop] at hc hx
    simp only [compOp, Option.some.injEq] at hc
    subst hc
    exact pure_runs S h fun v hv => mv_gives (.inl hop) (hx x (by simp [Op.operands])) hv w
  | assign x =>
    rw [hop] at hc hx
    simp only [compOp, Option.some.injEq] at hc
    subst hc
    exact pure_runs S h fun v hv => mv_gives (.inr hop) (hx x (by simp [Op.operands])) hv w
  | pick c x y =>
    rw [hop] at hc hx
    simp only [compOp, Option.some.injEq] at hc
    subst hc
    exact pure_runs S h fun v hv => pick_gives hop (hx c (by simp [Op.operands])) (hx x (by simp [Op.operands])) (hx y (by simp [Op.operands])) hv w
  | alloc e =>
    rw [hop] at hc
    simp only [compOp, Option.map_eq_some_iff] at hc
    obtain ⟨zs, hz, rfl⟩ := hc
    exact (alloc_does hop hz S h).runs
  | box e x =>
    rw [hop] at hc hx
    simp only [compOp, Option.some.injEq] at hc
    subst hc
    exact (box_does hop S (hx x (by simp [Op.operands])) h).runs
  | build t ps =>
    rw [hop] at hc hx
    simp only [compOp, Option.bind_eq_some_iff, Option.map_eq_some_iff] at hc
    obtain ⟨zs, hz, pl, hpl, ps', hps, rfl⟩ := hc
    exact pure_runs S h fun v hv => build_gives hop hz hpl hps (fun q hq => hx q.2 (by simp only [Op.operands, List.mem_map]; exact ⟨q, hq, rfl⟩)) hv w
  | buildSlice t n ps =>
    rw [hop] at hc hx
    simp only [compOp, Option.bind_eq_some_iff] at hc
    obtain ⟨e, he, s, hs, zs, hz, hc⟩ := hc
    split at hc
    · rename_i hk
      simp only [Bool.and_eq_true, decide_eq_true_eq] at hk
      simp only [Option.map_eq_some_iff] at hc
      obtain ⟨ps', hps, rfl⟩ := hc
      exact (bslice_does hop he hs hz hk.1 hk.2 hps S (fun q hq => hx q.2 (by simp only [Op.operands, List.mem_map]; exact ⟨q, hq, rfl⟩)) h).runs
    · cases hc
  | load t x =>
    rw [hop] at hc hx
    simp only [compOp, Option.map_eq_some_iff] at hc
    obtain ⟨n, hn, rfl⟩ := hc
    exact (load_does hop hn S (hx x (by simp [Op.operands])) h).runs
  | store t x y =>
    rw [hop] at hc hx
    simp only [compOp, Option.map_eq_some_iff] at hc
    obtain ⟨n, hn, rfl⟩ := hc
    exact (store_does hop hn S (hx x (by simp [Op.operands])) (hx y (by simp [Op.operands])) h).runs
  | nilCheck x =>
    rw [hop] at hc hx
    simp only [compOp, Option.some.injEq] at hc
    subst hc
    exact pure_runs S h fun v hv => nilck_gives hop (hx x (by simp [Op.operands])) hv w
  | binOp op t x y yt =>
    rw [hop] at hc hx
    have h1 := hx x (by simp [Op.operands])
    have h2 := hx y (by simp [Op.operands])
    simp only [compOp] at hc
    split at hc
    · cases hc; exact pure_runs S h fun v hv => bin_gives hop h1 h2 hv w
    · cases hc; exact pure_runs S h fun v hv => bin_gives hop h1 h2 hv w
    · split at hc
      · simp only [Option.map_eq_some_iff] at hc
        obtain ⟨sh, hsh, rfl⟩ := hc
        exact pure_runs S h fun v hv => eqs_gives hop (.inl ⟨rfl, rfl⟩) hsh h1 h2 hv w
      · simp only [Option.map_eq_some_iff] at hc
        obtain ⟨sh, hsh, rfl⟩ := hc
        exact pure_runs S h fun v hv => eqs_gives hop (.inr ⟨rfl, rfl⟩) hsh h1 h2 hv w
      · cases hc
  | unOp op t x =>
    rw [hop] at hc hx
    simp only [compOp, Option.some.injEq] at hc
    subst hc
    exact pure_runs S h fun v hv => un_gives hop (hx x (by simp [Op.operands])) hv w
  | convert s d x =>
    rw [hop] at hc hx
    have h1 := hx x (by simp [Op.operands])
    simp only [compOp] at hc
    split at hc
    · rename_i hs hd; cases hc; exact pure_runs S h fun v hv => conv_gives hop hs hd h1 hv w
    · rename_i hs hd
      split at hc
      · rename_i he; cases hc; exact (strb_does hop hs hd he S h1 h).runs
      · cases hc
    · rename_i hs hd
      split at hc
      · rename_i he; cases hc; exact (bstr_does hop hs hd he S h1 h).runs
      · cases hc
    · rename_i hs hd
      split at hc
      · rename_i he
        simp only [Bool.and_eq_true] at he
        cases hc; exact (mark_does hop hs hd he.1 he.2 S h1 h).runs
      · cases hc
    · cases hc
  | makeFunc g fi ca =>
    rw [hop] at hc hx
    cases g <;> simp only [compOp, reduceCtorEq, Option.some.injEq] at hc
    subst hc
    exact pure_runs S h fun v hv => mkfn_gives hop (fun x hx' => hx x (by simp only [Op.operands, Array.toList_append, List.mem_append]; exact .inl hx')) (fun x hx' => hx x (by simp only [Op.operands, Array.toList_append, List.mem_append]; exact .inr hx')) hv w
  | makeSlice t l c =>
    rw [hop] at hc hx
    simp only [compOp, Option.bind_eq_some_iff] at hc
    obtain ⟨e, he, s, hs, zs, hz, hc⟩ := hc
    split at hc
    · rename_i hk
      simp only [Bool.and_eq_true, decide_eq_true_eq] at hk
      cases hc
      exact (mkslice_does hop he hs hz hk.1 hk.2 S (hx l (by simp [Op.operands])) (hx c (by simp [Op.operands])) h).runs
    · cases hc
  | slice t x lo hi mx =>
    rw [hop] at hc hx
    have h1 := hx x (by simp [Op.operands])
    have h2 : ∀ y, lo = some y → ∀ v, ev fr y = some v → relV X v (a.eval y) := fun y e => hx y (by subst e; simp [Op.operands])
    have h3 : ∀ y, hi = some y → ∀ v, ev fr y = some v → relV X v (a.eval y) := fun y e => hx y (by subst e; simp [Op.operands])
    have h4 : ∀ y, mx = some y → ∀ v, ev fr y = some v → relV X v (a.eval y) := fun y e => hx y (by subst e; simp [Op.operands])
    simp only [compOp] at hc
    split at hc
    · rename_i e ht
      simp only [Option.bind_eq_some_iff] at hc
      obtain ⟨s, hs, hc⟩ := hc
      split at hc
      · rename_i h0; cases hc; exact pure_runs S h fun v hv => slice_gives hop ht hs h0 h1 h2 h3 h4 hv w
      · cases hc
    · rename_i ht
      split at hc
      · rename_i hm
        cases hc
        obtain rfl : mx = none := by cases mx <;> simp at hm; rfl
        exact pure_runs S h fun v hv => slices_gives hop ht h1 h2 h3 hv w
      · cases hc
    · rename_i n e ht
      simp only [Option.bind_eq_some_iff] at hc
      obtain ⟨s, hs, hc⟩ := hc
      split at hc
      · rename_i h0
        simp only [Bool.and_eq_true, decide_eq_true_eq] at h0
        cases hc
        exact pure_runs S h fun v hv => slicea_gives hop ht hs h0.2 h1 h2 h3 h4 hv w
      · cases hc
    · cases hc
  | fieldAddr t x f =>
    rw [hop] at hc hx
    simp only [compOp] at hc
    split at hc
    · rename_i fs ht
      simp only [Option.bind_eq_some_iff] at hc
      obtain ⟨fd, hf, s, hs, hc⟩ := hc
      split at hc
      · rename_i h0; cases hc; exact pure_runs S h fun v hv => faddr_gives hop ht hf hs h0 (hx x (by simp [Op.operands])) hv w
      · cases hc
    · cases hc
  | field t x f =>
    rw [hop] at hc hx
    simp only [compOp] at hc
    split at hc
    · rename_i fs ht
      simp only [Option.bind_eq_some_iff, Option.map_eq_some_iff] at hc
      obtain ⟨fd, hf, n, hn, rfl⟩ := hc
      exact pure_runs S h fun v hv => field_gives hop ht hf hn (hx x (by simp [Op.operands])) hv w
    · cases hc
  | indexAddr t x i =>
    rw [hop] at hc hx
    have h1 := hx x (by simp [Op.operands])
    have h2 := hx i (by simp [Op.operands])
    simp only [compOp] at hc
    split at hc
    · rename_i e ht
      simp only [Option.bind_eq_some_iff] at hc
      obtain ⟨s, hs, hc⟩ := hc
      split at hc
      · cases hc; exact pure_runs S h fun v hv => iaddr_gives hop ht hs h1 h2 hv w
      · cases hc
    · rename_i n e ht
      simp only [Option.bind_eq_some_iff] at hc
      obtain ⟨s, hs, hc⟩ := hc
      split at hc
      · cases hc
        exact pure_runs S h fun v hv => iaddra_gives hop ht hs h1 h2 hv w
      · cases hc
    · cases hc
  | index t x i =>
    rw [hop] at hc hx
    have h1 := hx x (by simp [Op.operands])
    have h2 := hx i (by simp [Op.operands])
    simp only [compOp] at hc
    split at hc
    · rename_i n e ht
      simp only [Option.bind_eq_some_iff, Option.map_eq_some_iff] at hc
      obtain ⟨s, hs, m, hm, rfl⟩ := hc
      exact pure_runs S h fun v hv => idx_gives hop ht hs hm h1 h2 hv w
    · rename_i ht
      cases hc
      exact pure_runs S h fun v hv => idxs_gives hop ht h1 h2 hv w
    · cases hc
  | extract x i =>
    rw [hop] at hc hx
    simp only [compOp, Option.some.injEq] at hc
    subst hc
    exact pure_runs S h fun v hv => ext_gives hop (hx x (by simp [Op.operands])) hv w
  | call c =>
    rw [hop] at hc hx
    have harg : ∀ x ∈ c.args.toList, ∀ v, ev fr x = some v → relV X v (a.eval x) := fun x hx' => hx x (by simp only [Op.operands, Call.operands, Array.toList_append, List.mem_append]; exact .inr hx')
    simp only [compOp] at hc
    split at hc
    · rename_i f hcal
      cases hc
      exact call_runs hcf hop hcal S hh hlk harg h
    · rename_i x _ hcal
      split at hc
      · cases hc
        exact callv_runs hcf hop hcal S hh hlk (hx x (by simp [Op.operands, Call.operands, hcal])) harg h
      · cases hc
    · rename_i hcal
      split at hc
      · rename_i x y tx ty ha hta
        simp only [Option.bind_eq_some_iff] at hc
        obtain ⟨e, he, s, hs, zs, hz, hc⟩ := hc
        have h1 := harg x (by rw [ha]; simp)
        have h2 := harg y (by rw [ha]; simp)
        split at hc
        · rename_i q hu
          split at hc
          · rename_i hk
            simp only [Bool.and_eq_true, decide_eq_true_eq] at hk
            cases hc
            exact (append_does hop hcal ha hta (elemTy_eq he) hu (by simp) hs hz hk.1 hk.2 S h1 h2 h).runs
          · cases hc
        · rename_i hu
          split at hc
          · rename_i hk
            simp only [Bool.and_eq_true, decide_eq_true_eq] at hk
            cases hc
            exact (append_does hop hcal ha hta (elemTy_eq he) hu (by simp) hs hz hk.1 hk.2 S h1 h2 h).runs
          · cases hc
        · cases hc
      · cases hc
    · rename_i hcal
      split at hc
      · rename_i x y tx ty ha hta
        simp only [Option.bind_eq_some_iff] at hc
        obtain ⟨e, he, s, hs, hc⟩ := hc
        have h1 := harg x (by rw [ha]; simp)
        have h2 := harg y (by rw [ha]; simp)
        split at hc
        · rename_i hk
          cases hc
          exact (copy_does hop hcal ha hta (elemTy_eq he) hs hk S h1 h2 h).runs
        · cases hc
      · cases hc
    · rename_i hcal
      split at hc
      · rename_i x tx ha hta
        simp only [Option.bind_eq_some_iff] at hc
        obtain ⟨e, he, s, hs, zs, hz, hc⟩ := hc
        have h1 := harg x (by rw [ha]; simp)
        split at hc
        · rename_i hk
          simp only [Bool.and_eq_true, decide_eq_true_eq] at hk
          cases hc
          exact (clear_does hop hcal ha hta (elemTy_eq he) hs hz hk.1 S h1 h).runs
        · cases hc
      · cases hc
    · rename_i hcal
      split at hc
      · rename_i x tx ha hta
        have h1 := harg x (by rw [ha]; simp)
        split at hc
        · rename_i e hu; cases hc; exact pure_runs S h fun v hv => len_gives hop hcal ha hta hu h1 hv w
        · rename_i hu; cases hc; exact pure_runs S h fun v hv => lens_gives hop hcal ha hta hu h1 hv w
        · rename_i n e hu; cases hc; exact pure_runs (p := .lena n) (fr := fr) S h fun v hv => lena_gives (fr := fr) hop hcal ha hta hu hv w
        · cases hc
      · cases hc
    · rename_i hcal
      split at hc
      · rename_i x tx ha hta
        have h1 := harg x (by rw [ha]; simp)
        split at hc
        · rename_i e hu; cases hc; exact pure_runs S h fun v hv => cap_gives hop hcal ha hta hu h1 hv w
        · cases hc
      · cases hc
    · rename_i hcal; cases hc; exact pure_runs S h fun v hv => mm_gives (mx := false) hop hcal harg hv w
    · rename_i hcal; cases hc; exact pure_runs S h fun v hv => mm_gives (mx := true) hop hcal harg hv w
    · cases hc
  | _ => rw [hop] at hc; simp [compOp] at hc
end
end AM
end Go.Proofs.Ytfefeikkjebfoaa
