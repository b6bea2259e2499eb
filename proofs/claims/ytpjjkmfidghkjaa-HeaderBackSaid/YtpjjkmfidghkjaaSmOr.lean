/-
  STEP39: the function that looks its step up in a map made on the spot, known as code without the map. Conditions: none.
-/
import Derived.Test.YtpjjkmfidghkjaaAArgs
import Derived.MapKept
import Derived.KernelRfl
set_option linter.all false
namespace Go.Proofs.Ytpjjkmfidghkjaa
namespace AM
open Go Go.RowKit Go.MapKept

section
variable {P : Program} {w0 : World}
/-- A body whose code is known to do what the abstract code does. -/
theorem body_soundC {callf : CallF} (hcf : CallOk P w0 AnyY callf) {m : Nat} {fid : FuncId} {f : Func} {c : Code} {ac : ACode} {rs : List ARes} (hf : P.funcs[fid]? = some f) (hbody : f.body = some c) (hrs : compRes P f.results.toList = some rs)
    {args : List Value} {σ σ' : St} {v : Value} {X : Emb} {w : World} {rargs : Array Value}
    (hco : ∀ fr σ ex fr' σ', exec callf m ac fr σ = some (ex, fr', σ') → ∀ X a u, Good w0 w.heap.size f.ntmps X σ fr a u → ∀ Q : Exit → Act → World → Prop, (∀ a' u', Post w0 w.heap.size f.ntmps X σ u fr' σ' a' u' → Q ex.real a' u') → c.wpIn (Mono.fw none) 0 P Q a u)
    (h : body callf m ⟨ac, rs⟩ args σ = some (v, σ')) (S : Sim w0 X σ w) (hh : ∀ t ∈ σ.hid, t < σ.heap.length) (hl : σ.lock ≤ σ.heap.length) (hr : rel2 (relV X) args rargs.toList) :
    Calls P fid rargs w fun e w' => ∃ u X', e = .returned u ∧ relV X' v u ∧ Sim w0 X' σ' w' ∧ Stp X σ w X' w' := by
  have hfr : FrR X (argFr 0 args) { tmps := rargs ++ Array.replicate (f.ntmps - rargs.size) undef, defers := [] } := fun t q ht => by
    obtain ⟨_, g2⟩ := argFr_get args 0 t q ht
    rw [Nat.sub_zero] at g2
    obtain ⟨u, hu, hrel⟩ := hr.get g2
    have hlt : t < rargs.size := by have := (List.getElem?_eq_some_iff.1 hu).1; simpa using this
    have : (rargs ++ Array.replicate (f.ntmps - rargs.size) undef).getD t undef = u := by
      rw [Array.getD_eq_getD_getElem?, Array.getElem?_append_left hlt, ← Array.getElem?_toList, hu]
      rfl
    show relV X q (Array.getD _ t undef)
    rw [this]
    exact hrel
  simp only [body, Option.bind_eq_some_iff] at h
  obtain ⟨⟨e1, fr1, σ1⟩, h1, h⟩ := h
  have G : Good w0 w.heap.size f.ntmps X { σ with dirty := [] } (argFr 0 args) { tmps := rargs ++ Array.replicate (f.ntmps - rargs.size) undef, defers := [] } w :=
    ⟨S.dirty [], hfr, by simp; omega, Marks.nil (Nat.le_refl _), hh, hl⟩
  have a1 := exec_ast hcf.ast m ac _ { σ with dirty := [] } _ _ _ hl h1
  refine calls_marks (w0 := w0) hf hbody S.bel.size (hco _ _ _ _ _ h1 X _ w G _ fun a' w' ⟨X1, G1, s1⟩ => ?_)
  have fin : (resvs fr1 σ1 rs).bind (fun vs => (resOf vs).bind fun u => (gc σ.heap.length [u] σ1).bind fun q => match q.1 with
      | [v] => some (v, { q.2 with dirty := joinDirty σ.dirty q.2.dirty })
      | _ => none) = some (v, σ') → ∀ w2, Sim w0 X1 σ1 w2 → Alike w.heap.size w' w2 → ∃ v1, (results f a'.tmps).run P w2 = .ok v1 w2 ∧ ∃ u X', (Ending.returned v1) = .returned u ∧ relV X' v u ∧ Sim w0 X' σ' w2 ∧ Stp X σ w X' w2 := by
    intro h w2 S2 al
    simp only [Option.bind_eq_some_iff] at h
    obtain ⟨vs, hvs, u, hu, ⟨q, σ2⟩, hg, h⟩ := h
    split at h
    · rename_i v' hq
      simp only at hq
      subst hq
      cases h
      obtain ⟨us, r1, r2⟩ := resv_sound (P := P) S2 G1.fr f.results.toList rs vs hrs hvs
      obtain ⟨X2, gd, s2, _⟩ := gc_step (τ0 := { σ with dirty := [] }) S2 a1 rfl (s1.after al.size al.low al.os al.tape al.output) (S.dirty []) hh hl hg
      refine ⟨if h : us.toArray.size = 1 then us.toArray[0] else .tuple us.toArray, ?_, _, X2, rfl, gd.vals.2 0 u v _ rfl rfl (res_sound r2 hu), gd.sim.dirty _, s2.dirty⟩
      simp only [results, Sem.run_bind]
      rw [Array.mapM_eq_mapM_toList, map_eq_pure_bind, Sem.run_bind]
      erw [r1]
      simp only [Result.andThen_ok, Sem.run_pure]
    · cases h
  cases e1 with
  | exit id => cases h
  | normal => exact ⟨.inl rfl, X1, σ1, G1.sim, G1.defers, fun w2 S2 al => fin h w2 S2 al⟩
  | ret => exact ⟨.inr rfl, X1, σ1, G1.sim, G1.defers, fun w2 S2 al => fin h w2 S2 al⟩

theorem eval_same {a : Act} {d : Nat} {v : Value} (h : d < a.tmps.size) : (a.put (some d) v).eval (.tmp d) = v := by
  show (a.tmps.setIfInBounds d v).getD d undef = v
  simp [Array.getD_eq_getD_getElem?, h]
theorem eval_ne {a : Act} {d t : Nat} {v : Value} (h : d ≠ t) : (a.put (some d) v).eval (.tmp t) = a.eval (.tmp t) := by
  show (a.tmps.setIfInBounds d v).getD t undef = a.tmps.getD t undef
  simp [Array.getD_eq_getD_getElem?, h]
theorem tmps_size {a : Act} {d : Nat} {v : Value} : (a.put (some d) v).tmps.size = a.tmps.size := size_put a (some d) v
/-- A slot that the abstract machine does not know. -/
theorem FrR.behind {X : Emb} {fr : Fr} {a : Act} (h : FrR X fr a) {d : Nat} (hd : fr.get d = none) (u : Value) : FrR X fr (a.put (some d) u) := fun t v ht => by
  have hne : d ≠ t := fun e => by rw [← e, hd] at ht; cases ht
  show relV X v ((a.put (some d) u).eval (.tmp t))
  rw [eval_ne hne]
  exact h t v ht
theorem step_gives {r : Option Nat} {o : Oper} {rest : List Oper} {ops : Array Oper} {Q : Exit → Act → World → Prop} {a : Act} {w : World} {T : Value → World → Prop} (hg : o.guard = none) (hd : ∀ c, o.op ≠ .defer c) (hh : Mono.gives P o a w T)
    (h : ∀ v w', T v w' → wpListIn (Mono.fw r) 0 P ops Q rest (a.put o.dst v) w') : wpListIn (Mono.fw r) 0 P ops Q (o :: rest) a w :=
  wpListIn_plain hg fun K hK => Mono.wpIn_of_gives hd (fun v w' t => hK _ _ (h v w' t)) hh
/-- One operation that the machine knows. -/
theorem step_ao {lo n : Nat} {r : Option Nat} {callf : CallF} {o : Oper} {ao : AOp} {d : Nat} {rest : List Oper} {ops : Array Oper} {Q : Exit → Act → World → Prop} {X : Emb} {σ σ1 : St} {fr : Fr} {a : Act} {w : World} {v : Value} (hcf : CallOk P w0 AnyY callf)
    (hc : compOp P o.op = some ao) (hk : ∀ x ∈ o.op.operands.toList, constOk x = true) (hdst : o.dst = some d) (hdn : d < n) (hg : o.guard = none) (h1 : aop callf ao fr σ = some (v, σ1)) (G : Good w0 lo n X σ fr a w)
    (next : ∀ u w1 X1, Good w0 lo n X1 σ1 (fr.put (some d) v) (a.put (some d) u) w1 → Stp X σ w X1 w1 → relV X1 v u → wpListIn (Mono.fw r) 0 P ops Q rest (a.put (some d) u) w1) : wpListIn (Mono.fw r) 0 P ops Q (o :: rest) a w := by
  have hgv := aop_runs (w := w) (a := a) (X := X) hcf trivial hc G.sim G.hid G.lock (fun x hx v hv => G.fr.ev (hk x hx) hv) h1
  have ha1 := aop_ast hcf.ast G.lock h1
  refine step_gives (T := After w0 X σ w v σ1) hg (compOp_defer hc) hgv fun u w1 ⟨X1, r1, r2, r3⟩ => ?_
  rw [hdst]
  exact next u w1 X1 (G.step ha1 r2 ((G.fr.evo r3.evo).put r1 (fun k hk => by cases hk; exact Nat.lt_of_lt_of_le hdn G.size)) (size_put _ _ _) (defers_put _ _ _) r3) r3 r1

theorem gives_insert {o : Oper} {a : Act} {w w' : World} {T : Value → World → Prop} (t : TypeId) (m x y : Operand) {mv xv yv : Value} (ho : o.op = .insert t m x y) (hm : a.eval m = mv) (hx : a.eval x = xv) (hy : a.eval y = yv)
    (hr : (Instr.mapUpdate t mv xv yv).run P w = .ok () w') (h : T undef w') : Mono.gives P o a w T := by
  unfold Mono.gives execOp
  simp only [ho, hm, hx, hy, Sem.run_bind, Sem.run_pure, Result.andThen_ok, hr]
  exact h
theorem gives_lookup' {o : Oper} {a : Act} {w w' : World} {T : Value → World → Prop} {v : Value} (t : TypeId) (m x : Operand) {mv xv : Value} (ho : o.op = .lookup t m x false) (hm : a.eval m = mv) (hx : a.eval x = xv)
    (hr : (Instr.lookup t mv xv false).run P w = .ok v w') (h : T v w') : Mono.gives P o a w T := by
  unfold Mono.gives execOp
  simp only [ho, hm, hx, Sem.run_bind, Sem.run_pure, Result.andThen_ok, hr]
  exact h
theorem gives_makeMap {o : Oper} {a : Act} {w : World} {T : Value → World → Prop} (t : TypeId) (ho : o.op = .makeMap t none) (h : T (.map (some w.heap.size)) (w.alloc (.map #[] 0))) : Mono.gives P o a w T := by
  unfold Mono.gives execOp
  simp only [ho]
  exact h
theorem gives_mv {o : Oper} {a : Act} {w : World} {T : Value → World → Prop} (x : Operand) (ho : o.op = .move x ∨ o.op = .assign x) (h : T (a.eval x) w) : Mono.gives P o a w T := by
  unfold Mono.gives execOp
  rcases ho with ho | ho <;> (simp only [ho]; exact h)
end

/-! ### this program's map -/
def smFun (f : Nat) : Value := .func (.func f) #[] #[]
def smEnt (l : List (Int × Nat)) : Array MapEntry := (l.zipIdx.map fun p => (⟨.int .i64 p.1.1, smFun p.1.2, p.2⟩ : MapEntry)).toArray
def smL : List (Int × Nat) := [(0, 39), (1, 40), (2, 41), (3, 42), (5, 42)]
/-- What the map says. -/
def smV (n : Int) : Value := if n = 0 then smFun 39 else if n = 1 then smFun 40 else if n = 2 then smFun 41 else if n = 3 then smFun 42 else if n = 5 then smFun 42 else .nilFunc
theorem run_insert3 {w : World} {b : Nat} {es : Array MapEntry} {clock : Nat} (hb : w.heap[b]? = some (.map es clock)) (k : Int) (y : Value) (hf : Instr.findNow (.int .i64) (.int .i64 k) es.toList 0 = some none) :
    (Instr.mapUpdate 68 (.map (some b)) (.int .i64 k) y).run Try.prog w = .ok () { w with heap := w.heap.setIfInBounds b (.map (es.push ⟨.int .i64 k, y, clock⟩) (clock + 1)) } := by
  have hk : (Instr.checkKey false 10000 3 (.int .i64 k)).run Try.prog w = .ok () w := MapKept.run_checkKey Try.underlying3 (by trivial) false 9999
  simp [Instr.mapUpdate, run_underlying Try.underlying68, MapKept.run_getObj_map hb, hk, Instr.findKey, run_underlying Try.underlying3, hf, MapKept.run_setObj_map _ hb, Result.andThen]
theorem zero_part (w : World) : (zeroValue 69).run Try.prog w = .ok .nilFunc w := by kernel_rfl
theorem sm_find (n : Int) : Instr.findNow (.int .i64) (.int .i64 n) (smEnt smL).toList 0 = some (if n = 0 then some (0, smFun 39) else if n = 1 then some (1, smFun 40) else if n = 2 then some (2, smFun 41) else if n = 3 then some (3, smFun 42) else if n = 5 then some (4, smFun 42) else none) := by
  by_cases h0 : n = 0
  · subst h0; rfl
  by_cases h1 : n = 1
  · subst h1; rfl
  by_cases h2 : n = 2
  · subst h2; rfl
  by_cases h3 : n = 3
  · subst h3; rfl
  by_cases h5 : n = 5
  · subst h5; rfl
  have e0 : (n == 0) = false := by simpa using h0
  have e1 : (n == 1) = false := by simpa using h1
  have e2 : (n == 2) = false := by simpa using h2
  have e3 : (n == 3) = false := by simpa using h3
  have e5 : (n == 5) = false := by simpa using h5
  simp [smEnt, smL, Instr.findNow, Instr.sameNow, h0, h1, h2, h3, h5, e0, e1, e2, e3, e5]
theorem run_look3 {w : World} {b c : Nat} (hb : w.heap[b]? = some (.map (smEnt smL) c)) (n : Int) : (Instr.lookup 68 (.map (some b)) (.int .i64 n) false).run Try.prog w = .ok (smV n) w := by
  have hk : (Instr.checkKey (smEnt smL).isEmpty 10000 3 (.int .i64 n)).run Try.prog w = .ok () w := MapKept.run_checkKey Try.underlying3 (by trivial) _ 9999
  have hf := sm_find n
  simp only [Instr.lookup, Sem.run_bind, run_underlying Try.underlying68, Result.andThen_ok, MapKept.run_getObj_map hb, Sem.run_pure, hk, Instr.findKey, run_underlying Try.underlying3, hf]
  unfold smV
  repeat' (split <;> try rfl)
  all_goals simp_all [zero_part, Result.andThen]
/-- The look into the map, where the slots of the map are not known otherwise. -/
def smK (fr : Fr) (_ : St) : Option Value := match fr.get 9, fr.get 12, fr.get 13, fr.get 14, fr.get 17, fr.get 16 with
  | none, none, none, none, none, some (.int .i64 n) => some (smV n)
  | _, _, _, _, _, _ => none
theorem smV_sc (n : Int) : AM.sc (smV n) = true := by
  unfold smV; repeat' (split <;> try rfl)
/-- what comes ahead of the map -/
def ac0 : ACode := (.region [
    ⟨(some 4), none, 0, true, .box true (.tmp 1)⟩,
    ⟨(some 6), none, 0, true, .alloc true (List.replicate 5 (.int .i64 0) ++ [(.int .u32 0), (.int .i64 0)])⟩,
    ⟨(some 7), none, 0, true, .mv (.const (.bool false))⟩,
    ⟨(some 8), none, 0, true, .mv (.const (.int .i64 0))⟩])
/-- what comes behind it -/
def acr : ACode := (.seq (.seq (.region [
    ⟨(some 18), none, 0, true, .mv (.tmp 10)⟩,
    ⟨(some 19), none, 0, true, .eqs false .func (.tmp 18) (.const .nilFunc)⟩,
    ⟨(some 20), none, 0, true, .mv (.tmp 19)⟩,
    ⟨(some 21), (some (20, false)), 0, true, .mv (.tmp 0)⟩,
    ⟨(some 22), (some (20, false)), 0, true, .load (some 7) (.tmp 4)⟩,
    ⟨(some 23), (some (20, false)), 0, true, .call 16 [(.tmp 21), (.tmp 22)]⟩,
    ⟨(some 24), (some (20, false)), 0, true, .un .not (.tmp 23)⟩,
    ⟨(some 25), none, 0, true, .pick (.tmp 20) (.const (.bool true)) (.tmp 24)⟩])
  (.cond (.tmp 25)
   (.seq (.region [
     ⟨(some 26), none, 0, true, .load (some 7) (.tmp 6)⟩,
     ⟨none, none, 0, true, .store 7 (.tmp 6) (.tmp 26)⟩,
     ⟨(some 7), none, 0, true, .mv (.const (.bool false))⟩,
     ⟨(some 8), none, 0, true, .mv (.const (.int .i64 2))⟩])
   .ret)
   .skip))
  (.seq (.region [
    ⟨(some 28), none, 0, true, .mv (.tmp 10)⟩,
    ⟨(some 29), none, 0, true, .mv (.tmp 0)⟩,
    ⟨(some 30), none, 0, true, .load (some 7) (.tmp 4)⟩,
    ⟨(some 31), none, 0, true, .mv (.tmp 2)⟩,
    ⟨(some 32), none, 0, true, .callv (.tmp 28) [(.tmp 29), (.tmp 30), (.tmp 31)]⟩,
    ⟨(some 27), none, 0, true, .mv (.tmp 32)⟩,
    ⟨(some 33), none, 0, true, .ext (.tmp 27) 0⟩,
    ⟨(some 34), none, 0, true, .ext (.tmp 27) 1⟩,
    ⟨none, none, 0, true, .store 7 (.tmp 4) (.tmp 33)⟩,
    ⟨(some 11), none, 0, true, .mv (.tmp 34)⟩])
  (.seq (.seq (.region [
    ⟨(some 35), none, 0, true, .mv (.tmp 11)⟩,
    ⟨(some 36), none, 0, true, .un .not (.tmp 35)⟩])
  (.cond (.tmp 36)
   (.seq (.region [
     ⟨(some 37), none, 0, true, .load (some 7) (.tmp 6)⟩,
     ⟨none, none, 0, true, .store 7 (.tmp 6) (.tmp 37)⟩,
     ⟨(some 7), none, 0, true, .mv (.const (.bool false))⟩,
     ⟨(some 8), none, 0, true, .mv (.const (.int .i64 242))⟩])
   .ret)
   .skip))
  (.seq (.moves [] false [
    ⟨(some 38), none, 0, false, .load (some 7) (.tmp 4)⟩,
    ⟨(some 39), none, 0, false, .faddr 0 (.tmp 4)⟩,
    ⟨(some 40), none, 0, false, .load none (.tmp 39)⟩,
    ⟨(some 41), none, 0, false, .bin .eql (.tmp 40) (.const (.int .i64 4))⟩,
    ⟨(some 42), none, 0, false, .mv (.tmp 41)⟩,
    ⟨(some 43), (some (42, false)), 0, false, .faddr 0 (.tmp 4)⟩,
    ⟨(some 44), (some (42, false)), 0, false, .load none (.tmp 43)⟩,
    ⟨(some 45), (some (42, false)), 0, false, .bin .eql (.tmp 44) (.const (.int .i64 6))⟩,
    ⟨(some 46), none, 0, false, .pick (.tmp 42) (.const (.bool true)) (.tmp 45)⟩,
    ⟨none, none, 0, false, .store 7 (.tmp 6) (.tmp 38)⟩,
    ⟨(some 7), none, 0, false, .mv (.tmp 46)⟩,
    ⟨(some 8), none, 0, false, .mv (.const (.int .i64 0))⟩])
  .ret))))
def smFn : AFn := ⟨.seq ac0 (.seq (.region [⟨some 15, none, 0, true, .faddr 0 (.tmp 4)⟩, ⟨some 16, none, 0, true, .load none (.tmp 15)⟩, ⟨some 10, none, 0, true, .native smK⟩]) acr), [.cell 6 (some 7), .tmp 7, .tmp 8]⟩
def sqL : Code → Code | .seq x _ => x | c => c
def sqR : Code → Code | .seq _ y => y | c => c
def sqO : Code → List Oper | .region _ ops _ => ops.toList | _ => []
noncomputable def smC : Code := Try.f20.body.getD .skip
noncomputable def sm0 : Code := sqL smC
noncomputable def smR1 : List Oper := sqO (sqL (sqR smC))
noncomputable def smR2 : List Oper := sqO (sqL (sqR (sqR smC)))
noncomputable def sm3 : Code := sqR (sqR (sqR smC))
noncomputable def o1 (i : Nat) : Oper := smR1.getD i default
noncomputable def o2 (i : Nat) : Oper := smR2.getD i default
theorem sm_body : Try.f20.body = some (.seq sm0 (.seq (.region 1 smR1.toArray false) (.seq (.region 2 smR2.toArray false) sm3))) := by kernel_rfl
theorem smR1_eq : smR1 = [o1 0, o1 1, o1 2, o1 3, o1 4, o1 5, o1 6, o1 7] := by kernel_rfl
theorem smR2_eq : smR2 = [o2 0, o2 1, o2 2, o2 3, o2 4] := by kernel_rfl
theorem sm0_ok : comp Try.prog 47 none [] [] sm0 [] = some (ac0, [1]) := by kernel_rfl
theorem sm3_ok : comp Try.prog 47 none [] [] sm3 [] = some (acr, [4, 2, 0, 10, 6]) := by kernel_rfl
theorem sm_res : compRes Try.prog Try.f20.results.toList = some [.cell 6 (some 7), .tmp 7, .tmp 8] := by kernel_rfl
theorem itNone_ok (P : Program) : ItOk P none := fun g gc h => by cases h

/-- A world in which one new block has been laid. -/
theorem below_at {w w1 : World} {o : Obj} (hb : Below w.heap.size w w1) (hn : w.heap.size < w1.heap.size) : Below w.heap.size w { w1 with heap := w1.heap.setIfInBounds w.heap.size o } :=
  ⟨hb.os, hb.tape, hb.output, by simp; omega, fun k hk => by
    show (w1.heap.setIfInBounds w.heap.size o)[k]? = _
    rw [Array.getElem?_setIfInBounds_ne (by omega)]
    exact hb.block k hk⟩
/-- The map while it is filled: its first k entries are in. -/
structure Filled (w w1 : World) (k : Nat) : Prop where
  bel : Below w.heap.size w w1
  map : w1.heap[w.heap.size]? = some (.map (smEnt (smL.take k)) k)
theorem Filled.lt {w w1 : World} {k : Nat} (h : Filled w w1 k) : w.heap.size < w1.heap.size := (Array.getElem?_eq_some_iff.1 h.map).1
theorem insert_step {r : Option Nat} {o : Oper} {rest : List Oper} {ops : Array Oper} {Q : Exit → Act → World → Prop} {a : Act} {w w1 : World} {k f : Nat} {kk : Int} (F : Filled w w1 k)
    (ho : o.op = .insert 68 (.tmp 12) (.const (.int .i64 kk)) (.func f)) (hd : o.dst = none) (hg : o.guard = none) (ha : a.eval (.tmp 12) = .map (some w.heap.size))
    (hf : Instr.findNow (.int .i64) (.int .i64 kk) (smEnt (smL.take k)).toList 0 = some none) (he : (smEnt (smL.take k)).push ⟨.int .i64 kk, smFun f, k⟩ = smEnt (smL.take (k + 1)))
    (next : ∀ w2, Filled w w2 (k + 1) → wpListIn (Mono.fw r) 0 Try.prog ops Q rest a w2) : wpListIn (Mono.fw r) 0 Try.prog ops Q (o :: rest) a w1 := by
  refine step_gives (T := fun _ w2 => Filled w w2 (k + 1)) hg (fun c e => by rw [ho] at e; cases e)
    (gives_insert _ _ _ _ ho ha rfl rfl (run_insert3 F.map kk (smFun f) hf) ⟨below_at F.bel F.lt, ?_⟩) fun v w2 hw => ?_
  · show (w1.heap.setIfInBounds w.heap.size _)[w.heap.size]? = _
    rw [Array.getElem?_setIfInBounds_self_of_lt F.lt, he]
  · rw [hd]
    exact next w2 hw

set_option maxHeartbeats 1000000 in
theorem sm_or : OrOk Try.prog 20 smFn := fun w0 callf m args σ σ' v X w rargs hcf hb S hh hl hr => by
  have hm : Try.prog.follows .mixedOrders = true := by kernel_rfl
  refine body_soundC hcf Try.func20 sm_body sm_res ?_ hb S hh hl hr
  intro fr σ ex fr' σ' h X a u G Q hQ
  rw [show Try.f20.ntmps = 47 from rfl] at G hQ
  generalize w.heap.size = lo at G hQ
  simp only [exec, Option.bind_eq_some_iff] at h
  obtain ⟨⟨e1, fr1, σ1⟩, h1, h⟩ := h
  have a1 := exec_ast hcf.ast m _ _ _ _ _ _ G.lock h1
  refine wpIn_seq (exec_sound hcf hm (itNone_ok _) sm0 [] [] [] _ ac0 sm0_ok _ _ _ _ _ h1 X a u G _ fun a' w' ⟨X1, G1, s1⟩ => ?_)
  cases e1 with
  | exit id => cases h; exact hQ a' w' ⟨X1, G1, s1⟩
  | ret => cases h; exact hQ a' w' ⟨X1, G1, s1⟩
  | normal =>
    simp only [Option.bind_eq_some_iff] at h
    obtain ⟨⟨e2, fr2, σ2⟩, h2, h⟩ := h
    simp only [Option.map_eq_some_iff] at h2
    obtain ⟨⟨fr2', σ2'⟩, h2, he⟩ := h2
    cases he
    simp only [aops, want, if_true, Option.bind_some, Option.bind_eq_some_iff] at h2
    obtain ⟨⟨v1, τ1⟩, p1, ⟨v2, τ2⟩, p2, ⟨v3, τ3⟩, p3, h2⟩ := h2
    simp only [Option.some.injEq, Prod.mk.injEq] at h2
    obtain ⟨rfl, rfl⟩ := h2
    simp only [aop, Option.map_eq_some_iff, Prod.mk.injEq] at p3
    obtain ⟨v3', p3, rfl, rfl⟩ := p3
    have hkn : fr1.get 9 = none ∧ fr1.get 12 = none ∧ fr1.get 13 = none ∧ fr1.get 14 = none ∧ fr1.get 17 = none ∧ ∃ n, v2 = .int .i64 n ∧ v3' = smV n := by
      simp only [smK, Fr.put, Fr.get, Nat.reduceEqDiff, if_false, if_true] at p3
      split at p3
      · rename_i n k1 k2 k3 k4 k5 k6
        simp only [Option.some.injEq] at k6 p3
        exact ⟨k1, k2, k3, k4, k5, n, k6, p3.symm⟩
      · cases p3
    obtain ⟨k9, k12, k13, k14, k17, n, rfl, rfl⟩ := hkn
    clear p3 h1
    -- the map is filled
    refine wpIn_seq (wpIn_region_list ?_)
    rw [smR1_eq]
    have hsz : 47 ≤ a'.tmps.size := G1.size
    refine step_gives (T := fun v w2 => v = .map (some w'.heap.size) ∧ Filled w' w2 0) rfl (fun c e => by cases e) (gives_makeMap 68 rfl ⟨rfl, below_new _ _, heap_alloc_new _ _⟩) fun v w2 ⟨hv, F0⟩ => ?_
    subst hv
    rw [show (o1 0).dst = some 12 from rfl]
    have q12 : (a'.put (some 12) (.map (some w'.heap.size))).eval (.tmp 12) = .map (some w'.heap.size) := eval_same (by omega)
    refine insert_step F0 rfl rfl rfl q12 rfl rfl fun w3 F1 => ?_
    refine insert_step F1 rfl rfl rfl q12 rfl rfl fun w4 F2 => ?_
    refine insert_step F2 rfl rfl rfl q12 rfl rfl fun w5 F3 => ?_
    refine insert_step F3 rfl rfl rfl q12 rfl rfl fun w6 F4 => ?_
    refine insert_step F4 rfl rfl rfl q12 rfl rfl fun w7 F5 => ?_
    clear F0 F1 F2 F3 F4
    refine step_gives (T := fun v w8 => v = .map (some w'.heap.size) ∧ w8 = w7) rfl (fun c e => by cases e) (gives_mv (.tmp 12) (.inl rfl) ⟨q12, rfl⟩) fun v w8 ⟨hv, hw⟩ => ?_
    subst hv hw
    rw [show (o1 6).dst = some 13 from rfl]
    refine step_gives (T := fun v w9 => v = .map (some w'.heap.size) ∧ w9 = w8) rfl (fun c e => by cases e) (gives_mv (.tmp 13) (.inr rfl) ⟨eval_same (by rw [tmps_size]; omega), rfl⟩) fun v w9 ⟨hv, hw⟩ => ?_
    subst hv hw
    rw [show (o1 7).dst = some 9 from rfl]
    refine wpListIn_nil ?_
    have G2 : Good w0 lo 47 X1 σ1 fr1 (((a'.put (some 12) (.map (some w'.heap.size))).put (some 13) (.map (some w'.heap.size))).put (some 9) (.map (some w'.heap.size))) w9 :=
      G1.step (Ast.refl _) (G1.sim.below F5.bel) (((G1.fr.behind k12 _).behind k13 _).behind k9 _) (by simp only [tmps_size]) rfl (Stp.below F5.bel)
    have q9 : (((a'.put (some 12) (.map (some w'.heap.size))).put (some 13) (.map (some w'.heap.size))).put (some 9) (.map (some w'.heap.size))).eval (.tmp 9) = .map (some w'.heap.size) := eval_same (by simp only [tmps_size]; omega)
    have hsz2 : 47 ≤ (((a'.put (some 12) (.map (some w'.heap.size))).put (some 13) (.map (some w'.heap.size))).put (some 9) (.map (some w'.heap.size))).tmps.size := by simp only [tmps_size]; exact hsz
    have s2 : Stp X1 σ1 w' X1 w9 := Stp.below F5.bel
    have hmap := F5.map
    have hout : ∀ id bx, X1 id = some bx → bx.b ≠ w'.heap.size := fun id bx hx => Nat.ne_of_lt (G1.sim.place id bx hx).1
    generalize ((a'.put (some 12) (.map (some w'.heap.size))).put (some 13) (.map (some w'.heap.size))).put (some 9) (.map (some w'.heap.size)) = a2 at G2 q9 hsz2
    have hlt9 := F5.lt
    generalize w'.heap.size = b at hmap hout q9 hlt9
    clear q12 F5 hsz
    -- the look
    refine wpIn_seq (wpIn_region_list ?_)
    rw [smR2_eq]
    refine step_gives (T := fun v w8 => v = .map (some b) ∧ w8 = w9) rfl (fun c e => by cases e) (gives_mv (.tmp 9) (.inl rfl) ⟨q9, rfl⟩) fun v w8 ⟨hv, hw⟩ => ?_
    subst hv hw
    rw [show (o2 0).dst = some 14 from rfl]
    have G3 : Good w0 lo 47 X1 σ1 fr1 (a2.put (some 14) (.map (some b))) w8 := G2.step (Ast.refl _) G2.sim (G2.fr.behind k14 _) tmps_size rfl (Stp.refl _ _ _)
    refine step_ao hcf (o := o2 1) (ao := .faddr 0 (.tmp 4)) (d := 15) (by kernel_rfl) (by decide +kernel) rfl (by omega) rfl p1 G3 fun u1 w10 X2 G4 s3 r1 => ?_
    have b1 := aop_ast hcf.ast G3.lock p1
    refine step_ao hcf (o := o2 2) (ao := .load none (.tmp 15)) (d := 16) (by kernel_rfl) (by decide +kernel) rfl (by omega) rfl p2 G4 fun u2 w11 X3 G5 s4 r2 => ?_
    have b2 := aop_ast hcf.ast G4.lock p2
    have r2' := (relV_sc (v := .int .i64 n) rfl).1 r2
    subst r2'
    have m1 : w10.heap[b]? = some (.map (smEnt smL) 5) := by
      rw [s3.frame b hlt9 fun id bx hx _ _ _ => hout id bx hx]; exact hmap
    have hlt10 : b < w10.heap.size := Nat.lt_of_lt_of_le hlt9 s3.size
    have hout2 : ∀ id bx, X2 id = some bx → bx.b ≠ b := fun id bx hx e => by
      rcases s3.back id bx hx with ⟨bx0, h0, _, h1 | h1⟩ | ⟨_, _, h1, _⟩
      · exact hout id bx0 h0 (by rw [← h1]; exact e)
      · omega
      · omega
    have m2 : w11.heap[b]? = some (.map (smEnt smL) 5) := by
      rw [s4.frame b hlt10 fun id bx hx _ _ _ => hout2 id bx hx]; exact m1
    refine step_gives (T := fun v w12 => v = smV n ∧ w12 = w11) rfl (fun c e => by cases e) (gives_lookup' 68 (.tmp 14) (.tmp 16) rfl ?_ ?_ (run_look3 m2 n) ⟨rfl, rfl⟩) fun v w12 ⟨hv, hw⟩ => ?_
    · rw [eval_ne (by omega), eval_ne (by omega)]; exact eval_same (by omega)
    · exact eval_same (by simp only [tmps_size]; omega)
    subst hv hw
    rw [show (o2 3).dst = some 17 from rfl]
    refine step_gives (T := fun v w13 => v = smV n ∧ w13 = w12) rfl (fun c e => by cases e) (gives_mv (.tmp 17) (.inr rfl) ⟨eval_same (by simp only [tmps_size]; omega), rfl⟩) fun v w13 ⟨hv, hw⟩ => ?_
    subst hv hw
    rw [show (o2 4).dst = some 10 from rfl]
    refine wpListIn_nil ?_
    have G6 : Good w0 lo 47 X3 τ2 (((fr1.put (some 15) v1).put (some 16) (.int .i64 n)).put (some 10) (smV n)) (((((a2.put (some 14) (.map (some b))).put (some 15) u1).put (some 16) (.int .i64 n)).put (some 17) (smV n)).put (some 10) (smV n)) w13 := by
      have k17' : (((fr1.put (some 15) v1).put (some 16) (.int .i64 n))).get 17 = none := by
        simp only [Fr.put, Fr.get, Nat.reduceEqDiff, if_false, k17]
      refine G5.step (Ast.refl _) G5.sim ((G5.fr.behind k17' _).put ((relV_sc (smV_sc n)).2 rfl) fun k hk => ?_) (by simp only [tmps_size]) rfl (Stp.refl _ _ _)
      cases hk
      simp only [tmps_size]; omega
    refine exec_sound hcf hm (itNone_ok _) sm3 [] [] [] _ acr sm3_ok _ _ _ _ _ h _ _ _ G6 _ fun a7 w7 ⟨X7, G7, s7⟩ => ?_
    exact hQ a7 w7 ⟨X7, G7, s1.trans a1 (s2.trans (Ast.refl _) (s3.trans b1 (s4.trans b2 s7)))⟩
end AM
end Go.Proofs.Ytpjjkmfidghkjaa
