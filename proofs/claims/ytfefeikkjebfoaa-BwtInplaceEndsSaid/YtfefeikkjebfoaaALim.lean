/-
  THE ABSTRACT MACHINE WITHOUT FUEL: what some fuel finds, as a function that obeys equations. Conditions: none.
-/
import Derived.Test.YtfefeikkjebfoaaARun
namespace Go.Proofs.Ytfefeikkjebfoaa
namespace AM
open Go Go.RowKit

/-! ### Limits of growing answers -/
def Grow {α : Type} (f : Nat → Option α) : Prop := ∀ n r, f n = some r → f (n + 1) = some r
theorem Grow.le {α : Type} {f : Nat → Option α} (h : Grow f) {n m : Nat} {r : α} (hn : f n = some r) (hm : n ≤ m) : f m = some r := by
  induction hm with
  | refl => exact hn
  | step _ ih => exact h _ _ ih
open Classical in
noncomputable def lim {α : Type} (f : Nat → Option α) : Option α := if h : ∃ n r, f n = some r then some (Classical.choose (Classical.choose_spec h)) else none
theorem lim_some {α : Type} {f : Nat → Option α} (h : Grow f) {r : α} : lim f = some r ↔ ∃ n, f n = some r := by
  unfold lim
  constructor
  · intro e
    split at e
    · rename_i hx
      cases e
      exact ⟨_, Classical.choose_spec (Classical.choose_spec hx)⟩
    · cases e
  · rintro ⟨n, e⟩
    have hx : ∃ n r, f n = some r := ⟨n, r, e⟩
    rw [dif_pos hx]
    have h1 := Classical.choose_spec (Classical.choose_spec hx)
    have a1 := h.le e (Nat.le_max_left n (Classical.choose hx))
    have a2 := h.le h1 (Nat.le_max_right n (Classical.choose hx))
    rw [a1] at a2
    exact a2.symm
theorem lim_ext {α : Type} {f g : Nat → Option α} (hf : Grow f) (hg : Grow g) (h : ∀ r, (∃ n, f n = some r) ↔ ∃ n, g n = some r) : lim f = lim g := by
  cases e : lim f with
  | some r => exact ((lim_some hg).2 ((h r).1 ((lim_some hf).1 e))).symm
  | none =>
    cases e' : lim g with
    | none => rfl
    | some r => rw [(lim_some hf).2 ((h r).2 ((lim_some hg).1 e'))] at e; cases e
theorem Grow.const {α : Type} (x : Option α) : Grow fun _ => x := fun _ _ h => h
theorem lim_const {α : Type} (x : Option α) : lim (fun _ : Nat => x) = x := by
  cases x with
  | some r => exact (lim_some (Grow.const _)).2 ⟨0, rfl⟩
  | none =>
    cases e : lim (fun _ : Nat => (none : Option α)) with
    | none => rfl
    | some r => obtain ⟨_, h⟩ := (lim_some (Grow.const _)).1 e; cases h
theorem Grow.bind {α β : Type} {f : Nat → Option α} {g : Nat → α → Option β} (hf : Grow f) (hg : ∀ a, Grow fun n => g n a) : Grow fun n => (f n).bind (g n) := fun n r h => by
  simp only [Option.bind_eq_some_iff] at h ⊢
  obtain ⟨a, h1, h2⟩ := h
  exact ⟨a, hf n a h1, hg a n r h2⟩
theorem lim_bind {α β : Type} {f : Nat → Option α} {g : Nat → α → Option β} (hf : Grow f) (hg : ∀ a, Grow fun n => g n a) : lim (fun n => (f n).bind (g n)) = (lim f).bind fun a => lim fun n => g n a := by
  cases e : lim f with
  | none =>
    simp only [Option.bind_none]
    cases e' : lim (fun n => (f n).bind (g n)) with
    | none => rfl
    | some r =>
      obtain ⟨n, h⟩ := (lim_some (hf.bind hg)).1 e'
      simp only [Option.bind_eq_some_iff] at h
      obtain ⟨a, h1, _⟩ := h
      rw [(lim_some hf).2 ⟨n, h1⟩] at e; cases e
  | some a =>
    simp only [Option.bind_some]
    obtain ⟨n, hn⟩ := (lim_some hf).1 e
    refine lim_ext (hf.bind hg) (hg a) fun r => ⟨fun ⟨m, h⟩ => ?_, fun ⟨m, h⟩ => ⟨max n m, ?_⟩⟩
    · simp only [Option.bind_eq_some_iff] at h
      obtain ⟨b, h1, h2⟩ := h
      have h3 := (lim_some hf).2 ⟨m, h1⟩
      rw [e] at h3
      cases h3
      exact ⟨m, h2⟩
    · simp only [Option.bind_eq_some_iff]
      exact ⟨a, hf.le hn (Nat.le_max_left _ _), (hg a).le h (Nat.le_max_right _ _)⟩
theorem lim_bindc {α β : Type} {f : Nat → Option α} (g : α → Option β) (hf : Grow f) : lim (fun n => (f n).bind g) = (lim f).bind g := by
  rw [lim_bind (g := fun _ => g) hf fun a => Grow.const _]
  exact congrArg _ (funext fun a => lim_const _)
theorem lim_map {α β : Type} {f : Nat → Option α} {g : α → β} (hf : Grow f) : lim (fun n => (f n).map g) = (lim f).map g := by
  have := lim_bind (g := fun _ a => some (g a)) hf fun a => Grow.const _
  simp only [lim_const] at this
  have e : ∀ x : Option α, x.map g = x.bind fun a => some (g a) := fun x => by cases x <;> rfl
  rw [e, ← this]
  congr 1
  funext n
  exact e _
theorem Grow.map {α β : Type} {f : Nat → Option α} {g : α → β} (hf : Grow f) : Grow fun n => (f n).map g := fun n r h => by
  simp only [Option.map_eq_some_iff] at h ⊢
  obtain ⟨a, h1, h2⟩ := h
  exact ⟨a, hf n a h1, h2⟩
theorem Grow.shift {α : Type} {f : Nat → Option α} (hf : Grow f) : Grow fun n => f (n + 1) := fun n r h => hf (n + 1) r h
theorem lim_shift {α : Type} {f : Nat → Option α} (hf : Grow f) : lim (fun n => f (n + 1)) = lim f :=
  lim_ext hf.shift hf fun r => ⟨fun ⟨n, h⟩ => ⟨n + 1, h⟩, fun ⟨n, h⟩ => ⟨n, hf n r h⟩⟩

/-! ### The machine grows -/
def GrowC (c : Nat → CallF) : Prop := ∀ g args σ, Grow fun n => c n g args σ
theorem aop_grow {c : Nat → CallF} (hc : GrowC c) (o : AOp) (fr : Fr) (σ : St) : Grow fun n => aop (c n) o fr σ := fun n r h => by
  cases o <;> first
    | exact h
    | skip
  case call f args =>
    simp only [aop] at h ⊢
    exact (Grow.bind (Grow.const _) fun vs => hc _ _ _) n r h
  case callv x args =>
    simp only [aop, Option.bind_eq_some_iff] at h ⊢
    obtain ⟨q, h1, vs, h2, h3⟩ := h
    refine ⟨q, h1, vs, h2, ?_⟩
    split at h3
    · exact hc _ _ _ n r h3
    · cases h3
theorem aops_grow {c : Nat → CallF} (hc : GrowC c) : ∀ (l : List AOper) (fr : Fr) (σ : St), Grow fun n => aops (c n) l fr σ
  | [], fr, σ => Grow.const _
  | o :: l, fr, σ => by
    simp only [aops]
    refine Grow.bind (Grow.const _) fun b => ?_
    cases b with
    | true => exact (aop_grow hc o.op fr σ).bind fun r => aops_grow hc l _ _
    | false => exact aops_grow hc l _ _
theorem dops_grow {c : Nat → CallF} (hc : GrowC c) : ∀ (l : List AOper) (born : List (Nat × Nat × Nat)) (j : Nat) (fr : Fr) (σ : St), Grow fun n => dops (c n) born j l fr σ
  | [], born, j, fr, σ => Grow.const _
  | o :: l, born, j, fr, σ => by
    simp only [dops]
    refine Grow.bind (Grow.const _) fun b => ?_
    cases b with
    | true => exact (aop_grow hc o.op fr _).bind fun r => dops_grow hc l _ _ _ _
    | false => exact dops_grow hc l _ _ _ _
theorem iter_grow {B : Nat → Fr → St → Option (Ex × Fr × St)} {live : List Nat} {base : Nat} (hB : ∀ fr σ, Grow fun n => B n fr σ) : ∀ (n : Nat) (m : Nat) (fr : Fr) (σ : St) r, iter (B m) live base n fr σ = some r → iter (B (m + 1)) live base (n + 1) fr σ = some r
  | 0, m, fr, σ, r, h => by simp [iter] at h
  | n + 1, m, fr, σ, r, h => by
    rw [iter] at h ⊢
    simp only [Option.bind_eq_some_iff] at h ⊢
    obtain ⟨⟨e, fr1, σ1⟩, h1, h2⟩ := h
    refine ⟨_, hB fr σ m _ h1, ?_⟩
    cases e with
    | normal =>
      simp only [Option.bind_eq_some_iff] at h2 ⊢
      obtain ⟨p, h3, h4⟩ := h2
      exact ⟨p, h3, iter_grow hB n m _ _ r h4⟩
    | _ => exact h2
theorem iter_more {B : Fr → St → Option (Ex × Fr × St)} {live : List Nat} {base : Nat} : ∀ {n : Nat} (fr : Fr) (σ : St) {r}, iter B live base n fr σ = some r → iter B live base (n + 1) fr σ = some r := fun {n} fr σ {r} h =>
  iter_grow (B := fun _ => B) (fun _ _ => Grow.const _) n 0 fr σ r h
theorem iter_body {B B' : Fr → St → Option (Ex × Fr × St)} {live : List Nat} {base : Nat} (hB : ∀ fr σ r, B fr σ = some r → B' fr σ = some r) : ∀ (n : Nat) (fr : Fr) (σ : St) r, iter B live base n fr σ = some r → iter B' live base n fr σ = some r
  | 0, fr, σ, r, h => by simp [iter] at h
  | n + 1, fr, σ, r, h => by
    rw [iter] at h ⊢
    simp only [Option.bind_eq_some_iff] at h ⊢
    obtain ⟨⟨e, fr1, σ1⟩, h1, h2⟩ := h
    refine ⟨_, hB fr σ _ h1, ?_⟩
    cases e with
    | normal =>
      simp only [Option.bind_eq_some_iff] at h2 ⊢
      obtain ⟨p, h3, h4⟩ := h2
      exact ⟨p, h3, iter_body hB n _ _ r h4⟩
    | _ => exact h2
theorem exec_grow {c : Nat → CallF} (hc : GrowC c) : ∀ (k : ACode) (fr : Fr) (σ : St), Grow fun n => exec (c n) n k fr σ
  | .skip, fr, σ => Grow.const _
  | .ret, fr, σ => Grow.const _
  | .exit id, fr, σ => Grow.const _
  | .region ops, fr, σ => by simp only [exec]; exact (aops_grow hc ops fr σ).map
  | .drawn ops, fr, σ => by simp only [exec]; exact (dops_grow hc ops [] 0 fr σ).map
  | .moves ops, fr, σ => Grow.const _
  | .seq a b, fr, σ => by
    simp only [exec]
    refine (exec_grow hc a fr σ).bind fun r => ?_
    obtain ⟨e, fr', σ'⟩ := r
    cases e with
    | normal => exact exec_grow hc b _ _
    | _ => exact Grow.const _
  | .cond x a b, fr, σ => by
    simp only [exec]
    split
    · exact exec_grow hc a _ _
    · exact exec_grow hc b _ _
    · exact Grow.const _
  | .block id b, fr, σ => by simp only [exec]; exact (exec_grow hc b fr σ).map
  | .loop live b, fr, σ => by
    simp only [exec]
    refine Grow.map fun n r h => ?_
    exact iter_grow (B := fun n => exec (c n) n b) (fun fr σ => exec_grow hc b fr σ) n n _ _ r h
theorem body_grow {c : Nat → CallF} (hc : GrowC c) (fn : AFn) (args : List Value) (σ : St) : Grow fun n => body (c n) n fn args σ := by
  simp only [body]
  refine (exec_grow hc _ _ _).bind fun r => Grow.const _
theorem run_grow (env : Env) : GrowC (run env) := fun g args σ n => by
  induction n generalizing g args σ with
  | zero => intro r h; simp [run] at h
  | succ n ih =>
    intro r h
    cases g with
    | func f =>
      simp only [run, Option.bind_eq_some_iff] at h ⊢
      obtain ⟨fn, h1, h2⟩ := h
      refine ⟨fn, h1, ?_⟩
      -- one step of growth is enough
      let c : Nat → CallF := fun m => if m ≤ n then run env n else run env (n + 1)
      have hc : GrowC c := fun g args σ m r h => by
        simp only [c] at h ⊢
        by_cases h1 : m ≤ n
        · rw [if_pos h1] at h
          by_cases h2 : m + 1 ≤ n
          · rw [if_pos h2]; exact h
          · rw [if_neg h2]; exact ih g args σ r h
        · rw [if_neg h1] at h
          rw [if_neg (by omega)]; exact h
      have := body_grow hc fn args σ n r
      simp only [c, if_pos (Nat.le_refl n), if_neg (Nat.not_succ_le_self n)] at this
      exact this h2
    | _ => simp [run] at h

/-! ### Without fuel -/
noncomputable def Lrun (env : Env) : CallF := fun g args σ => lim fun n => run env n g args σ
noncomputable def Lexec (env : Env) (k : ACode) (fr : Fr) (σ : St) : Option (Ex × Fr × St) := lim fun n => exec (run env n) n k fr σ
noncomputable def Liter (env : Env) (b : ACode) (live : List Nat) (base : Nat) (fr : Fr) (σ : St) : Option (Ex × Fr × St) := lim fun n => iter (exec (run env n) n b) live base n fr σ

section
variable {env : Env}
theorem Lrun_some {g : Fn} {args : List Value} {σ : St} {r : Value × St} : Lrun env g args σ = some r ↔ ∃ n, run env n g args σ = some r := lim_some (run_grow env g args σ)
theorem aop_lim (o : AOp) (fr : Fr) (σ : St) : lim (fun n => aop (run env n) o fr σ) = aop (Lrun env) o fr σ := by
  cases o <;> first
    | exact lim_const _
    | skip
  case call f args =>
    simp only [aop]
    rw [lim_bind (Grow.const _) fun vs => run_grow env _ _ _, lim_const]
    rfl
  case callv x args =>
    simp only [aop]
    refine (lim_bind (Grow.const _) fun v => Grow.bind (Grow.const _) fun vs => ?_).trans ?_
    · cases v <;> first
        | exact Grow.const _
        | exact run_grow env _ _ _
    · rw [lim_const]
      congr 1
      funext v
      refine (lim_bind (Grow.const _) fun vs => ?_).trans ?_
      · cases v <;> first
          | exact Grow.const _
          | exact run_grow env _ _ _
      · rw [lim_const]
        congr 1
        funext vs
        cases v <;> first
          | exact lim_const _
          | rfl
theorem aops_lim : ∀ (l : List AOper) (fr : Fr) (σ : St), lim (fun n => aops (run env n) l fr σ) = aops (Lrun env) l fr σ
  | [], fr, σ => lim_const _
  | o :: l, fr, σ => by
    simp only [aops]
    refine (lim_bind (Grow.const _) fun b => ?_).trans ?_
    · cases b with
      | true => exact (aop_grow (run_grow env) o.op fr σ).bind fun r => aops_grow (run_grow env) l _ _
      | false => exact aops_grow (run_grow env) l _ _
    · rw [lim_const]
      congr 1
      funext b
      cases b with
      | true =>
        refine (lim_bind (aop_grow (run_grow env) o.op fr σ) fun r => aops_grow (run_grow env) l _ _).trans ?_
        rw [aop_lim]
        exact congrArg _ (funext fun r => aops_lim l _ _)
      | false => exact aops_lim l _ _
theorem dops_lim : ∀ (l : List AOper) (born : List (Nat × Nat × Nat)) (j : Nat) (fr : Fr) (σ : St), lim (fun n => dops (run env n) born j l fr σ) = dops (Lrun env) born j l fr σ
  | [], born, j, fr, σ => lim_const _
  | o :: l, born, j, fr, σ => by
    simp only [dops]
    refine (lim_bind (Grow.const _) fun b => ?_).trans ?_
    · cases b with
      | true => exact (aop_grow (run_grow env) o.op fr _).bind fun r => dops_grow (run_grow env) l _ _ _ _
      | false => exact dops_grow (run_grow env) l _ _ _ _
    · rw [lim_const]
      congr 1
      funext b
      cases b with
      | true =>
        refine (lim_bind (aop_grow (run_grow env) o.op fr _) fun r => dops_grow (run_grow env) l _ _ _ _).trans ?_
        rw [aop_lim]
        exact congrArg _ (funext fun r => dops_lim l _ _ _ _)
      | false => exact dops_lim l _ _ _ _

/-! ### The equations -/
theorem Lexec_skip (fr : Fr) (σ : St) : Lexec env .skip fr σ = some (.normal, fr, σ) := lim_const _
theorem Lexec_ret (fr : Fr) (σ : St) : Lexec env .ret fr σ = some (.ret, fr, σ) := lim_const _
theorem Lexec_exit (id : Nat) (fr : Fr) (σ : St) : Lexec env (.exit id) fr σ = some (.exit id, fr, σ) := lim_const _
theorem Lexec_region (ops : List AOper) (fr : Fr) (σ : St) : Lexec env (.region ops) fr σ = (aops (Lrun env) ops fr σ).map fun r => (.normal, r.1, r.2) := by
  unfold Lexec; simp only [exec]; rw [lim_map (aops_grow (run_grow env) ops fr σ), aops_lim]
theorem Lexec_drawn (ops : List AOper) (fr : Fr) (σ : St) : Lexec env (.drawn ops) fr σ = (dops (Lrun env) [] 0 ops fr σ).map fun r => (.normal, r.1, r.2) := by
  unfold Lexec; simp only [exec]; rw [lim_map (dops_grow (run_grow env) ops [] 0 fr σ), dops_lim]
theorem Lexec_moves (ops : List AOper) (fr : Fr) (σ : St) : Lexec env (.moves ops) fr σ = (mops [] ops fr σ).map fun r => (.normal, r.1, r.2) := lim_const _
theorem Lexec_seq (a b : ACode) (fr : Fr) (σ : St) : Lexec env (.seq a b) fr σ = (Lexec env a fr σ).bind fun r => match r.1 with
    | .normal => Lexec env b r.2.1 r.2.2
    | e => some (e, r.2.1, r.2.2) := by
  unfold Lexec; simp only [exec]
  refine (lim_bind (exec_grow (run_grow env) a fr σ) fun r => ?_).trans ?_
  · obtain ⟨e, fr', σ'⟩ := r
    cases e with
    | normal => exact exec_grow (run_grow env) b _ _
    | _ => exact Grow.const _
  · refine congrArg _ (funext fun r => ?_)
    obtain ⟨e, fr', σ'⟩ := r
    cases e <;> first
      | rfl
      | exact lim_const _
theorem Lexec_cond (c : Operand) (a b : ACode) (fr : Fr) (σ : St) : Lexec env (.cond c a b) fr σ = match ev fr c with
    | some (.bool true) => Lexec env a fr σ
    | some (.bool false) => Lexec env b fr σ
    | _ => none := by
  unfold Lexec; simp only [exec]
  generalize ev fr c = q
  cases q with
  | none => exact lim_const _
  | some v => cases v <;> first
    | exact lim_const _
    | (rename_i b'; cases b' <;> rfl)
theorem Lexec_block (id : Nat) (b : ACode) (fr : Fr) (σ : St) : Lexec env (.block id b) fr σ = (Lexec env b fr σ).map fun r => match r.1 with
    | .exit i => if i = id then (.normal, r.2.1, r.2.2) else (.exit i, r.2.1, r.2.2)
    | e => (e, r.2.1, r.2.2) := by
  unfold Lexec; simp only [exec]
  refine (lim_map (exec_grow (run_grow env) b fr σ)).trans ?_
  refine congrArg (fun f => Option.map f _) (funext fun r => ?_)
  obtain ⟨e, fr', σ'⟩ := r
  cases e <;> rfl
theorem iter_diag (b : ACode) (live : List Nat) (base : Nat) (fr : Fr) (σ : St) : Grow fun n => iter (exec (run env n) n b) live base n fr σ := fun n r h =>
  iter_grow (B := fun n => exec (run env n) n b) (fun fr σ => exec_grow (run_grow env) b fr σ) n n fr σ r h
theorem Lexec_loop (live : List Nat) (b : ACode) (fr : Fr) (σ : St) : Lexec env (.loop live b) fr σ = (Liter env b live σ.heap.length (fr.keep live) { σ with dirty := [] }).map fun r => (r.1, r.2.1, { r.2.2 with dirty := joinDirty σ.dirty r.2.2.dirty }) := by
  unfold Lexec; simp only [exec]
  rw [lim_map (iter_diag b live _ _ _)]
  rfl
theorem Liter_eq (b : ACode) (live : List Nat) (base : Nat) (fr : Fr) (σ : St) : Liter env b live base fr σ = (Lexec env b fr σ).bind fun r => match r.1 with
    | .normal => (gcFr base (r.2.1.keep live) r.2.2).bind fun q => Liter env b live base q.1 q.2
    | e => some (e, r.2.1, r.2.2) := by
  have g1 : ∀ fr σ, Grow fun n => iter (exec (run env (n + 1)) (n + 1) b) live base n fr σ := fun fr σ n r h =>
    iter_grow (B := fun n => exec (run env (n + 1)) (n + 1) b) (fun fr σ => (exec_grow (run_grow env) b fr σ).shift) n n fr σ r h
  have e1 : ∀ fr σ, lim (fun n => iter (exec (run env (n + 1)) (n + 1) b) live base n fr σ) = Liter env b live base fr σ := fun fr σ => by
    refine lim_ext (g1 fr σ) (iter_diag b live base fr σ) fun r => ⟨fun ⟨n, h⟩ => ⟨n + 1, ?_⟩, fun ⟨n, h⟩ => ⟨n, ?_⟩⟩
    · -- more rounds do no harm
      exact iter_more _ _ h
    · exact iter_body (fun fr σ r h => exec_grow (run_grow env) b fr σ n r h) n fr σ r h
  unfold Liter
  rw [← lim_shift (iter_diag b live base fr σ)]
  simp only [iter]
  refine (lim_bind (f := fun n => exec (run env (n + 1)) (n + 1) b fr σ) (exec_grow (run_grow env) b fr σ).shift fun r => ?_).trans ?_
  · obtain ⟨e, fr', σ'⟩ := r
    cases e with
    | normal => exact Grow.bind (Grow.const _) fun q => g1 _ _
    | _ => exact Grow.const _
  · rw [lim_shift (exec_grow (run_grow env) b fr σ)]
    refine congrArg _ (funext fun r => ?_)
    obtain ⟨e, fr', σ'⟩ := r
    cases e with
    | normal =>
      refine (lim_bind (Grow.const _) fun q => g1 _ _).trans ?_
      rw [lim_const]
      exact congrArg _ (funext fun q => e1 _ _)
    | _ => exact lim_const _
/-- What a function's end makes of a run of its code. -/
def fin (rs : List ARes) (σ : St) (r : Ex × Fr × St) : Option (Value × St) := match r.1 with
    | .exit _ => none
    | _ => (resvs r.2.1 r.2.2 rs).bind fun vs => (resOf vs).bind fun u => (gc σ.heap.length [u] r.2.2).bind fun q => match q.1 with
      | [v] => some (v, { q.2 with dirty := joinDirty σ.dirty q.2.dirty })
      | _ => none
theorem EnvOk.nil {P : Program} : EnvOk P [] := fun i fn h => by cases h
theorem EnvOk.cons {P : Program} {env : Env} {i : Nat} {fn : AFn} {f : Func} (h1 : P.funcs[i]? = some f) (h2 : compFn P f = some fn) (h3 : f.name ≠ "runtime.NumGoroutine") (h : EnvOk P env) : EnvOk P ((i, fn) :: env) := fun k g hk => by
  simp only [Env.fn] at hk
  split at hk
  · rename_i e; subst e; cases hk; exact ⟨f, h1, h2, h3⟩
  · exact h k g hk
theorem Lrun_func (f : Nat) (args : List Value) (σ : St) : Lrun env (.func f) args σ = (env.fn f).bind fun fn => (Lexec env fn.code (argFr 0 args) { σ with dirty := [] }).bind (fin fn.results σ) := by
  unfold Lrun
  rw [← lim_shift (run_grow env (.func f) args σ)]
  simp only [run]
  refine (lim_bind (Grow.const _) fun fn => body_grow (run_grow env) fn args σ).trans ?_
  rw [lim_const]
  refine congrArg _ (funext fun fn => ?_)
  exact lim_bindc (fin fn.results σ) (exec_grow (run_grow env) _ _ _)
end
end AM
end Go.Proofs.Ytfefeikkjebfoaa
