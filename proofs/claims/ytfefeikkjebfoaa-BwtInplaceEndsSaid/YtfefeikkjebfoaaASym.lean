/-
  THE ABSTRACT MACHINE ON VALUES THAT ARE NOT KNOWN: equations by which its runs are followed. Conditions: none.
-/
import Derived.Test.YtfefeikkjebfoaaALim
namespace Go.Proofs.Ytfefeikkjebfoaa
namespace AM
open Go Go.RowKit

section
variable {k k' : IntKind} {a b : Int}
theorem abin_add : abin .add (.int k a) (.int k b) = some (.int k (k.wrap (a + b))) := by simp [abin, binOp, Op.intArith, pureOf, pure]
theorem abin_sub : abin .sub (.int k a) (.int k b) = some (.int k (k.wrap (a - b))) := by simp [abin, binOp, Op.intArith, pureOf, pure]
theorem abin_mul : abin .mul (.int k a) (.int k b) = some (.int k (k.wrap (a * b))) := by simp [abin, binOp, Op.intArith, pureOf, pure]
theorem abin_eql : abin .eql (.int k a) (.int k b) = some (.bool (a == b)) := by simp [abin, binOp, Op.intCmp, pureOf, pure]
theorem abin_neq : abin .neq (.int k a) (.int k b) = some (.bool (a != b)) := by simp [abin, binOp, Op.intCmp, pureOf, pure]
theorem abin_lss : abin .lss (.int k a) (.int k b) = some (.bool (a < b)) := by simp [abin, binOp, Op.intCmp, pureOf, pure]
theorem abin_leq : abin .leq (.int k a) (.int k b) = some (.bool (a ≤ b)) := by simp [abin, binOp, Op.intCmp, pureOf, pure]
theorem abin_gtr : abin .gtr (.int k a) (.int k b) = some (.bool (a > b)) := by simp [abin, binOp, Op.intCmp, pureOf, pure]
theorem abin_geq : abin .geq (.int k a) (.int k b) = some (.bool (a ≥ b)) := by simp [abin, binOp, Op.intCmp, pureOf, pure]
theorem abin_shl : abin .shl (.int k a) (.int k' b) = if b < 0 then none else some (.int k (k.wrap (a * 2 ^ (min b.toNat k.bits)))) := by
  simp only [abin, binOp, Op.shift]; split
  · rfl
  · simp [pureOf, pure]
theorem abin_shr : abin .shr (.int k a) (.int k' b) = if b < 0 then none else some (.int k (a.fdiv (2 ^ (min b.toNat k.bits)))) := by
  simp only [abin, binOp, Op.shift]; split
  · rfl
  · simp [pureOf, pure]
theorem abin_quo : abin .quo (.int k a) (.int k b) = if b = 0 then none else some (.int k (k.wrap (a.tdiv b))) := by
  simp only [abin, binOp, Op.intDiv]; simp only [ne_eq, not_true_eq_false, if_false]; split
  · rfl
  · simp [pureOf, pure]
theorem abin_rem : abin .rem (.int k a) (.int k b) = if b = 0 then none else some (.int k (a.tmod b)) := by
  simp only [abin, binOp, Op.intDiv]; simp only [ne_eq, not_true_eq_false, if_false]; split
  · rfl
  · simp [pureOf, pure]
theorem abin_and : abin .and (.int k a) (.int k b) = some (.int k (k.wrap ((BitVec.ofInt k.bits a &&& BitVec.ofInt k.bits b).toNat))) := by simp [abin, binOp, Op.intBits, pureOf, pure]
theorem abin_or : abin .or (.int k a) (.int k b) = some (.int k (k.wrap ((BitVec.ofInt k.bits a ||| BitVec.ofInt k.bits b).toNat))) := by simp [abin, binOp, Op.intBits, pureOf, pure]
theorem abin_xor : abin .xor (.int k a) (.int k b) = some (.int k (k.wrap ((BitVec.ofInt k.bits a ^^^ BitVec.ofInt k.bits b).toNat))) := by simp [abin, binOp, Op.intBits, pureOf, pure]
end
theorem aun_not {b : Bool} : aun .not (.bool b) = some (.bool !b) := by simp [aun, Op.unary, pureOf, pure]
theorem St.eta (σ : St) : (⟨σ.heap, σ.lock, σ.hid, σ.dirty⟩ : St) = σ := rfl
theorem joinDirty_nil (a : List Nat) : joinDirty a [] = a := rfl

/-! ### The run, one head at a time -/
section
variable {env : Env} {callf : CallF}
noncomputable def thenX (env : Env) (b : ACode) : Option (Ex × Fr × St) → Option (Ex × Fr × St)
  | some (.normal, fr, σ) => Lexec env b fr σ
  | some (e, fr, σ) => some (e, fr, σ)
  | none => none
def blockX (id : Nat) : Option (Ex × Fr × St) → Option (Ex × Fr × St)
  | some (.exit i, fr, σ) => if i = id then some (.normal, fr, σ) else some (.exit i, fr, σ)
  | r => r
def normX : Option (Fr × St) → Option (Ex × Fr × St)
  | some (fr, σ) => some (.normal, fr, σ)
  | none => none
noncomputable def condX (env : Env) (a b : ACode) (fr : Fr) (σ : St) : Option Value → Option (Ex × Fr × St)
  | some (.bool true) => Lexec env a fr σ
  | some (.bool false) => Lexec env b fr σ
  | _ => none
def finX (rs : List ARes) (σ : St) : Option (Ex × Fr × St) → Option (Value × St)
  | some r => fin rs σ r
  | none => none
def opX (callf : CallF) (d : Option Nat) (l : List AOper) (fr : Fr) : Option (Value × St) → Option (Fr × St)
  | some (v, σ) => aops callf l (fr.put d v) σ
  | none => none
def wantX (callf : CallF) (o : AOper) (l : List AOper) (fr : Fr) (σ : St) : Option Bool → Option (Fr × St)
  | some true => opX callf o.dst l fr (aop callf o.op fr σ)
  | some false => aops callf l (fr.put o.dst undefv) σ
  | none => none
theorem Lrun_sym (f : Nat) (args : List Value) (σ : St) {fn : AFn} (h : env.fn f = some fn) : Lrun env (.func f) args σ = finX fn.results σ (Lexec env fn.code (argFr 0 args) { σ with dirty := [] }) := by
  rw [Lrun_func, h, Option.bind_some]
  cases Lexec env fn.code (argFr 0 args) { σ with dirty := [] } <;> rfl
theorem seq_sym (a b : ACode) (fr : Fr) (σ : St) : Lexec env (.seq a b) fr σ = thenX env b (Lexec env a fr σ) := by
  rw [Lexec_seq]
  cases Lexec env a fr σ with
  | none => rfl
  | some r => obtain ⟨e, fr', σ'⟩ := r; cases e <;> rfl
theorem region_sym (ops : List AOper) (fr : Fr) (σ : St) : Lexec env (.region ops) fr σ = normX (aops (Lrun env) ops fr σ) := by
  rw [Lexec_region]
  cases aops (Lrun env) ops fr σ <;> rfl
theorem drawn_sym (ops : List AOper) (fr : Fr) (σ : St) : Lexec env (.drawn ops) fr σ = normX (dops (Lrun env) [] 0 ops fr σ) := by
  rw [Lexec_drawn]
  cases dops (Lrun env) [] 0 ops fr σ <;> rfl
theorem moves_sym (ops : List AOper) (fr : Fr) (σ : St) : Lexec env (.moves ops) fr σ = normX (mops [] ops fr σ) := by
  rw [Lexec_moves]
  cases mops [] ops fr σ <;> rfl
def moX (seen : List (Bool × Nat)) (d : Option Nat) (l : List AOper) (fr : Fr) : Option (Value × St) → Option (Fr × St)
  | some (v, σ) => mops seen l (fr.put d v) σ
  | none => none
def moL (seen : List (Bool × Nat)) (d : Option Nat) (l : List AOper) (fr : Fr) (r : Option (Value × St)) : Option Value → Option (Fr × St)
  | some (.pointer (some a)) => if apart [(false, a.block)] seen then moX ((false, a.block) :: seen) d l fr r else none
  | _ => none
def moS (seen : List (Bool × Nat)) (d : Option Nat) (l : List AOper) (fr : Fr) (r : Option (Value × St)) : Option Value → Option (Fr × St)
  | some (.pointer (some a)) => if apart [(true, a.block)] seen then moX ((true, a.block) :: seen) d l fr r else none
  | _ => none
def FarL : List (Bool × Nat) → Nat → Prop
  | [], b => b = b
  | (true, c) :: l, b => b ≠ c ∧ FarL l b
  | (false, _) :: l, b => FarL l b
def FarS : List (Bool × Nat) → Nat → Prop
  | [], b => b = b
  | (_, c) :: l, b => b ≠ c ∧ FarS l b
theorem FarL_nil (b : Nat) : FarL [] b = (b = b) := rfl
theorem FarL_true (c b : Nat) (l : List (Bool × Nat)) : FarL ((true, c) :: l) b = (b ≠ c ∧ FarL l b) := rfl
theorem FarL_false (c b : Nat) (l : List (Bool × Nat)) : FarL ((false, c) :: l) b = FarL l b := rfl
theorem FarS_nil (b : Nat) : FarS [] b = (b = b) := rfl
theorem FarS_cons (q : Bool) (c b : Nat) (l : List (Bool × Nat)) : FarS ((q, c) :: l) b = (b ≠ c ∧ FarS l b) := rfl
theorem apart_of {q : Bool} {b : Nat} {seen : List (Bool × Nat)} (h : ∀ p ∈ seen, (q = false ∧ p.1 = false) ∨ b ≠ p.2) : apart [(q, b)] seen = true := by
  simp only [apart, List.all_cons, List.all_nil, Bool.and_true, List.all_eq_true]
  intro p hp
  rcases h p hp with ⟨h1, h2⟩ | h1
  · simp [h1, h2]
  · simp [h1]
theorem FarL.all : ∀ {seen : List (Bool × Nat)} {b : Nat}, FarL seen b → ∀ p ∈ seen, (false = false ∧ p.1 = false) ∨ b ≠ p.2
  | [], b, h, p, hp => by cases hp
  | (true, c) :: l, b, h, p, hp => by
    rcases List.mem_cons.1 hp with rfl | hp
    · exact .inr h.1
    · exact FarL.all h.2 p hp
  | (false, c) :: l, b, h, p, hp => by
    rcases List.mem_cons.1 hp with rfl | hp
    · exact .inl ⟨rfl, rfl⟩
    · exact FarL.all (seen := l) h p hp
theorem FarS.all : ∀ {seen : List (Bool × Nat)} {b : Nat}, FarS seen b → ∀ p ∈ seen, (true = false ∧ p.1 = false) ∨ b ≠ p.2
  | [], b, h, p, hp => by cases hp
  | (_, c) :: l, b, h, p, hp => by
    rcases List.mem_cons.1 hp with rfl | hp
    · exact .inr h.1
    · exact FarS.all h.2 p hp
theorem mops_nil (seen : List (Bool × Nat)) (fr : Fr) (σ : St) : mops seen [] fr σ = some (fr, σ) := rfl
theorem mops_mv (seen : List (Bool × Nat)) (d : Option Nat) (b : Nat) (w : Bool) (x : Operand) (l : List AOper) (fr : Fr) (σ : St) : mops seen (⟨d, none, b, w, .mv x⟩ :: l) fr σ = moX seen d l fr (aop noCall (.mv x) fr σ) := by
  simp only [mops, tgt, apart, Option.isSome_none, Bool.false_eq_true, if_false, Option.bind_some, List.all_nil, if_true, List.nil_append]
  cases aop noCall (.mv x) fr σ <;> rfl
theorem mops_load (seen : List (Bool × Nat)) (d : Option Nat) (b : Nat) (w : Bool) (n : Option Nat) (x : Operand) (l : List AOper) (fr : Fr) (σ : St) : mops seen (⟨d, none, b, w, .load n x⟩ :: l) fr σ = moL seen d l fr (aop noCall (.load n x) fr σ) (ev fr x) := by
  simp only [mops, tgt, Option.isSome_none, Bool.false_eq_true, if_false]
  generalize ev fr x = q
  cases q with
  | none => rfl
  | some v => cases v <;> first
    | rfl
    | (rename_i p; cases p <;> first
        | rfl
        | (simp only [moL, Option.bind_some, List.singleton_append, List.cons_append, List.nil_append]
           split <;> first
             | rfl
             | (cases aop noCall (.load n x) fr σ <;> rfl)))
theorem mops_store (seen : List (Bool × Nat)) (d : Option Nat) (b : Nat) (w : Bool) (n : Nat) (x y : Operand) (l : List AOper) (fr : Fr) (σ : St) : mops seen (⟨d, none, b, w, .store n x y⟩ :: l) fr σ = moS seen d l fr (aop noCall (.store n x y) fr σ) (ev fr x) := by
  simp only [mops, tgt, Option.isSome_none, Bool.false_eq_true, if_false]
  generalize ev fr x = q
  cases q with
  | none => rfl
  | some v => cases v <;> first
    | rfl
    | (rename_i p; cases p <;> first
        | rfl
        | (simp only [moS, Option.bind_some, List.singleton_append, List.cons_append, List.nil_append]
           split <;> first
             | rfl
             | (cases aop noCall (.store n x y) fr σ <;> rfl)))
theorem moX_some (seen : List (Bool × Nat)) (d : Option Nat) (l : List AOper) (fr : Fr) (v : Value) (σ : St) : moX seen d l fr (some (v, σ)) = mops seen l (fr.put d v) σ := rfl
theorem moL_some (seen : List (Bool × Nat)) (d : Option Nat) (l : List AOper) (fr : Fr) (r : Option (Value × St)) (a : Addr) (h : FarL seen a.block) : moL seen d l fr r (some (.pointer (some a))) = moX ((false, a.block) :: seen) d l fr r := by
  simp only [moL, apart_of h.all, if_true]
theorem moS_some (seen : List (Bool × Nat)) (d : Option Nat) (l : List AOper) (fr : Fr) (r : Option (Value × St)) (a : Addr) (h : FarS seen a.block) : moS seen d l fr r (some (.pointer (some a))) = moX ((true, a.block) :: seen) d l fr r := by
  simp only [moS, apart_of h.all, if_true]
theorem cond_sym (c : Operand) (a b : ACode) (fr : Fr) (σ : St) : Lexec env (.cond c a b) fr σ = condX env a b fr σ (ev fr c) := by
  rw [Lexec_cond]
  cases ev fr c with
  | none => rfl
  | some v => cases v <;> first
    | rfl
    | (rename_i q; cases q <;> rfl)
theorem block_sym (id : Nat) (b : ACode) (fr : Fr) (σ : St) : Lexec env (.block id b) fr σ = blockX id (Lexec env b fr σ) := by
  rw [Lexec_block]
  cases Lexec env b fr σ with
  | none => rfl
  | some r =>
    obtain ⟨e, fr', σ'⟩ := r
    cases e <;> first
      | rfl
      | (simp only [Option.map_some, blockX]; split <;> rfl)
theorem aops_sym (o : AOper) (l : List AOper) (fr : Fr) (σ : St) : aops callf (o :: l) fr σ = wantX callf o l fr σ (want o fr) := by
  rw [aops]
  cases want o fr with
  | none => rfl
  | some b =>
    cases b with
    | false => rfl
    | true =>
      simp only [Option.bind_some, if_true, wantX]
      cases aop callf o.op fr σ <;> rfl
theorem aops_nil (fr : Fr) (σ : St) : aops callf [] fr σ = some (fr, σ) := rfl
theorem thenX_normal (b : ACode) (fr : Fr) (σ : St) : thenX env b (some (.normal, fr, σ)) = Lexec env b fr σ := rfl
theorem thenX_ret (b : ACode) (fr : Fr) (σ : St) : thenX env b (some (.ret, fr, σ)) = some (.ret, fr, σ) := rfl
theorem thenX_exit (b : ACode) (i : Nat) (fr : Fr) (σ : St) : thenX env b (some (.exit i, fr, σ)) = some (.exit i, fr, σ) := rfl
theorem thenX_ite (b : ACode) (c : Prop) [Decidable c] (x y : Option (Ex × Fr × St)) : thenX env b (if c then x else y) = if c then thenX env b x else thenX env b y := by split <;> rfl
theorem blockX_normal (id : Nat) (fr : Fr) (σ : St) : blockX id (some (.normal, fr, σ)) = some (.normal, fr, σ) := rfl
theorem blockX_ret (id : Nat) (fr : Fr) (σ : St) : blockX id (some (.ret, fr, σ)) = some (.ret, fr, σ) := rfl
theorem blockX_exit (id i : Nat) (fr : Fr) (σ : St) : blockX id (some (.exit i, fr, σ)) = if i = id then some (.normal, fr, σ) else some (.exit i, fr, σ) := rfl
theorem blockX_ite (id : Nat) (c : Prop) [Decidable c] (x y : Option (Ex × Fr × St)) : blockX id (if c then x else y) = if c then blockX id x else blockX id y := by split <;> rfl
theorem normX_some (fr : Fr) (σ : St) : normX (some (fr, σ)) = some (.normal, fr, σ) := rfl
theorem normX_ite (c : Prop) [Decidable c] (x y : Option (Fr × St)) : normX (if c then x else y) = if c then normX x else normX y := by split <;> rfl
theorem condX_bool (a b : ACode) (fr : Fr) (σ : St) (c : Bool) : condX env a b fr σ (some (.bool c)) = if c = true then Lexec env a fr σ else Lexec env b fr σ := by cases c <;> rfl
theorem finX_some (rs : List ARes) (σ : St) (r : Ex × Fr × St) : finX rs σ (some r) = fin rs σ r := rfl
theorem finX_ite (rs : List ARes) (σ : St) (c : Prop) [Decidable c] (x y : Option (Ex × Fr × St)) : finX rs σ (if c then x else y) = if c then finX rs σ x else finX rs σ y := by split <;> rfl
theorem opX_some (d : Option Nat) (l : List AOper) (fr : Fr) (v : Value) (σ : St) : opX callf d l fr (some (v, σ)) = aops callf l (fr.put d v) σ := rfl
theorem opX_ite (d : Option Nat) (l : List AOper) (fr : Fr) (c : Prop) [Decidable c] (x y : Option (Value × St)) : opX callf d l fr (if c then x else y) = if c then opX callf d l fr x else opX callf d l fr y := by split <;> rfl
theorem wantX_some (o : AOper) (l : List AOper) (fr : Fr) (σ : St) (b : Bool) : wantX callf o l fr σ (some b) = if b = true then opX callf o.dst l fr (aop callf o.op fr σ) else aops callf l (fr.put o.dst undefv) σ := by cases b <;> rfl
end
/-! ### The operations, one head at a time -/
def retX (σ : St) : Option Value → Option (Value × St)
  | some v => some (v, σ)
  | none => none
theorem retX_some (σ : St) (v : Value) : retX σ (some v) = some (v, σ) := rfl
theorem retX_none (σ : St) : retX σ none = none := rfl
theorem retX_ite (σ : St) (c : Prop) [Decidable c] (x y : Option Value) : retX σ (if c then x else y) = if c then retX σ x else retX σ y := by split <;> rfl
theorem retX_map (σ : St) (x : Option Value) : x.map (fun v => (v, σ)) = retX σ x := by cases x <;> rfl
def pickX (σ : St) (c x y : Option Value) : Option (Value × St) :=
  match c with
  | some (.bool true) => retX σ x
  | some (.bool false) => retX σ y
  | _ => none
theorem pickX_bool (σ : St) (q : Bool) (x y : Option Value) : pickX σ (some (.bool q)) x y = if q = true then retX σ x else retX σ y := by cases q <;> rfl
def binX (σ : St) (op : BinOp) (x y : Option Value) : Option (Value × St) :=
  match x, y with
  | some v, some w => retX σ (abin op v w)
  | _, _ => none
theorem binX_some (σ : St) (op : BinOp) (v w : Value) : binX σ op (some v) (some w) = retX σ (abin op v w) := rfl
def loadX (σ : St) (n : Option Nat) : Option Value → Option (Value × St)
  | some (.pointer (some a)) => match σ.blk a with
    | some (_, cs) => retX σ (rdCells cs a.off n)
    | none => none
  | _ => none
def cellsX (σ : St) (n : Option Nat) (off : Nat) : Option (Bool × List Value) → Option (Value × St)
  | some (_, cs) => retX σ (rdCells cs off n)
  | none => none
theorem loadX_some (σ : St) (n : Option Nat) (a : Addr) : loadX σ n (some (.pointer (some a))) = cellsX σ n a.off (σ.blk a) := by
  simp only [loadX]; cases σ.blk a <;> rfl
theorem cellsX_some (σ : St) (n : Option Nat) (off : Nat) (pl : Bool) (cs : List Value) : cellsX σ n off (some (pl, cs)) = retX σ (rdCells cs off n) := rfl
def storeX (σ : St) (n : Nat) (a x : Option Value) : Option (Value × St) :=
  match a, x with
  | some (.pointer (some a)), some v => if (cellsOf v).length = n then (match σ.write a (cellsOf v) with | some σ' => some (.tuple #[], σ') | none => none) else none
  | _, _ => none
def wroteX : Option St → Option (Value × St)
  | some σ' => some (.tuple #[], σ')
  | none => none
theorem wroteX_some (σ : St) : wroteX (some σ) = some (.tuple #[], σ) := rfl
theorem storeX_some (σ : St) (n : Nat) (a : Addr) (v : Value) : storeX σ n (some (.pointer (some a))) (some v) = if (cellsOf v).length = n then wroteX (σ.write a (cellsOf v)) else none := by
  simp only [storeX]; cases σ.write a (cellsOf v) <;> rfl
section
variable {callf : CallF} (fr : Fr) (σ : St)
theorem aop_mv (x : Operand) : aop callf (.mv x) fr σ = retX σ (ev fr x) := by simp only [aop, pval, retX_map]
theorem aop_pick (c x y : Operand) : aop callf (.pick c x y) fr σ = pickX σ (ev fr c) (ev fr x) (ev fr y) := by
  simp only [aop, pval, retX_map]
  cases ev fr c with
  | none => rfl
  | some v => cases v <;> first
    | rfl
    | (rename_i q; cases q <;> rfl)
theorem aop_bin (op : BinOp) (x y : Operand) : aop callf (.bin op x y) fr σ = binX σ op (ev fr x) (ev fr y) := by
  simp only [aop, pval, retX_map]
  cases ev fr x with
  | none => rfl
  | some v => cases ev fr y <;> rfl
theorem aop_load (n : Option Nat) (x : Operand) : aop callf (.load n x) fr σ = loadX σ n (ev fr x) := by
  simp only [aop]
  cases ev fr x with
  | none => rfl
  | some v => cases v <;> first
    | rfl
    | (rename_i q; cases q with
       | none => rfl
       | some a => simp only [loadX]; cases σ.blk a with
         | none => rfl
         | some p => obtain ⟨pl, cs⟩ := p; simp only [Option.bind_some, retX_map])
theorem aop_store (n : Nat) (x y : Operand) : aop callf (.store n x y) fr σ = storeX σ n (ev fr x) (ev fr y) := by
  simp only [aop]
  cases ev fr y with
  | none => cases ev fr x with
    | none => rfl
    | some v => cases v <;> first
      | rfl
      | (rename_i q; cases q <;> rfl)
  | some w => cases ev fr x with
    | none => rfl
    | some v => cases v <;> first
      | rfl
      | (rename_i q; cases q with
         | none => rfl
         | some a => simp only [Option.bind_some, storeX]; split <;> cases σ.write a (cellsOf w) <;> rfl)
end
section
variable {callf : CallF}
def dopX (callf : CallF) (born : List (Nat × Nat × Nat)) (j : Nat) (d : Option Nat) (l : List AOper) (fr : Fr) (σ : St) : Option (Value × St) → Option (Fr × St)
  | some (v, τ) => dops callf (if σ.heap.length < τ.heap.length then (j, σ.heap.length, τ.heap.length) :: born else born) (j + 1) l (fr.put d v) ⟨τ.heap, σ.lock, σ.hid, τ.dirty⟩
  | none => none
def dwantX (callf : CallF) (born : List (Nat × Nat × Nat)) (j : Nat) (o : AOper) (l : List AOper) (fr : Fr) (σ : St) : Option Bool → Option (Fr × St)
  | some true => dopX callf born j o.dst l fr σ (aop callf o.op fr ⟨σ.heap, if o.wr then σ.lock else σ.heap.length, hiddenBy o.bef born ++ σ.hid, σ.dirty⟩)
  | some false => dops callf born (j + 1) l (fr.put o.dst undefv) σ
  | none => none
theorem dops_sym (born : List (Nat × Nat × Nat)) (j : Nat) (o : AOper) (l : List AOper) (fr : Fr) (σ : St) : dops callf born j (o :: l) fr σ = dwantX callf born j o l fr σ (want o fr) := by
  rw [dops]
  cases want o fr with
  | none => rfl
  | some b =>
    cases b with
    | false => rfl
    | true =>
      simp only [Option.bind_some, if_true, dwantX]
      cases aop callf o.op fr { σ with lock := if o.wr then σ.lock else σ.heap.length, hid := hiddenBy o.bef born ++ σ.hid } <;> rfl
theorem dops_nil (born : List (Nat × Nat × Nat)) (j : Nat) (fr : Fr) (σ : St) : dops callf born j [] fr σ = some (fr, σ) := rfl
theorem dopX_some (born : List (Nat × Nat × Nat)) (j : Nat) (d : Option Nat) (l : List AOper) (fr : Fr) (σ : St) (v : Value) (τ : St) : dopX callf born j d l fr σ (some (v, τ)) =
    dops callf (if σ.heap.length < τ.heap.length then (j, σ.heap.length, τ.heap.length) :: born else born) (j + 1) l (fr.put d v) ⟨τ.heap, σ.lock, σ.hid, τ.dirty⟩ := rfl
theorem dwantX_some (born : List (Nat × Nat × Nat)) (j : Nat) (o : AOper) (l : List AOper) (fr : Fr) (σ : St) (b : Bool) : dwantX callf born j o l fr σ (some b) =
    if b = true then dopX callf born j o.dst l fr σ (aop callf o.op fr ⟨σ.heap, if o.wr then σ.lock else σ.heap.length, hiddenBy o.bef born ++ σ.hid, σ.dirty⟩) else dops callf born (j + 1) l (fr.put o.dst undefv) σ := by cases b <;> rfl
end
end AM
end Go.Proofs.Ytfefeikkjebfoaa
