/-
  THE ABSTRACT MACHINE ON VALUES THAT ARE NOT KNOWN: equations by which its runs are followed. Conditions: none.
  THE ABSTRACT MACHINE ON VALUES THAT ARE NOT KNOWN: each operation, one head at a time. Conditions: none.
  COLLECTING, FOLLOWED ON STATES THAT ARE NOT KNOWN: nothing new is kept, one new block is kept. Conditions: none.
-/
import Derived.Test.YtpjjkmfidghkjaaALim
set_option linter.all false
section
namespace Go.Proofs.Ytpjjkmfidghkjaa
namespace AM
open Go Go.RowKit

section
variable {k k' : IntKind} {a b : Int}
theorem abin_add : abin .add (.int k a) (.int k b) = some (.int k (k.wrap (a + b))) := by simp [abin, binOp, Op.intArith, pureOf, pure]
theorem abin_sub : abin .sub (.int k a) (.int k b) = some (.int k (k.wrap (a - b))) := by simp [abin, binOp, Op.intArith, pureOf, pure]
theorem abin_mul : abin .mul (.int k a) (.int k b) = some (.int k (k.wrap (a * b))) := by simp [abin, binOp, Op.intArith, pureOf, pure]
theorem abin_eql : abin .eql (.int k a) (.int k b) = some (.bool (a == b)) := by simp [abin, binOp, Op.intCmp, pureOf, pure]
theorem abin_neq : abin .neq (.int k a) (.int k b) = some (.bool (a != b)) := by simp [abin, binOp, Op.intCmp, pureOf, pure]
theorem abin_lss : abin .lss (.int k a) (.int k b) = some (.bool (a < b)) := by simp [abin, binOp, Op.intCmp, pureOf, pure]
theorem abin_leq : abin .leq (.int k a) (.int k b) = some (.bool (a ≤ b)) := by simp [abin, binOp, Op.intCmp, pureOf, pure]
theorem abin_gtr : abin .gtr (.int k a) (.int k b) = some (.bool (a > b)) := by simp [abin, binOp, Op.intCmp, pureOf, pure]
theorem abin_geq : abin .geq (.int k a) (.int k b) = some (.bool (a ≥ b)) := by simp [abin, binOp, Op.intCmp, pureOf, pure]
theorem abin_shl : abin .shl (.int k a) (.int k' b) = if b < 0 then none else some (.int k (k.wrap (a * 2 ^ (min b.toNat k.bits)))) := by
  simp only [abin, binOp, Op.shift]; split
  · rfl
  · simp [pureOf, pure]
theorem abin_shr : abin .shr (.int k a) (.int k' b) = if b < 0 then none else some (.int k (a.fdiv (2 ^ (min b.toNat k.bits)))) := by
  simp only [abin, binOp, Op.shift]; split
  · rfl
  · simp [pureOf, pure]
theorem abin_quo : abin .quo (.int k a) (.int k b) = if b = 0 then none else some (.int k (k.wrap (a.tdiv b))) := by
  simp only [abin, binOp, Op.intDiv]; simp only [ne_eq, not_true_eq_false, if_false]; split
  · rfl
  · simp [pureOf, pure]
theorem abin_rem : abin .rem (.int k a) (.int k b) = if b = 0 then none else some (.int k (a.tmod b)) := by
  simp only [abin, binOp, Op.intDiv]; simp only [ne_eq, not_true_eq_false, if_false]; split
  · rfl
  · simp [pureOf, pure]
theorem abin_and : abin .and (.int k a) (.int k b) = some (.int k (k.wrap ((BitVec.ofInt k.bits a &&& BitVec.ofInt k.bits b).toNat))) := by simp [abin, binOp, Op.intBits, pureOf, pure]
theorem abin_or : abin .or (.int k a) (.int k b) = some (.int k (k.wrap ((BitVec.ofInt k.bits a ||| BitVec.ofInt k.bits b).toNat))) := by simp [abin, binOp, Op.intBits, pureOf, pure]
theorem abin_xor : abin .xor (.int k a) (.int k b) = some (.int k (k.wrap ((BitVec.ofInt k.bits a ^^^ BitVec.ofInt k.bits b).toNat))) := by simp [abin, binOp, Op.intBits, pureOf, pure]
end
theorem aun_not {b : Bool} : aun .not (.bool b) = some (.bool !b) := by simp [aun, Op.unary, pureOf, pure]
theorem St.eta (σ : St) : (⟨σ.heap, σ.lock, σ.hid, σ.dirty⟩ : St) = σ := rfl
theorem joinDirty_nil (a : List Nat) : joinDirty a [] = a := rfl

/-! ### The run, one head at a time -/
section
variable {env : Env} {callf : CallF}
noncomputable def thenX (env : Env) (b : ACode) : Option (Ex × Fr × St) → Option (Ex × Fr × St)
  | some (.normal, fr, σ) => Lexec env b fr σ
  | some (e, fr, σ) => some (e, fr, σ)
  | none => none
def blockX (id : Nat) : Option (Ex × Fr × St) → Option (Ex × Fr × St)
  | some (.exit i, fr, σ) => if i = id then some (.normal, fr, σ) else some (.exit i, fr, σ)
  | r => r
def normX : Option (Fr × St) → Option (Ex × Fr × St)
  | some (fr, σ) => some (.normal, fr, σ)
  | none => none
noncomputable def condX (env : Env) (a b : ACode) (fr : Fr) (σ : St) : Option Value → Option (Ex × Fr × St)
  | some (.bool true) => Lexec env a fr σ
  | some (.bool false) => Lexec env b fr σ
  | _ => none
def finX (rs : List ARes) (σ : St) : Option (Ex × Fr × St) → Option (Value × St)
  | some r => fin rs σ r
  | none => none
def opX (callf : CallF) (d : Option Nat) (l : List AOper) (fr : Fr) : Option (Value × St) → Option (Fr × St)
  | some (v, σ) => aops callf l (fr.put d v) σ
  | none => none
def wantX (callf : CallF) (o : AOper) (l : List AOper) (fr : Fr) (σ : St) : Option Bool → Option (Fr × St)
  | some true => opX callf o.dst l fr (aop callf o.op fr σ)
  | some false => aops callf l (fr.put o.dst undefv) σ
  | none => none
theorem Lrun_sym (f : Nat) (args : List Value) (σ : St) {fn : AFn} (h : env.fn f = some fn) : Lrun env (.func f) args σ = finX fn.results σ (Lexec env fn.code (argFr 0 args) { σ with dirty := [] }) := by
  rw [Lrun_fn h]
  cases Lexec env fn.code (argFr 0 args) { σ with dirty := [] } <;> rfl
theorem seq_sym (a b : ACode) (fr : Fr) (σ : St) : Lexec env (.seq a b) fr σ = thenX env b (Lexec env a fr σ) := by
  rw [Lexec_seq]
  cases Lexec env a fr σ with
  | none => rfl
  | some r => obtain ⟨e, fr', σ'⟩ := r; cases e <;> rfl
theorem region_sym (ops : List AOper) (fr : Fr) (σ : St) : Lexec env (.region ops) fr σ = normX (aops (Lrun env) ops fr σ) := by
  rw [Lexec_region]
  cases aops (Lrun env) ops fr σ <;> rfl
theorem drawn_sym (ops : List AOper) (fr : Fr) (σ : St) : Lexec env (.drawn ops) fr σ = normX (dops (noYield (Lrun env)) [] 0 ops fr σ) := by
  rw [Lexec_drawn]
  cases dops (noYield (Lrun env)) [] 0 ops fr σ <;> rfl
theorem noYield_func (c : CallF) (f : FuncId) (vs : List Value) (σ : St) : noYield c (.func f) vs σ = c (.func f) vs σ := rfl
def eachZ (fr : Fr) (σ : St) : Option (List Value × St) → Option (Ex × Fr × St)
  | some (_, τ) => some (.normal, fr, ⟨τ.heap, τ.lock, τ.hid, joinDirty σ.dirty τ.dirty⟩)
  | none => none
def eachY (fr : Fr) (σ : St) : Option (Ex × Fr × St) → Option (Ex × Fr × St)
  | some (.normal, _, τ) => eachZ fr σ (gc σ.heap.length [] τ)
  | some (.ret, _, τ) => eachZ fr σ (gc σ.heap.length [] τ)
  | _ => none
noncomputable def eachX (env : Env) (g : Nat) (gk : ACode) (ps : List Nat) (ba b : ACode) (fr : Fr) (σ : St) : Option Value → Option (Ex × Fr × St)
  | some (.func (.func h) fi ca) => if h == g && fi.isEmpty then eachY fr σ (Lexec (.yl env ps ba b fr) gk (argFr 0 (.func (.yield 0) #[] #[] :: ca.toList)) { σ with dirty := [] }) else none
  | _ => none
theorem each_sym (x : Operand) (g : Nat) (gk : ACode) (ps : List Nat) (ba b : ACode) (fr : Fr) (σ : St) : Lexec env (.each x g gk ps ba b) fr σ = eachX env g gk ps ba b fr σ (ev fr x) := by
  have key : ∀ r : Option (Ex × Fr × St), r.bind (eachEnd fr σ) = eachY fr σ r := fun r => by
    cases r with
    | none => rfl
    | some r =>
      obtain ⟨e, fr', τ⟩ := r
      cases e with
      | exit id => rfl
      | normal =>
        simp only [Option.bind_some, eachEnd, eachY]
        cases gc σ.heap.length [] τ <;> rfl
      | ret =>
        simp only [Option.bind_some, eachEnd, eachY]
        cases gc σ.heap.length [] τ <;> rfl
  rw [Lexec_each]
  generalize ev fr x = q
  cases q with
  | none => rfl
  | some v =>
    cases v <;> first
      | rfl
      | skip
    rename_i h fi ca
    cases h <;> first
      | rfl
      | skip
    rename_i h
    simp only [eachX]
    rw [key]
    rfl
theorem eachX_some (g : Nat) (gk : ACode) (ps : List Nat) (ba b : ACode) (fr : Fr) (hp : List Blk) (L : Nat) (H d : List Nat) (ca : Array Value) :
    eachX env g gk ps ba b fr ⟨hp, L, H, d⟩ (some (.func (.func g) #[] ca)) = eachY fr ⟨hp, L, H, d⟩ (Lexec (.yl env ps ba b fr) gk (argFr 0 (.func (.yield 0) #[] #[] :: ca.toList)) ⟨hp, L, H, []⟩) := by simp [eachX]
theorem eachY_normal (fr fr' : Fr) (σ τ : St) : eachY fr σ (some (.normal, fr', τ)) = eachZ fr σ (gc σ.heap.length [] τ) := rfl
theorem eachY_ret (fr fr' : Fr) (σ τ : St) : eachY fr σ (some (.ret, fr', τ)) = eachZ fr σ (gc σ.heap.length [] τ) := rfl
theorem eachZ_some (fr : Fr) (σ τ : St) (vs : List Value) : eachZ fr σ (some (vs, τ)) = some (.normal, fr, ⟨τ.heap, τ.lock, τ.hid, joinDirty σ.dirty τ.dirty⟩) := rfl
def roundZ (σ : St) : Option (List Value × St) → Option (Value × St)
  | some (_, τ) => some (.bool true, ⟨τ.heap, τ.lock, τ.hid, joinDirty σ.dirty τ.dirty⟩)
  | none => none
def roundY (σ : St) : Option (Ex × Fr × St) → Option (Value × St)
  | some (.normal, _, τ) => roundZ σ (gc σ.heap.length [] τ)
  | _ => none
noncomputable def roundX (env : Env) (b : ACode) (σ : St) : Option (Ex × Fr × St) → Option (Value × St)
  | some (.normal, fr, τ) => roundY σ (Lexec env b fr τ)
  | _ => none
theorem round_sym (ps : List Nat) (ba b : ACode) (fr : Fr) (k : Nat) (args : List Value) (σ : St) (h : (args.length = ps.length) ∧ args.all plainArg = true) :
    Lrun (.yl env ps ba b fr) (.yield k) args σ = roundX env b σ (Lexec env ba (ps.zip args ++ fr) { σ with dirty := [] }) := by
  rw [Lrun_yl_yield]
  unfold roundF
  rw [if_pos (by simp [h.1, h.2])]
  cases Lexec env ba (ps.zip args ++ fr) { σ with dirty := [] } with
  | none => rfl
  | some r =>
    obtain ⟨e, fr', τ⟩ := r
    cases e with
    | normal =>
      simp only [Option.bind_some, roundX]
      cases Lexec env b fr' τ with
      | none => rfl
      | some r =>
        obtain ⟨e, fr2, τ2⟩ := r
        cases e with
        | normal =>
          simp only [Option.bind_some, roundY]
          cases gc σ.heap.length [] τ2 <;> rfl
        | _ => rfl
    | _ => rfl
theorem roundX_normal (b : ACode) (σ τ : St) (fr : Fr) : roundX env b σ (some (.normal, fr, τ)) = roundY σ (Lexec env b fr τ) := rfl
theorem roundY_normal (σ τ : St) (fr : Fr) : roundY σ (some (.normal, fr, τ)) = roundZ σ (gc σ.heap.length [] τ) := rfl
theorem roundZ_some (σ τ : St) (vs : List Value) : roundZ σ (some (vs, τ)) = some (.bool true, ⟨τ.heap, τ.lock, τ.hid, joinDirty σ.dirty τ.dirty⟩) := rfl
def movesX (callf : CallF) (m : Bool) (ops : List AOper) (fr : Fr) (σ : St) : Option (List Nat) → Option (Ex × Fr × St)
  | some B => normX (mops callf m B [] ops fr σ)
  | none => none
theorem moves_sym (xs : List Nat) (m : Bool) (ops : List AOper) (fr : Fr) (σ : St) : Lexec env (.moves xs m ops) fr σ = movesX (noYield (Lrun env)) m ops fr σ (boxes fr xs) := by
  rw [Lexec_moves]
  cases boxes fr xs with
  | none => rfl
  | some B =>
    simp only [Option.bind_some, movesX]
    cases mops (noYield (Lrun env)) m B [] ops fr σ <;> rfl
theorem movesX_some (callf : CallF) (m : Bool) (ops : List AOper) (fr : Fr) (σ : St) (B : List Nat) : movesX callf m ops fr σ (some B) = normX (mops callf m B [] ops fr σ) := rfl
def bxsX : Option Value → Option (List Nat) → Option (List Nat)
  | some (.pointer (some a)), some B => some (a.block :: B)
  | some (.slice (some a) _ _), some B => some (a.block :: B)
  | _, _ => none
theorem boxes_nil (fr : Fr) : boxes fr [] = some [] := rfl
theorem boxes_cons (fr : Fr) (x : Nat) (l : List Nat) : boxes fr (x :: l) = bxsX (fr.get x) (boxes fr l) := by
  simp only [boxes]
  generalize fr.get x = q
  cases q with
  | none => rfl
  | some v => cases v <;> first
    | rfl
    | (rename_i p; cases p <;> first | rfl | (cases boxes fr l <;> rfl))
    | (rename_i p _ _; cases p <;> first | rfl | (cases boxes fr l <;> rfl))
theorem bxsX_sl (a : Addr) (n e : Nat) (B : List Nat) : bxsX (some (.slice (some a) n e)) (some B) = some (a.block :: B) := rfl
theorem bxsX_some (a : Addr) (B : List Nat) : bxsX (some (.pointer (some a))) (some B) = some (a.block :: B) := rfl
/-- Behind a free operation. -/
def moF (callf : CallF) (m : Bool) (B : List Nat) (seen : List (Bool × Nat)) (d : Option Nat) (l : List AOper) (fr : Fr) : Option (Value × St) → Option (List (Bool × Nat)) → Option (Fr × St)
  | some (v, σ), some tg => if apart tg seen && (!m || tg.all fun p => B.contains p.2) then mops callf m B (tg ++ seen) l (fr.put d v) σ else none
  | _, _ => none
/-- Behind one that is not free. -/
def moM (callf : CallF) (B : List Nat) (seen : List (Bool × Nat)) (d : Option Nat) (l : List AOper) (fr : Fr) (H : List Nat) : Option (Value × St) → Option (Fr × St)
  | some (v, σ) => mops callf true B seen l (fr.put d v) ⟨σ.heap, σ.lock, H, σ.dirty⟩
  | none => none
def mgoX (callf : CallF) (m : Bool) (B : List Nat) (seen : List (Bool × Nat)) (o : AOper) (l : List AOper) (fr : Fr) (σ : St) : Option (Fr × St) :=
  if o.wr then (if m then moM callf B seen o.dst l fr σ.hid (aop callf o.op fr ⟨σ.heap, σ.lock, B ++ σ.hid, σ.dirty⟩) else none) else moF callf m B seen o.dst l fr (aop noCall o.op fr σ) (tgt fr o.op)
def mwantX (callf : CallF) (m : Bool) (B : List Nat) (seen : List (Bool × Nat)) (o : AOper) (l : List AOper) (fr : Fr) (σ : St) : Option Bool → Option (Fr × St)
  | some true => mgoX callf m B seen o l fr σ
  | some false => mops callf m B seen l (fr.put o.dst undefv) σ
  | none => none
theorem mops_sym (callf : CallF) (m : Bool) (B : List Nat) (seen : List (Bool × Nat)) (o : AOper) (l : List AOper) (fr : Fr) (σ : St) : mops callf m B seen (o :: l) fr σ = mwantX callf m B seen o l fr σ (want o fr) := by
  simp only [mops]
  cases want o fr with
  | none => rfl
  | some b =>
    simp only [Option.bind_some]
    cases b with
    | false => rfl
    | true =>
      simp only [if_true, mwantX, mgoX]
      split
      · split
        · rename_i hm
          subst hm
          cases aop callf o.op fr { σ with hid := B ++ σ.hid } <;> rfl
        · rfl
      · cases tgt fr o.op with
        | none => cases aop noCall o.op fr σ <;> rfl
        | some tg =>
          simp only [Option.bind_some]
          cases aop noCall o.op fr σ with
          | none => simp only [Option.bind_none, moF, ite_self]
          | some r => rfl
theorem mwantX_true (callf : CallF) (m : Bool) (B : List Nat) (seen : List (Bool × Nat)) (o : AOper) (l : List AOper) (fr : Fr) (σ : St) : mwantX callf m B seen o l fr σ (some true) = mgoX callf m B seen o l fr σ := rfl
theorem mgoX_free (callf : CallF) (m : Bool) (B : List Nat) (seen : List (Bool × Nat)) (d : Option Nat) (g : Option (Nat × Bool)) (b : Nat) (op : AOp) (l : List AOper) (fr : Fr) (σ : St) : mgoX callf m B seen ⟨d, g, b, false, op⟩ l fr σ = moF callf m B seen d l fr (aop noCall op fr σ) (tgt fr op) := rfl
theorem mgoX_bound (callf : CallF) (B : List Nat) (seen : List (Bool × Nat)) (d : Option Nat) (g : Option (Nat × Bool)) (b : Nat) (op : AOp) (l : List AOper) (fr : Fr) (σ : St) : mgoX callf true B seen ⟨d, g, b, true, op⟩ l fr σ = moM callf B seen d l fr σ.hid (aop callf op fr ⟨σ.heap, σ.lock, B ++ σ.hid, σ.dirty⟩) := rfl
theorem moM_some (callf : CallF) (B : List Nat) (seen : List (Bool × Nat)) (d : Option Nat) (l : List AOper) (fr : Fr) (H : List Nat) (v : Value) (σ : St) : moM callf B seen d l fr H (some (v, σ)) = mops callf true B seen l (fr.put d v) ⟨σ.heap, σ.lock, H, σ.dirty⟩ := rfl
def tgL (q : Bool) : Option Value → Option (List (Bool × Nat))
  | some (.pointer (some a)) => some [(q, a.block)]
  | _ => none
theorem tgt_load (fr : Fr) (n : Option Nat) (x : Operand) : tgt fr (.load n x) = tgL false (ev fr x) := by
  simp only [tgt]
  generalize ev fr x = q
  cases q with
  | none => rfl
  | some v => cases v <;> first | rfl | (rename_i p; cases p <;> rfl)
theorem tgt_store (fr : Fr) (n : Nat) (x y : Operand) : tgt fr (.store n x y) = tgL true (ev fr x) := by
  simp only [tgt]
  generalize ev fr x = q
  cases q with
  | none => rfl
  | some v => cases v <;> first | rfl | (rename_i p; cases p <;> rfl)
theorem tgL_some (q : Bool) (a : Addr) : tgL q (some (.pointer (some a))) = some [(q, a.block)] := rfl
theorem tgt_mv (fr : Fr) (x : Operand) : tgt fr (.mv x) = some [] := rfl
theorem tgt_pick (fr : Fr) (x y z : Operand) : tgt fr (.pick x y z) = some [] := rfl
theorem tgt_build (fr : Fr) (zs : List Value) (ps : List (Nat × Nat × Operand)) : tgt fr (.build zs ps) = some [] := rfl
theorem tgt_nilck (fr : Fr) (x : Operand) : tgt fr (.nilck x) = some [] := rfl
theorem tgt_bin (fr : Fr) (op : BinOp) (x y : Operand) : tgt fr (.bin op x y) = some [] := rfl
theorem tgt_eqs (fr : Fr) (n : Bool) (sh : EqK) (x y : Operand) : tgt fr (.eqs n sh x y) = some [] := rfl
theorem tgt_un (fr : Fr) (op : UnOp) (x : Operand) : tgt fr (.un op x) = some [] := rfl
theorem tgt_conv (fr : Fr) (k : IntKind) (x : Operand) : tgt fr (.conv k x) = some [] := rfl
theorem tgt_slice (fr : Fr) (e : Nat) (x : Operand) (a b c : Option Operand) : tgt fr (.slice e x a b c) = some [] := rfl
theorem tgt_slices (fr : Fr) (x : Operand) (a b : Option Operand) : tgt fr (.slices x a b) = some [] := rfl
theorem tgt_faddr (fr : Fr) (n : Nat) (x : Operand) : tgt fr (.faddr n x) = some [] := rfl
theorem tgt_field (fr : Fr) (o : Nat) (n : Option Nat) (x : Operand) : tgt fr (.field o n x) = some [] := rfl
theorem tgt_iaddr (fr : Fr) (e : Nat) (x i : Operand) : tgt fr (.iaddr e x i) = some [] := rfl
theorem tgt_iaddra (fr : Fr) (e n : Nat) (x i : Operand) : tgt fr (.iaddra e n x i) = some [] := rfl
theorem tgt_idx (fr : Fr) (e n : Nat) (m : Option Nat) (x i : Operand) : tgt fr (.idx e n m x i) = some [] := rfl
theorem tgt_ext (fr : Fr) (x : Operand) (i : Nat) : tgt fr (.ext x i) = some [] := rfl
theorem tgt_len (fr : Fr) (x : Operand) : tgt fr (.len x) = some [] := rfl
theorem tgt_lens (fr : Fr) (x : Operand) : tgt fr (.lens x) = some [] := rfl
theorem tgt_lena (fr : Fr) (n : Nat) : tgt fr (.lena n) = some [] := rfl
theorem tgt_mm (fr : Fr) (mx : Bool) (xs : List Operand) : tgt fr (.mm mx xs) = some [] := rfl
/-- In the list. -/
def MemB : List Nat → Nat → Prop
  | [], _ => False
  | c :: l, b => b = c ∨ MemB l b
theorem MemB_nil (b : Nat) : MemB [] b = False := rfl
theorem MemB_cons (c b : Nat) (l : List Nat) : MemB (c :: l) b = (b = c ∨ MemB l b) := rfl
theorem MemB.has : ∀ {B : List Nat} {b : Nat}, MemB B b → B.contains b = true
  | c :: l, b, h => by
    rcases h with rfl | h
    · simp
    · have := MemB.has (B := l) h
      simp only [List.contains_cons, this, Bool.or_true]
def FarL : List (Bool × Nat) → Nat → Prop
  | [], b => b = b
  | (true, c) :: l, b => b ≠ c ∧ FarL l b
  | (false, _) :: l, b => FarL l b
def FarS : List (Bool × Nat) → Nat → Prop
  | [], b => b = b
  | (_, c) :: l, b => b ≠ c ∧ FarS l b
theorem FarL_nil (b : Nat) : FarL [] b = (b = b) := rfl
theorem FarL_true (c b : Nat) (l : List (Bool × Nat)) : FarL ((true, c) :: l) b = (b ≠ c ∧ FarL l b) := rfl
theorem FarL_false (c b : Nat) (l : List (Bool × Nat)) : FarL ((false, c) :: l) b = FarL l b := rfl
theorem FarS_nil (b : Nat) : FarS [] b = (b = b) := rfl
theorem FarS_cons (q : Bool) (c b : Nat) (l : List (Bool × Nat)) : FarS ((q, c) :: l) b = (b ≠ c ∧ FarS l b) := rfl
theorem apart_of {q : Bool} {b : Nat} {seen : List (Bool × Nat)} (h : ∀ p ∈ seen, (q = false ∧ p.1 = false) ∨ b ≠ p.2) : apart [(q, b)] seen = true := by
  simp only [apart, List.all_cons, List.all_nil, Bool.and_true, List.all_eq_true]
  intro p hp
  rcases h p hp with ⟨h1, h2⟩ | h1
  · simp [h1, h2]
  · simp [h1]
theorem FarL.all : ∀ {seen : List (Bool × Nat)} {b : Nat}, FarL seen b → ∀ p ∈ seen, (false = false ∧ p.1 = false) ∨ b ≠ p.2
  | [], b, h, p, hp => by cases hp
  | (true, c) :: l, b, h, p, hp => by
    rcases List.mem_cons.1 hp with rfl | hp
    · exact .inr h.1
    · exact FarL.all h.2 p hp
  | (false, c) :: l, b, h, p, hp => by
    rcases List.mem_cons.1 hp with rfl | hp
    · exact .inl ⟨rfl, rfl⟩
    · exact FarL.all (seen := l) h p hp
theorem FarS.all : ∀ {seen : List (Bool × Nat)} {b : Nat}, FarS seen b → ∀ p ∈ seen, (true = false ∧ p.1 = false) ∨ b ≠ p.2
  | [], b, h, p, hp => by cases hp
  | (_, c) :: l, b, h, p, hp => by
    rcases List.mem_cons.1 hp with rfl | hp
    · exact .inr h.1
    · exact FarS.all h.2 p hp
theorem mops_nil (callf : CallF) (m : Bool) (B : List Nat) (seen : List (Bool × Nat)) (fr : Fr) (σ : St) : mops callf m B seen [] fr σ = some (fr, σ) := rfl
theorem moF_nil (callf : CallF) (m : Bool) (B : List Nat) (seen : List (Bool × Nat)) (d : Option Nat) (l : List AOper) (fr : Fr) (v : Value) (σ : St) : moF callf m B seen d l fr (some (v, σ)) (some []) = mops callf m B seen l (fr.put d v) σ := by
  simp [moF, apart]
theorem moF_loadF (callf : CallF) (B : List Nat) (seen : List (Bool × Nat)) (d : Option Nat) (l : List AOper) (fr : Fr) (v : Value) (σ : St) (b : Nat) (h : FarL seen b) : moF callf false B seen d l fr (some (v, σ)) (some [(false, b)]) = mops callf false B ((false, b) :: seen) l (fr.put d v) σ := by
  simp [moF, apart_of h.all]
theorem moF_loadT (callf : CallF) (B : List Nat) (seen : List (Bool × Nat)) (d : Option Nat) (l : List AOper) (fr : Fr) (v : Value) (σ : St) (b : Nat) (h : FarL seen b) (hB : MemB B b) : moF callf true B seen d l fr (some (v, σ)) (some [(false, b)]) = mops callf true B ((false, b) :: seen) l (fr.put d v) σ := by
  simp only [moF, apart_of h.all, List.all_cons, List.all_nil, hB.has, Bool.true_and, Bool.and_true, Bool.or_true, if_true, List.cons_append, List.nil_append]
theorem moF_storeF (callf : CallF) (B : List Nat) (seen : List (Bool × Nat)) (d : Option Nat) (l : List AOper) (fr : Fr) (v : Value) (σ : St) (b : Nat) (h : FarS seen b) : moF callf false B seen d l fr (some (v, σ)) (some [(true, b)]) = mops callf false B ((true, b) :: seen) l (fr.put d v) σ := by
  simp [moF, apart_of h.all]
theorem moF_storeT (callf : CallF) (B : List Nat) (seen : List (Bool × Nat)) (d : Option Nat) (l : List AOper) (fr : Fr) (v : Value) (σ : St) (b : Nat) (h : FarS seen b) (hB : MemB B b) : moF callf true B seen d l fr (some (v, σ)) (some [(true, b)]) = mops callf true B ((true, b) :: seen) l (fr.put d v) σ := by
  simp only [moF, apart_of h.all, List.all_cons, List.all_nil, hB.has, Bool.true_and, Bool.and_true, Bool.or_true, if_true, List.cons_append, List.nil_append]
theorem cond_sym (c : Operand) (a b : ACode) (fr : Fr) (σ : St) : Lexec env (.cond c a b) fr σ = condX env a b fr σ (ev fr c) := by
  rw [Lexec_cond]
  cases ev fr c with
  | none => rfl
  | some v => cases v <;> first
    | rfl
    | (rename_i q; cases q <;> rfl)
theorem block_sym (id : Nat) (b : ACode) (fr : Fr) (σ : St) : Lexec env (.block id b) fr σ = blockX id (Lexec env b fr σ) := by
  rw [Lexec_block]
  cases Lexec env b fr σ with
  | none => rfl
  | some r =>
    obtain ⟨e, fr', σ'⟩ := r
    cases e <;> first
      | rfl
      | (simp only [Option.map_some, blockX]; split <;> rfl)
theorem aops_sym (o : AOper) (l : List AOper) (fr : Fr) (σ : St) : aops callf (o :: l) fr σ = wantX callf o l fr σ (want o fr) := by
  rw [aops]
  cases want o fr with
  | none => rfl
  | some b =>
    cases b with
    | false => rfl
    | true =>
      simp only [Option.bind_some, if_true, wantX]
      cases aop callf o.op fr σ <;> rfl
theorem aops_nil (fr : Fr) (σ : St) : aops callf [] fr σ = some (fr, σ) := rfl
theorem thenX_normal (b : ACode) (fr : Fr) (σ : St) : thenX env b (some (.normal, fr, σ)) = Lexec env b fr σ := rfl
theorem thenX_ret (b : ACode) (fr : Fr) (σ : St) : thenX env b (some (.ret, fr, σ)) = some (.ret, fr, σ) := rfl
theorem thenX_exit (b : ACode) (i : Nat) (fr : Fr) (σ : St) : thenX env b (some (.exit i, fr, σ)) = some (.exit i, fr, σ) := rfl
theorem thenX_ite (b : ACode) (c : Prop) [Decidable c] (x y : Option (Ex × Fr × St)) : thenX env b (if c then x else y) = if c then thenX env b x else thenX env b y := by split <;> rfl
theorem blockX_normal (id : Nat) (fr : Fr) (σ : St) : blockX id (some (.normal, fr, σ)) = some (.normal, fr, σ) := rfl
theorem blockX_ret (id : Nat) (fr : Fr) (σ : St) : blockX id (some (.ret, fr, σ)) = some (.ret, fr, σ) := rfl
theorem blockX_exit (id i : Nat) (fr : Fr) (σ : St) : blockX id (some (.exit i, fr, σ)) = if i = id then some (.normal, fr, σ) else some (.exit i, fr, σ) := rfl
theorem blockX_ite (id : Nat) (c : Prop) [Decidable c] (x y : Option (Ex × Fr × St)) : blockX id (if c then x else y) = if c then blockX id x else blockX id y := by split <;> rfl
theorem normX_some (fr : Fr) (σ : St) : normX (some (fr, σ)) = some (.normal, fr, σ) := rfl
theorem normX_ite (c : Prop) [Decidable c] (x y : Option (Fr × St)) : normX (if c then x else y) = if c then normX x else normX y := by split <;> rfl
theorem condX_bool (a b : ACode) (fr : Fr) (σ : St) (c : Bool) : condX env a b fr σ (some (.bool c)) = if c = true then Lexec env a fr σ else Lexec env b fr σ := by cases c <;> rfl
theorem finX_some (rs : List ARes) (σ : St) (r : Ex × Fr × St) : finX rs σ (some r) = fin rs σ r := rfl
theorem finX_ite (rs : List ARes) (σ : St) (c : Prop) [Decidable c] (x y : Option (Ex × Fr × St)) : finX rs σ (if c then x else y) = if c then finX rs σ x else finX rs σ y := by split <;> rfl
theorem opX_some (d : Option Nat) (l : List AOper) (fr : Fr) (v : Value) (σ : St) : opX callf d l fr (some (v, σ)) = aops callf l (fr.put d v) σ := rfl
theorem opX_ite (d : Option Nat) (l : List AOper) (fr : Fr) (c : Prop) [Decidable c] (x y : Option (Value × St)) : opX callf d l fr (if c then x else y) = if c then opX callf d l fr x else opX callf d l fr y := by split <;> rfl
theorem wantX_some (o : AOper) (l : List AOper) (fr : Fr) (σ : St) (b : Bool) : wantX callf o l fr σ (some b) = if b = true then opX callf o.dst l fr (aop callf o.op fr σ) else aops callf l (fr.put o.dst undefv) σ := by cases b <;> rfl
end
/-! ### The operations, one head at a time -/
def retX (σ : St) : Option Value → Option (Value × St)
  | some v => some (v, σ)
  | none => none
theorem retX_some (σ : St) (v : Value) : retX σ (some v) = some (v, σ) := rfl
theorem retX_none (σ : St) : retX σ none = none := rfl
theorem retX_ite (σ : St) (c : Prop) [Decidable c] (x y : Option Value) : retX σ (if c then x else y) = if c then retX σ x else retX σ y := by split <;> rfl
theorem retX_map (σ : St) (x : Option Value) : x.map (fun v => (v, σ)) = retX σ x := by cases x <;> rfl
def pickX (σ : St) (c x y : Option Value) : Option (Value × St) :=
  match c with
  | some (.bool true) => retX σ x
  | some (.bool false) => retX σ y
  | _ => none
theorem pickX_bool (σ : St) (q : Bool) (x y : Option Value) : pickX σ (some (.bool q)) x y = if q = true then retX σ x else retX σ y := by cases q <;> rfl
def binX (σ : St) (op : BinOp) (x y : Option Value) : Option (Value × St) :=
  match x, y with
  | some v, some w => retX σ (abin op v w)
  | _, _ => none
theorem binX_some (σ : St) (op : BinOp) (v w : Value) : binX σ op (some v) (some w) = retX σ (abin op v w) := rfl
def loadX (σ : St) (n : Option Nat) : Option Value → Option (Value × St)
  | some (.pointer (some a)) => match σ.blk a with
    | some (_, cs) => retX σ (rdCells cs a.off n)
    | none => none
  | _ => none
def cellsX (σ : St) (n : Option Nat) (off : Nat) : Option (Bool × List Value) → Option (Value × St)
  | some (_, cs) => retX σ (rdCells cs off n)
  | none => none
theorem loadX_some (σ : St) (n : Option Nat) (a : Addr) : loadX σ n (some (.pointer (some a))) = cellsX σ n a.off (σ.blk a) := by
  simp only [loadX]; cases σ.blk a <;> rfl
theorem cellsX_some (σ : St) (n : Option Nat) (off : Nat) (pl : Bool) (cs : List Value) : cellsX σ n off (some (pl, cs)) = retX σ (rdCells cs off n) := rfl
def storeX (σ : St) (n : Nat) (a x : Option Value) : Option (Value × St) :=
  match a, x with
  | some (.pointer (some a)), some v => if (cellsOf v).length = n then (match σ.write a (cellsOf v) with | some σ' => some (.tuple #[], σ') | none => none) else none
  | _, _ => none
def wroteX : Option St → Option (Value × St)
  | some σ' => some (.tuple #[], σ')
  | none => none
theorem wroteX_some (σ : St) : wroteX (some σ) = some (.tuple #[], σ) := rfl
theorem storeX_some (σ : St) (n : Nat) (a : Addr) (v : Value) : storeX σ n (some (.pointer (some a))) (some v) = if (cellsOf v).length = n then wroteX (σ.write a (cellsOf v)) else none := by
  simp only [storeX]; cases σ.write a (cellsOf v) <;> rfl
section
variable {callf : CallF} (fr : Fr) (σ : St)
theorem aop_mv (x : Operand) : aop callf (.mv x) fr σ = retX σ (ev fr x) := by simp only [aop, pval, retX_map]
theorem aop_pick (c x y : Operand) : aop callf (.pick c x y) fr σ = pickX σ (ev fr c) (ev fr x) (ev fr y) := by
  simp only [aop, pval, retX_map]
  cases ev fr c with
  | none => rfl
  | some v => cases v <;> first
    | rfl
    | (rename_i q; cases q <;> rfl)
theorem aop_bin (op : BinOp) (x y : Operand) : aop callf (.bin op x y) fr σ = binX σ op (ev fr x) (ev fr y) := by
  simp only [aop, pval, retX_map]
  cases ev fr x with
  | none => rfl
  | some v => cases ev fr y <;> rfl
theorem aop_load (n : Option Nat) (x : Operand) : aop callf (.load n x) fr σ = loadX σ n (ev fr x) := by
  simp only [aop]
  cases ev fr x with
  | none => rfl
  | some v => cases v <;> first
    | rfl
    | (rename_i q; cases q with
       | none => rfl
       | some a => simp only [loadX]; cases σ.blk a with
         | none => rfl
         | some p => obtain ⟨pl, cs⟩ := p; simp only [Option.bind_some, retX_map])
theorem aop_store (n : Nat) (x y : Operand) : aop callf (.store n x y) fr σ = storeX σ n (ev fr x) (ev fr y) := by
  simp only [aop]
  cases ev fr y with
  | none => cases ev fr x with
    | none => rfl
    | some v => cases v <;> first
      | rfl
      | (rename_i q; cases q <;> rfl)
  | some w => cases ev fr x with
    | none => rfl
    | some v => cases v <;> first
      | rfl
      | (rename_i q; cases q with
         | none => rfl
         | some a => simp only [Option.bind_some, storeX]; split <;> cases σ.write a (cellsOf w) <;> rfl)
end
section
variable {callf : CallF}
def dopX (callf : CallF) (born : List (Nat × Nat × Nat)) (j : Nat) (d : Option Nat) (l : List AOper) (fr : Fr) (σ : St) : Option (Value × St) → Option (Fr × St)
  | some (v, τ) => dops callf (if σ.heap.length < τ.heap.length then (j, σ.heap.length, τ.heap.length) :: born else born) (j + 1) l (fr.put d v) ⟨τ.heap, σ.lock, σ.hid, τ.dirty⟩
  | none => none
def dwantX (callf : CallF) (born : List (Nat × Nat × Nat)) (j : Nat) (o : AOper) (l : List AOper) (fr : Fr) (σ : St) : Option Bool → Option (Fr × St)
  | some true => dopX callf born j o.dst l fr σ (aop callf o.op fr ⟨σ.heap, lockD o.wr (ownO o) born σ.lock σ.heap.length, hiddenBy o.bef born ++ σ.hid, σ.dirty⟩)
  | some false => dops callf born (j + 1) l (fr.put o.dst undefv) σ
  | none => none
theorem dops_sym (born : List (Nat × Nat × Nat)) (j : Nat) (o : AOper) (l : List AOper) (fr : Fr) (σ : St) : dops callf born j (o :: l) fr σ = dwantX callf born j o l fr σ (want o fr) := by
  rw [dops]
  cases want o fr with
  | none => rfl
  | some b =>
    cases b with
    | false => rfl
    | true =>
      simp only [Option.bind_some, if_true, dwantX]
      cases aop callf o.op fr { σ with lock := lockD o.wr (ownO o) born σ.lock σ.heap.length, hid := hiddenBy o.bef born ++ σ.hid } <;> rfl
theorem dops_nil (born : List (Nat × Nat × Nat)) (j : Nat) (fr : Fr) (σ : St) : dops callf born j [] fr σ = some (fr, σ) := rfl
theorem dopX_some (born : List (Nat × Nat × Nat)) (j : Nat) (d : Option Nat) (l : List AOper) (fr : Fr) (σ : St) (v : Value) (τ : St) : dopX callf born j d l fr σ (some (v, τ)) =
    dops callf (if σ.heap.length < τ.heap.length then (j, σ.heap.length, τ.heap.length) :: born else born) (j + 1) l (fr.put d v) ⟨τ.heap, σ.lock, σ.hid, τ.dirty⟩ := rfl
theorem dwantX_some (born : List (Nat × Nat × Nat)) (j : Nat) (o : AOper) (l : List AOper) (fr : Fr) (σ : St) (b : Bool) : dwantX callf born j o l fr σ (some b) =
    if b = true then dopX callf born j o.dst l fr σ (aop callf o.op fr ⟨σ.heap, lockD o.wr (ownO o) born σ.lock σ.heap.length, hiddenBy o.bef born ++ σ.hid, σ.dirty⟩) else dops callf born (j + 1) l (fr.put o.dst undefv) σ := by cases b <;> rfl
end
end AM
end Go.Proofs.Ytpjjkmfidghkjaa
end
section
namespace Go.Proofs.Ytpjjkmfidghkjaa
namespace AM
open Go Go.RowKit

/-! ### Operations without memory -/
def bindX (σ : St) (f : Value → Option Value) : Option Value → Option (Value × St)
  | some v => retX σ (f v)
  | none => none
theorem bindX_some (σ : St) (f : Value → Option Value) (v : Value) : bindX σ f (some v) = retX σ (f v) := rfl
def bind2X (σ : St) (f : Value → Value → Option Value) : Option Value → Option Value → Option (Value × St)
  | some v, some w => retX σ (f v w)
  | _, _ => none
theorem bind2X_some (σ : St) (f : Value → Value → Option Value) (v w : Value) : bind2X σ f (some v) (some w) = retX σ (f v w) := rfl

def nilckF : Value → Option Value
  | .pointer (some a) => some (.pointer (some a))
  | .func (.func f) fi ca => some (.func (.func f) fi ca)
  | _ => none
theorem nilckF_ptr (a : Addr) : nilckF (.pointer (some a)) = some (.pointer (some a)) := rfl
theorem nilckF_nil : nilckF (.pointer none) = none := rfl
theorem nilckF_func (f : FuncId) (fi ca : Array Value) : nilckF (.func (.func f) fi ca) = some (.func (.func f) fi ca) := rfl
theorem nilckF_nilFunc : nilckF .nilFunc = none := rfl
def eqF (neg : Bool) (sh : EqK) (v w : Value) : Option Value := (aeq sh v w).map fun b => .bool (if neg then !b else b)
def convF (k : IntKind) : Value → Option Value
  | .int _ n => some (.int k (k.wrap n))
  | _ => none
theorem convF_int (k k' : IntKind) (n : Int) : convF k (.int k' n) = some (.int k (k.wrap n)) := rfl
def lenF : Value → Option Value
  | .slice _ n _ => some (.int .i64 n)
  | _ => none
theorem lenF_slice (a : Option Addr) (n e : Nat) : lenF (.slice a n e) = some (.int .i64 n) := rfl
def lensF : Value → Option Value
  | .string s => some (.int .i64 s.size)
  | _ => none
theorem lensF_str (s : ByteArray) : lensF (.string s) = some (.int .i64 s.size) := rfl
def faddrF (off : Nat) : Value → Option Value
  | .pointer (some a) => some (.pointer (some { a with off := a.off + off }))
  | _ => none
theorem faddrF_ptr (off b o : Nat) (s : Option Nat) : faddrF off (.pointer (some ⟨b, o, s⟩)) = some (.pointer (some ⟨b, o + off, s⟩)) := rfl
theorem faddrF_nil (off : Nat) : faddrF off (.pointer none) = none := rfl
def fieldF (off : Nat) (n : Option Nat) : Value → Option Value
  | .agg cs => rdCells cs.toList off n
  | _ => none
theorem fieldF_agg (off : Nat) (n : Option Nat) (cs : Array Value) : fieldF off n (.agg cs) = rdCells cs.toList off n := rfl
def iaddrF (esz : Nat) : Value → Value → Option Value
  | .slice (some a) n _, .int _ i => if 0 ≤ i ∧ i < n then some (.pointer (some { a with off := a.off + i.toNat * esz })) else none
  | _, _ => none
theorem iaddrF_some (esz b o n e : Nat) (s : Option Nat) (k : IntKind) (i : Int) : iaddrF esz (.slice (some ⟨b, o, s⟩) n e) (.int k i) = if 0 ≤ i ∧ i < n then some (.pointer (some ⟨b, o + i.toNat * esz, s⟩)) else none := rfl
theorem iaddrF_nil (esz n e : Nat) (k : IntKind) (i : Int) : iaddrF esz (.slice none n e) (.int k i) = none := rfl
def iaddraF (esz n : Nat) : Value → Value → Option Value
  | .pointer (some a), .int _ i => if 0 ≤ i ∧ i < n then some (.pointer (some { a with off := a.off + i.toNat * esz })) else none
  | _, _ => none
theorem iaddraF_some (esz b o n : Nat) (s : Option Nat) (k : IntKind) (i : Int) : iaddraF esz n (.pointer (some ⟨b, o, s⟩)) (.int k i) = if 0 ≤ i ∧ i < n then some (.pointer (some ⟨b, o + i.toNat * esz, s⟩)) else none := rfl
def idxF (esz n : Nat) (m : Option Nat) : Value → Value → Option Value
  | .agg cs, .int _ i => if 0 ≤ i ∧ i < n then rdCells cs.toList (i.toNat * esz) m else none
  | _, _ => none
theorem idxF_some (esz n : Nat) (m : Option Nat) (cs : Array Value) (k : IntKind) (i : Int) : idxF esz n m (.agg cs) (.int k i) = if 0 ≤ i ∧ i < n then rdCells cs.toList (i.toNat * esz) m else none := rfl
def idxsF : Value → Value → Option Value
  | .string s, .int _ i => if 0 ≤ i ∧ i < s.size then (s.data.toList[i.toNat]?).map fun b => .int .u8 b.toNat else none
  | _, _ => none
theorem idxsF_some (s : ByteArray) (k : IntKind) (i : Int) : idxsF (.string s) (.int k i) = if 0 ≤ i ∧ i < s.size then (s.data.toList[i.toNat]?).map fun b => .int .u8 b.toNat else none := rfl
def extF (i : Nat) : Value → Option Value
  | .tuple vs => vs.toList[i]?
  | _ => none
theorem extF_tuple (i : Nat) (vs : Array Value) : extF i (.tuple vs) = vs.toList[i]? := rfl
def capF : Value → Option Value
  | .slice none 0 0 => some (.int .i64 0)
  | _ => none

section
variable {callf : CallF} (fr : Fr) (σ : St)
theorem pure1 {o : AOp} {f : Value → Option Value} {x : Operand} (h : aop callf o fr σ = (pval o fr).map fun v => (v, σ)) (hp : pval o fr = (ev fr x).bind f) : aop callf o fr σ = bindX σ f (ev fr x) := by
  rw [h, hp]; cases ev fr x with
  | none => rfl
  | some v => exact retX_map σ _
theorem pure2 {o : AOp} {f : Value → Value → Option Value} {x y : Operand} (h : aop callf o fr σ = (pval o fr).map fun v => (v, σ)) (hp : pval o fr = (ev fr x).bind fun v => (ev fr y).bind fun w => f v w) : aop callf o fr σ = bind2X σ f (ev fr x) (ev fr y) := by
  rw [h, hp]; cases ev fr x with
  | none => rfl
  | some v => cases ev fr y with
    | none => rfl
    | some w => exact retX_map σ _
theorem aop_nilck (x : Operand) : aop callf (.nilck x) fr σ = bindX σ nilckF (ev fr x) := pure1 fr σ rfl (by
  simp only [pval]; cases ev fr x with
  | none => rfl
  | some v => cases v <;> first
    | rfl
    | (rename_i q; cases q <;> rfl)
    | (rename_i q _ _; cases q <;> rfl))
theorem aop_eqs (neg : Bool) (sh : EqK) (x y : Operand) : aop callf (.eqs neg sh x y) fr σ = bind2X σ (eqF neg sh) (ev fr x) (ev fr y) := pure2 fr σ rfl rfl
theorem aop_un (op : UnOp) (x : Operand) : aop callf (.un op x) fr σ = bindX σ (aun op) (ev fr x) := pure1 fr σ rfl rfl
theorem aop_conv (k : IntKind) (x : Operand) : aop callf (.conv k x) fr σ = bindX σ (convF k) (ev fr x) := pure1 fr σ rfl (by
  simp only [pval]; cases ev fr x with
  | none => rfl
  | some v => cases v <;> rfl)
theorem aop_len (x : Operand) : aop callf (.len x) fr σ = bindX σ lenF (ev fr x) := pure1 fr σ rfl (by
  simp only [pval]; cases ev fr x with
  | none => rfl
  | some v => cases v <;> rfl)
theorem aop_lens (x : Operand) : aop callf (.lens x) fr σ = bindX σ lensF (ev fr x) := pure1 fr σ rfl (by
  simp only [pval]; cases ev fr x with
  | none => rfl
  | some v => cases v <;> rfl)
theorem aop_lena (n : Nat) : aop callf (.lena n) fr σ = some (.int .i64 n, σ) := rfl
theorem aop_faddr (off : Nat) (x : Operand) : aop callf (.faddr off x) fr σ = bindX σ (faddrF off) (ev fr x) := pure1 fr σ rfl (by
  simp only [pval]; cases ev fr x with
  | none => rfl
  | some v => cases v <;> first
    | rfl
    | (rename_i q; cases q <;> rfl))
theorem aop_field (off : Nat) (n : Option Nat) (x : Operand) : aop callf (.field off n x) fr σ = bindX σ (fieldF off n) (ev fr x) := pure1 fr σ rfl (by
  simp only [pval]; cases ev fr x with
  | none => rfl
  | some v => cases v <;> rfl)
theorem aop_ext (x : Operand) (i : Nat) : aop callf (.ext x i) fr σ = bindX σ (extF i) (ev fr x) := pure1 fr σ rfl (by
  simp only [pval]; cases ev fr x with
  | none => rfl
  | some v => cases v <;> rfl)
theorem aop_iaddr (esz : Nat) (x i : Operand) : aop callf (.iaddr esz x i) fr σ = bind2X σ (iaddrF esz) (ev fr x) (ev fr i) := pure2 fr σ rfl (by
  simp only [pval]
  congr 1; funext v; congr 1; funext w
  cases v <;> first
    | rfl
    | (rename_i q n e; cases q with
       | none => rfl
       | some a => cases w <;> first
         | rfl
         | (simp only [idxv, iaddrF]; split <;> rfl)))
theorem aop_iaddra (esz n : Nat) (x i : Operand) : aop callf (.iaddra esz n x i) fr σ = bind2X σ (iaddraF esz n) (ev fr x) (ev fr i) := pure2 fr σ rfl (by
  simp only [pval]
  congr 1; funext v; congr 1; funext w
  cases v <;> first
    | rfl
    | (rename_i q; cases q with
       | none => rfl
       | some a => cases w <;> first
         | rfl
         | (simp only [idxv, iaddraF]; split <;> rfl)))
theorem aop_idx (esz n : Nat) (m : Option Nat) (x i : Operand) : aop callf (.idx esz n m x i) fr σ = bind2X σ (idxF esz n m) (ev fr x) (ev fr i) := pure2 fr σ rfl (by
  simp only [pval]
  congr 1; funext v; congr 1; funext w
  cases v <;> first
    | rfl
    | (cases w <;> first
         | rfl
         | (simp only [idxv, idxF]; split <;> rfl)))
theorem aop_idxs (x i : Operand) : aop callf (.idxs x i) fr σ = bind2X σ idxsF (ev fr x) (ev fr i) := pure2 fr σ rfl (by
  simp only [pval]
  congr 1; funext v; congr 1; funext w
  cases v <;> first
    | rfl
    | (cases w <;> first
         | rfl
         | (simp only [idxv, idxsF]; split <;> rfl)))
def buildX (σ : St) (zs : List Value) : Option (List (Nat × Nat × Value)) → Option (Value × St)
  | some ps => match fill zs ps with
    | some cs => some (.agg cs.toArray, σ)
    | none => none
  | none => none
def filledX (σ : St) : Option (List Value) → Option (Value × St)
  | some cs => some (.agg cs.toArray, σ)
  | none => none
theorem filledX_some (cs : List Value) : filledX σ (some cs) = some (.agg cs.toArray, σ) := rfl
theorem buildX_some (zs : List Value) (ps : List (Nat × Nat × Value)) : buildX σ zs (some ps) = filledX σ (fill zs ps) := by
  simp only [buildX]; cases fill zs ps <;> rfl
theorem aop_build (zs : List Value) (ps : List (Nat × Nat × Operand)) : aop callf (.build zs ps) fr σ = buildX σ zs (evps fr ps) := by
  show ((pval (.build zs ps) fr).map fun v => (v, σ)) = _
  simp only [pval]
  cases evps fr ps with
  | none => rfl
  | some l => simp only [Option.bind_some, buildX]; cases fill zs l <;> rfl
def mmX (σ : St) (mx : Bool) : Option (List Value) → Option (Value × St)
  | some (v :: l) => retX σ (mmf mx v l)
  | _ => none
theorem mmX_cons (mx : Bool) (v : Value) (l : List Value) : mmX σ mx (some (v :: l)) = retX σ (mmf mx v l) := rfl
theorem aop_mm (mx : Bool) (xs : List Operand) : aop callf (.mm mx xs) fr σ = mmX σ mx (evs fr xs) := by
  show ((pval (.mm mx xs) fr).map fun v => (v, σ)) = _
  simp only [pval]
  cases evs fr xs with
  | none => rfl
  | some l => cases l with
    | nil => rfl
    | cons v l => exact retX_map σ _
theorem mmf_nil (mx : Bool) (v : Value) : mmf mx v [] = some v := rfl
theorem mmf_max (k : IntKind) (x y : Int) (l : List Value) : mmf true (.int k x) (.int k y :: l) = mmf true (.int k (max x y)) l := by
  simp only [mmf, mm2, if_true, Option.bind_some]
  congr 2
  split <;> omega
theorem mmf_min (k : IntKind) (x y : Int) (l : List Value) : mmf false (.int k x) (.int k y :: l) = mmf false (.int k (min x y)) l := by
  simp only [mmf, mm2, if_true, Option.bind_some, Bool.false_eq_true, if_false]
  congr 2
  split <;> omega
def mkfnX (σ : St) (f : FuncId) : Option (List Value) → Option (List Value) → Option (Value × St)
  | some fi, some ca => if fi.all cellv && ca.all cellv then some (.func (.func f) fi.toArray ca.toArray, σ) else none
  | _, _ => none
theorem mkfnX_some (f : FuncId) (fi ca : List Value) : mkfnX σ f (some fi) (some ca) = if fi.all cellv && ca.all cellv then some (.func (.func f) fi.toArray ca.toArray, σ) else none := rfl
theorem aop_mkfn (f : FuncId) (fi ca : List Operand) : aop callf (.mkfn f fi ca) fr σ = mkfnX σ f (evs fr fi) (evs fr ca) := by
  show ((pval (.mkfn f fi ca) fr).map fun v => (v, σ)) = _
  simp only [pval]
  cases evs fr fi with
  | none => rfl
  | some l => cases evs fr ca with
    | none => rfl
    | some m => simp only [Option.bind_some, mkfnX]; split <;> rfl
/-! ### Cuts -/
def sliceF (esz : Nat) (v : Value) (lo hi mx : Option Value) : Option Value :=
  match v with
  | .slice none 0 0 => (cuts 0 lo hi mx).map fun _ => .slice none 0 0
  | .slice (some a) n e => if e = 0 ∨ e = esz then (cuts n lo hi mx).map fun (l, h, m) => .slice (some { a with off := a.off + l * esz }) (h - l) (if m.isSome then 0 else e) else none
  | _ => none
def sliceX (σ : St) (esz : Nat) : Option Value → Option (Option Value) → Option (Option Value) → Option (Option Value) → Option (Value × St)
  | some v, some lo, some hi, some mx => retX σ (sliceF esz v lo hi mx)
  | _, _, _, _ => none
theorem sliceX_some (esz : Nat) (v : Value) (lo hi mx : Option Value) : sliceX σ esz (some v) (some lo) (some hi) (some mx) = retX σ (sliceF esz v lo hi mx) := rfl
theorem aop_slice (esz : Nat) (x : Operand) (lo hi mx : Option Operand) : aop callf (.slice esz x lo hi mx) fr σ = sliceX σ esz (ev fr x) (evo fr lo) (evo fr hi) (evo fr mx) := by
  show ((pval (.slice esz x lo hi mx) fr).map fun v => (v, σ)) = _
  simp only [pval]
  cases ev fr x with
  | none => rfl
  | some v => cases evo fr lo with
    | none => rfl
    | some lo => cases evo fr hi with
      | none => rfl
      | some hi => cases evo fr mx with
        | none => rfl
        | some mx => exact retX_map σ _
def sliceaX (σ : St) (esz n : Nat) : Option Value → Option (Option Value) → Option (Option Value) → Option (Option Value) → Option (Value × St)
  | some (.pointer (some a)), some lo, some hi, some mx => retX σ ((cuts n lo hi mx).map fun (l, h, _) => .slice (some { a with off := a.off + l * esz }) (h - l) 0)
  | _, _, _, _ => none
theorem sliceaX_some (esz n : Nat) (a : Addr) (lo hi mx : Option Value) : sliceaX σ esz n (some (.pointer (some a))) (some lo) (some hi) (some mx) = retX σ ((cuts n lo hi mx).map fun (l, h, _) => .slice (some { a with off := a.off + l * esz }) (h - l) 0) := rfl
theorem aop_slicea (esz n : Nat) (x : Operand) (lo hi mx : Option Operand) : aop callf (.slicea esz n x lo hi mx) fr σ = sliceaX σ esz n (ev fr x) (evo fr lo) (evo fr hi) (evo fr mx) := by
  show ((pval (.slicea esz n x lo hi mx) fr).map fun v => (v, σ)) = _
  simp only [pval]
  cases ev fr x with
  | none => rfl
  | some v => cases evo fr lo with
    | none => cases v <;> first
      | rfl
      | (rename_i q; cases q <;> rfl)
    | some lo => cases evo fr hi with
      | none => cases v <;> first
        | rfl
        | (rename_i q; cases q <;> rfl)
      | some hi => cases evo fr mx with
        | none => cases v <;> first
          | rfl
          | (rename_i q; cases q <;> rfl)
        | some mx => cases v <;> first
          | rfl
          | (rename_i q; cases q with
             | none => rfl
             | some a => exact retX_map σ _)
def slicesX (σ : St) : Option Value → Option (Option Value) → Option (Option Value) → Option (Value × St)
  | some (.string s), some lo, some hi => retX σ ((cuts s.size lo hi none).map fun (l, h, _) => .string ⟨((s.data.toList.drop l).take (h - l)).toArray⟩)
  | _, _, _ => none
theorem slicesX_some (s : ByteArray) (lo hi : Option Value) : slicesX σ (some (.string s)) (some lo) (some hi) = retX σ ((cuts s.size lo hi none).map fun (l, h, _) => .string ⟨((s.data.toList.drop l).take (h - l)).toArray⟩) := rfl
theorem aop_slices (x : Operand) (lo hi : Option Operand) : aop callf (.slices x lo hi) fr σ = slicesX σ (ev fr x) (evo fr lo) (evo fr hi) := by
  show ((pval (.slices x lo hi) fr).map fun v => (v, σ)) = _
  simp only [pval]
  cases ev fr x with
  | none => rfl
  | some v => cases evo fr lo with
    | none => cases v <;> rfl
    | some lo => cases evo fr hi with
      | none => cases v <;> rfl
      | some hi => cases v <;> first
        | rfl
        | exact retX_map σ _
theorem evo_none : evo fr none = some none := rfl
def evoX : Option Value → Option (Option Value)
  | some v => some (some v)
  | none => none
theorem evoX_some (v : Value) : evoX (some v) = some (some v) := rfl
theorem evo_some (x : Operand) : evo fr (some x) = evoX (ev fr x) := by simp only [evo]; cases ev fr x <;> rfl

/-! ### Memory -/
theorem aop_alloc (pl : Bool) (zs : List Value) : aop callf (.alloc pl zs) fr σ = some (.pointer (some ⟨σ.heap.length, 0, some 0⟩), ⟨σ.heap ++ [.cells 0 pl zs], σ.lock, σ.hid, σ.dirty⟩) := rfl
def boxX (σ : St) (pl : Bool) : Option Value → Option (Value × St)
  | some v => if (cellsOf v).all cellv && (!pl || (cellsOf v).all sc) then some (.pointer (some ⟨σ.heap.length, 0, some 0⟩), ⟨σ.heap ++ [.cells 0 pl (cellsOf v)], σ.lock, σ.hid, σ.dirty⟩) else none
  | none => none
theorem boxX_some (pl : Bool) (v : Value) : boxX σ pl (some v) = if (cellsOf v).all cellv && (!pl || (cellsOf v).all sc) then some (.pointer (some ⟨σ.heap.length, 0, some 0⟩), ⟨σ.heap ++ [.cells 0 pl (cellsOf v)], σ.lock, σ.hid, σ.dirty⟩) else none := rfl
theorem aop_box (pl : Bool) (x : Operand) : aop callf (.box pl x) fr σ = boxX σ pl (ev fr x) := by
  simp only [aop]; cases ev fr x <;> rfl
def bsliceX (σ : St) (pl : Bool) (esz n : Nat) (zs : List Value) : Option (List (Nat × Nat × Value)) → Option (Value × St)
  | some ps => match fill zs ps with
    | some cs => if cs.length = n * esz && small (n * esz) && (!pl || cs.all sc) then some (.slice (some ⟨σ.heap.length, 0, some 0⟩) n esz, ⟨σ.heap ++ [.cells 0 pl cs], σ.lock, σ.hid, σ.dirty⟩) else none
    | none => none
  | none => none
def bfilledX (σ : St) (pl : Bool) (esz n : Nat) : Option (List Value) → Option (Value × St)
  | some cs => if cs.length = n * esz && small (n * esz) && (!pl || cs.all sc) then some (.slice (some ⟨σ.heap.length, 0, some 0⟩) n esz, ⟨σ.heap ++ [.cells 0 pl cs], σ.lock, σ.hid, σ.dirty⟩) else none
  | none => none
theorem bfilledX_some (pl : Bool) (esz n : Nat) (cs : List Value) : bfilledX σ pl esz n (some cs) = if cs.length = n * esz && small (n * esz) && (!pl || cs.all sc) then some (.slice (some ⟨σ.heap.length, 0, some 0⟩) n esz, ⟨σ.heap ++ [.cells 0 pl cs], σ.lock, σ.hid, σ.dirty⟩) else none := rfl
theorem bsliceX_some (pl : Bool) (esz n : Nat) (zs : List Value) (ps : List (Nat × Nat × Value)) : bsliceX σ pl esz n zs (some ps) = bfilledX σ pl esz n (fill zs ps) := by
  simp only [bsliceX]; cases fill zs ps <;> rfl
theorem aop_bslice (pl : Bool) (esz n : Nat) (zs : List Value) (ps : List (Nat × Nat × Operand)) : aop callf (.bslice pl esz n zs ps) fr σ = bsliceX σ pl esz n zs (evps fr ps) := by
  simp only [aop]
  cases evps fr ps with
  | none => rfl
  | some l => simp only [Option.bind_some, bsliceX]; cases fill zs l <;> rfl
def evpsX (o s : Nat) : Option Value → Option (List (Nat × Nat × Value)) → Option (List (Nat × Nat × Value))
  | some v, some l => some ((o, s, v) :: l)
  | _, _ => none
theorem evpsX_some (o s : Nat) (v : Value) (l : List (Nat × Nat × Value)) : evpsX o s (some v) (some l) = some ((o, s, v) :: l) := rfl
theorem evps_cons (o s : Nat) (x : Operand) (l : List (Nat × Nat × Operand)) : evps fr ((o, s, x) :: l) = evpsX o s (ev fr x) (evps fr l) := by
  simp only [evps]; cases ev fr x with
  | none => rfl
  | some v => cases evps fr l <;> rfl
theorem evps_nil : evps fr [] = some [] := rfl
def evsX : Option Value → Option (List Value) → Option (List Value)
  | some v, some l => some (v :: l)
  | _, _ => none
theorem evsX_some (v : Value) (l : List Value) : evsX (some v) (some l) = some (v :: l) := rfl
theorem evs_cons (x : Operand) (l : List Operand) : evs fr (x :: l) = evsX (ev fr x) (evs fr l) := by
  simp only [evs]; cases ev fr x with
  | none => rfl
  | some v => cases evs fr l <;> rfl
theorem evs_nil : evs fr [] = some [] := rfl
def strbX (σ : St) : Option Value → Option (Value × St)
  | some (.string s) => if small s.size && 0 < s.size then some (.slice (some ⟨σ.heap.length, 0, some 0⟩) s.size 1, ⟨σ.heap ++ [.cells 0 true (strCells s)], σ.lock, σ.hid, σ.dirty⟩) else none
  | _ => none
theorem strbX_some (s : ByteArray) : strbX σ (some (.string s)) = if small s.size && 0 < s.size then some (.slice (some ⟨σ.heap.length, 0, some 0⟩) s.size 1, ⟨σ.heap ++ [.cells 0 true (strCells s)], σ.lock, σ.hid, σ.dirty⟩) else none := rfl
theorem aop_strb (x : Operand) : aop callf (.strb x) fr σ = strbX σ (ev fr x) := by
  simp only [aop]; cases ev fr x with
  | none => rfl
  | some v => cases v <;> rfl
/-- The bytes that a slice of bytes has. -/
def St.str (σ : St) : Value → Option (List UInt8)
  | .slice none 0 0 => some []
  | .slice (some a) n _ => (σ.blk a).bind fun (_, cs) => if a.off + n ≤ cs.length then bytesv ((cs.drop a.off).take n) else none
  | _ => none
def bstrX (σ : St) : Option Value → Option (Value × St)
  | some v => match σ.str v with
    | some l => some (.string ⟨l.toArray⟩, σ)
    | none => none
  | none => none
def bstrX' (σ : St) : Option (List UInt8) → Option (Value × St)
  | some l => some (.string ⟨l.toArray⟩, σ)
  | none => none
theorem bstrX'_some (l : List UInt8) : bstrX' σ (some l) = some (.string ⟨l.toArray⟩, σ) := rfl
theorem bstrX_some (v : Value) : bstrX σ (some v) = bstrX' σ (σ.str v) := by
  simp only [bstrX]; cases σ.str v <;> rfl
def markX (σ : St) : Option Value → Option (Value × St)
  | some (.slice (some a) n e) => if a.block < σ.lock || n = 0 then none else (σ.blk a).map fun _ => (.slice (some a) n e, σ)
  | _ => none
def markY (v : Value) (σ : St) : Option (Bool × List Value) → Option (Value × St)
  | some _ => some (v, σ)
  | none => none
theorem markX_some (b o g n e : Nat) (h : (b < σ.lock) = False) (hn : (n = 0) = False) : markX σ (some (.slice (some ⟨b, o, some g⟩) n e)) = markY (.slice (some ⟨b, o, some g⟩) n e) σ (σ.blk ⟨b, o, some g⟩) := by
  simp only [markX, h, hn, decide_false, Bool.or_self, Bool.false_eq_true, if_false]
  cases σ.blk ⟨b, o, some g⟩ <;> rfl
theorem markY_some (v : Value) (p : Bool × List Value) : markY v σ (some p) = some (v, σ) := rfl
theorem aop_mark (x : Operand) : aop callf (.mark x) fr σ = markX σ (ev fr x) := by
  simp only [aop]; cases ev fr x with
  | none => rfl
  | some v => cases v <;> first
    | rfl
    | (rename_i a n e; cases a <;> rfl)
theorem aop_bstr (x : Operand) : aop callf (.bstr x) fr σ = bstrX σ (ev fr x) := by
  simp only [aop]; cases ev fr x with
  | none => rfl
  | some v =>
    cases v <;> first
      | rfl
      | skip
    rename_i a n e
    cases a with
    | none =>
      cases n with
      | zero => cases e <;> rfl
      | succ n => rfl
    | some a =>
      simp only [bstrX, St.str]
      cases σ.blk a with
      | none => rfl
      | some p =>
        obtain ⟨pl, cs⟩ := p
        simp only [Option.bind_some]
        split
        · cases bytesv ((cs.drop a.off).take n) <;> rfl
        · rfl
def mksliceX (σ : St) (pl : Bool) (esz : Nat) (zs : List Value) : Option Value → Option Value → Option (Value × St)
  | some (.int _ l), some (.int _ c) => if 0 ≤ l && l ≤ c && c ≤ 1048576 && esz * c.toNat ≤ 1048576 && zs.length = esz && (l ≠ 0 || c = 0) then
        some (.slice (some ⟨σ.heap.length, 0, some 0⟩) l.toNat esz, ⟨σ.heap ++ [.cells 0 pl (List.replicate l.toNat zs).flatten], σ.lock, σ.hid, σ.dirty⟩)
      else none
  | _, _ => none
theorem mksliceX_some (pl : Bool) (esz : Nat) (zs : List Value) (k k' : IntKind) (l c : Int) : mksliceX σ pl esz zs (some (.int k l)) (some (.int k' c)) = if 0 ≤ l && l ≤ c && c ≤ 1048576 && esz * c.toNat ≤ 1048576 && zs.length = esz && (l ≠ 0 || c = 0) then
        some (.slice (some ⟨σ.heap.length, 0, some 0⟩) l.toNat esz, ⟨σ.heap ++ [.cells 0 pl (List.replicate l.toNat zs).flatten], σ.lock, σ.hid, σ.dirty⟩)
      else none := rfl
theorem aop_mkslice (pl : Bool) (esz : Nat) (zs : List Value) (x y : Operand) : aop callf (.mkslice pl esz zs x y) fr σ = mksliceX σ pl esz zs (ev fr x) (ev fr y) := by
  simp only [aop]
  cases ev fr x with
  | none => rfl
  | some v => cases ev fr y with
    | none => cases v <;> rfl
    | some w => cases v <;> cases w <;> rfl
def callX (callf : CallF) (f : FuncId) (σ : St) : Option (List Value) → Option (Value × St)
  | some vs => callf (.func f) vs σ
  | none => none
theorem callX_some (f : FuncId) (vs : List Value) : callX callf f σ (some vs) = callf (.func f) vs σ := rfl
theorem aop_call (f : FuncId) (args : List Operand) : aop callf (.call f args) fr σ = callX callf f σ (evs fr args) := by
  simp only [aop]; cases evs fr args <;> rfl
def callvX (callf : CallF) (σ : St) : Option Value → Option (List Value) → Option (Value × St)
  | some (.func g fi ca), some vs => if yieldy g && !ca.isEmpty then none else callf g (fi.toList ++ vs ++ ca.toList) σ
  | _, _ => none
theorem callvX_some (g : FuncId) (fi ca : Array Value) (vs : List Value) : callvX callf σ (some (.func (.func g) fi ca)) (some vs) = callf (.func g) (fi.toList ++ vs ++ ca.toList) σ := rfl
theorem callvX_yield (k : Nat) (vs : List Value) : callvX callf σ (some (.func (.yield k) #[] #[])) (some vs) = callf (.yield k) vs σ := by simp [callvX]
theorem aop_callv (x : Operand) (args : List Operand) : aop callf (.callv x args) fr σ = callvX callf σ (ev fr x) (evs fr args) := by
  simp only [aop]
  cases ev fr x with
  | none => rfl
  | some v => cases evs fr args with
    | none => cases v <;> rfl
    | some vs => cases v <;> rfl
def appendX (σ : St) (pl : Bool) (esz : Nat) : Option Value → Option Value → Option (Value × St)
  | some x, some y => match σ.news esz y with
    | some (m, vs) => σ.append pl esz x m vs
    | none => none
  | _, _ => none
def newsX (σ : St) (pl : Bool) (esz : Nat) (x : Value) : Option (Nat × List Value) → Option (Value × St)
  | some (m, vs) => σ.append pl esz x m vs
  | none => none
theorem newsX_some (pl : Bool) (esz : Nat) (x : Value) (m : Nat) (vs : List Value) : newsX σ pl esz x (some (m, vs)) = σ.append pl esz x m vs := rfl
theorem appendX_some (pl : Bool) (esz : Nat) (x y : Value) : appendX σ pl esz (some x) (some y) = newsX σ pl esz x (σ.news esz y) := by
  simp only [appendX]; cases σ.news esz y <;> rfl
theorem aop_append (pl : Bool) (esz : Nat) (x y : Operand) : aop callf (.append pl esz x y) fr σ = appendX σ pl esz (ev fr x) (ev fr y) := by
  simp only [aop]
  cases ev fr x with
  | none => rfl
  | some v => cases ev fr y with
    | none => rfl
    | some w => simp only [Option.bind_some, appendX]; cases σ.news esz w <;> rfl
def zerosX (σ : St) : Option Value → Option Value → Option (Value × St)
  | some x, some n => zerosF σ x n
  | _, _ => none
theorem aop_appendz (x y : Operand) : aop callf (.appendz x y) fr σ = zerosX σ (ev fr x) (ev fr y) := by
  simp only [aop]
  cases ev fr x with
  | none => rfl
  | some p => cases ev fr y <;> rfl
theorem zerosX_nil (σ : St) (k : Int) : zerosX σ (some (.slice none 0 0)) (some (.int .i64 k)) = if k = 0 then some (.slice none 0 0, σ) else if 0 < k ∧ k ≤ 1048576 then some (.slice (some ⟨σ.heap.length, 0, some k.toNat⟩) k.toNat 1, { σ with heap := σ.heap ++ [.cells k.toNat true (List.replicate k.toNat (.int .u8 0))] }) else none := rfl
def copyX (σ : St) (esz : Nat) : Option Value → Option (Nat × List Value) → Option (Value × St)
  | some (.slice none 0 0), some _ => some (.int .i64 0, σ)
  | some (.slice (some a) n _), some (m, vs) =>
      if min m n = 0 then some (.int .i64 0, σ)
      else match σ.write a (vs.take (min m n * esz)) with
        | some σ' => some (.int .i64 (min m n : Nat), σ')
        | none => none
  | _, _ => none
def copiedX (n : Nat) : Option St → Option (Value × St)
  | some σ' => some (.int .i64 (n : Nat), σ')
  | none => none
theorem copiedX_some (n : Nat) (σ : St) : copiedX n (some σ) = some (.int .i64 (n : Nat), σ) := rfl
theorem copyX_some (esz : Nat) (a : Addr) (n e m : Nat) (vs : List Value) : copyX σ esz (some (.slice (some a) n e)) (some (m, vs)) = if min m n = 0 then some (.int .i64 0, σ) else copiedX (min m n) (σ.write a (vs.take (min m n * esz))) := by
  simp only [copyX]; split
  · rfl
  · cases σ.write a (vs.take (min m n * esz)) <;> rfl
theorem copyX_none (esz : Nat) (m : Nat) (vs : List Value) : copyX σ esz (some (.slice none 0 0)) (some (m, vs)) = some (.int .i64 0, σ) := rfl
def newsY (σ : St) (esz : Nat) : Option Value → Option (Nat × List Value)
  | some y => σ.news esz y
  | none => none
theorem newsY_some (esz : Nat) (y : Value) : newsY σ esz (some y) = σ.news esz y := rfl
theorem aop_copy (esz : Nat) (x y : Operand) : aop callf (.copy esz x y) fr σ = copyX σ esz (ev fr x) (newsY σ esz (ev fr y)) := by
  simp only [aop]
  cases ev fr x with
  | none => rfl
  | some v => cases ev fr y with
    | none => simp only [newsY]; cases v <;> first
      | rfl
      | (rename_i q n e; cases q <;> first
         | rfl
         | (cases n <;> cases e <;> rfl))
    | some w =>
      simp only [Option.bind_some, newsY]
      cases σ.news esz w with
      | none => cases v <;> first
        | rfl
        | (rename_i q n e; cases q <;> first
           | rfl
           | (cases n <;> cases e <;> rfl))
      | some p => obtain ⟨m, vs⟩ := p; cases v <;> first
        | rfl
        | (rename_i q n e; cases q <;> first
           | (cases n <;> cases e <;> rfl)
           | (simp only [Option.bind_some, copyX]; split
              · rfl
              · rename_i a _; cases σ.write a (vs.take (min m n * esz)) <;> rfl))
def clearX (σ : St) (zs : List Value) : Option Value → Option (Value × St)
  | some (.slice none 0 0) => some (.tuple #[], σ)
  | some (.slice (some a) n _) => if n = 0 then some (.tuple #[], σ) else wroteX (σ.write a (List.replicate n zs).flatten)
  | _ => none
theorem clearX_none (zs : List Value) : clearX σ zs (some (.slice none 0 0)) = some (.tuple #[], σ) := rfl
theorem clearX_some (zs : List Value) (a : Addr) (n e : Nat) : clearX σ zs (some (.slice (some a) n e)) = if n = 0 then some (.tuple #[], σ) else wroteX (σ.write a (List.replicate n zs).flatten) := rfl
theorem aop_clear (esz : Nat) (zs : List Value) (x : Operand) : aop callf (.clear esz zs x) fr σ = clearX σ zs (ev fr x) := by
  simp only [aop]
  cases ev fr x with
  | none => rfl
  | some v => cases v <;> first
    | rfl
    | (rename_i q n e; cases q <;> first
       | (cases n <;> cases e <;> rfl)
       | (simp only [clearX]; split
          · rfl
          · rename_i a _; cases σ.write a (List.replicate n zs).flatten <;> rfl))
end

/-! ### Cells -/
section
variable {h nw : List Blk} {L : Nat} {H d : List Nat}
/-- What an address finds in a place of the heap. -/
def cellX (s : Option Nat) : Option Blk → Option (Bool × List Value)
  | some (.cells g pl cs) => if s = some g then some (pl, cs) else none
  | _ => none
theorem cellX_some (s : Option Nat) (g : Nat) (pl : Bool) (cs : List Value) : cellX s (some (.cells g pl cs)) = if s = some g then some (pl, cs) else none := rfl
theorem blk_eq (hp : List Blk) (b o : Nat) (s : Option Nat) : St.blk ⟨hp, L, H, d⟩ ⟨b, o, s⟩ = if H.contains b = true then none else cellX s hp[b]? := by
  unfold St.blk
  split
  · rfl
  · cases hp[b]? with
    | none => rfl
    | some q => cases q <;> rfl
/-- A state whose lock and hidden blocks lie below the heap's end. -/
def Okst (n L : Nat) (H : List Nat) : Prop := L ≤ n ∧ ∀ t ∈ H, t < n
theorem Okst.far {n L : Nat} {H : List Nat} (k : Okst n L H) {i : Nat} (hi : n ≤ i) : H.contains i = false := by
  cases e : H.contains i with
  | false => rfl
  | true => have := k.2 i (by simpa using e); omega
theorem Okst.free {n L : Nat} {H : List Nat} (k : Okst n L H) (i : Nat) : H.contains (n + i) = false := k.far (by omega)
theorem Okst.free0 {n L : Nat} {H : List Nat} (k : Okst n L H) : H.contains n = false := k.far (by omega)
theorem Okst.up {n L : Nat} {H : List Nat} (k : Okst n L H) (i : Nat) : (n + i < L) = False := eq_false (by have := k.1; omega)
theorem Okst.up0 {n L : Nat} {H : List Nat} (k : Okst n L H) : (n < L) = False := eq_false (by have := k.1; omega)
theorem Okst.mono {n m L : Nat} {H : List Nat} (k : Okst n L H) (h : n ≤ m) : Okst m L H := ⟨by have := k.1; omega, fun t ht => by have := k.2 t ht; omega⟩
theorem get_new (i : Nat) : (h ++ nw)[h.length + i]? = nw[i]? := by rw [List.getElem?_append_right (by omega), Nat.add_sub_cancel_left]
theorem get_new0 (b : Blk) : (h ++ b :: nw)[h.length]? = some b := by rw [List.getElem?_append_right (by omega), Nat.sub_self]; rfl
theorem set_new (b : Blk) (i : Nat) : (h ++ nw).set (h.length + i) b = h ++ nw.set i b := by rw [List.set_append_right _ _ (by omega), Nat.add_sub_cancel_left]
theorem set_new0 (b c : Blk) : (h ++ c :: nw).set h.length b = h ++ b :: nw := by rw [List.set_append_right _ _ (by omega), Nat.sub_self]; rfl
theorem get_old {i : Nat} {b : Blk} (hb : h[i]? = some b) : (h ++ nw)[i]? = some b := by
  rw [List.getElem?_append_left (List.getElem?_eq_some_iff.1 hb).1]; exact hb
/-- A write, when the block has been found. -/
def writeX (hp : List Blk) (L : Nat) (H d : List Nat) (b o : Nat) (vs : List Value) (g : Nat) : Option (Bool × List Value) → Option St
  | some (pl, cs) => if o + vs.length ≤ cs.length && vs.all cellv && (!pl || vs.all sc) then some ⟨hp.set b (.cells g pl (putAt cs o vs)), L, H, if vs.all sc || d.contains b then d else b :: d⟩ else none
  | none => none
theorem writeX_some (hp : List Blk) (b o : Nat) (vs : List Value) (g : Nat) (pl : Bool) (cs : List Value) : writeX hp L H d b o vs g (some (pl, cs)) = if o + vs.length ≤ cs.length && vs.all cellv && (!pl || vs.all sc) then some ⟨hp.set b (.cells g pl (putAt cs o vs)), L, H, if vs.all sc || d.contains b then d else b :: d⟩ else none := rfl
theorem write_eq (hp : List Blk) (b o g : Nat) (vs : List Value) : St.write ⟨hp, L, H, d⟩ ⟨b, o, some g⟩ vs = if b < L then none else writeX hp L H d b o vs g (St.blk ⟨hp, L, H, d⟩ ⟨b, o, some g⟩) := by
  unfold St.write
  simp only []
  split
  · rfl
  · rw [blk_eq]
    split
    · rfl
    · cases hb : hp[b]? with
      | none => rfl
      | some q => cases q with
        | map _ => rfl
        | cells g' pl cs =>
          simp only [cellX_some, Option.some.injEq]
          by_cases e : g = g'
          · subst e; simp only [↓reduceIte]; rfl
          · rw [if_neg e]; rfl
end

/-! ### A function's end and a loop's round -/
section
variable {env : Env}
noncomputable def loopX (d : List Nat) : Option (Ex × Fr × St) → Option (Ex × Fr × St)
  | some (e, fr, σ) => some (e, fr, ⟨σ.heap, σ.lock, σ.hid, joinDirty d σ.dirty⟩)
  | none => none
theorem loopX_some (d : List Nat) (e : Ex) (fr : Fr) (σ : St) : loopX d (some (e, fr, σ)) = some (e, fr, ⟨σ.heap, σ.lock, σ.hid, joinDirty d σ.dirty⟩) := rfl
theorem loop_sym (live : List Nat) (b : ACode) (fr : Fr) (σ : St) : Lexec env (.loop live b) fr σ = loopX σ.dirty (Liter env b live σ.heap.length (fr.keep live) ⟨σ.heap, σ.lock, σ.hid, []⟩) := by
  rw [Lexec_loop]
  cases Liter env b live σ.heap.length (fr.keep live) ⟨σ.heap, σ.lock, σ.hid, []⟩ <;> rfl
noncomputable def againX (env : Env) (b : ACode) (live : List Nat) (base : Nat) : Option (Fr × St) → Option (Ex × Fr × St)
  | some (fr, σ) => Liter env b live base fr σ
  | none => none
theorem againX_some (b : ACode) (live : List Nat) (base : Nat) (fr : Fr) (σ : St) : againX env b live base (some (fr, σ)) = Liter env b live base fr σ := rfl
noncomputable def iterX (env : Env) (b : ACode) (live : List Nat) (base : Nat) : Option (Ex × Fr × St) → Option (Ex × Fr × St)
  | some (.normal, fr, σ) => againX env b live base (gcFr base (fr.keep live) σ)
  | some (e, fr, σ) => some (e, fr, σ)
  | none => none
theorem iterX_normal (b : ACode) (live : List Nat) (base : Nat) (fr : Fr) (σ : St) : iterX env b live base (some (.normal, fr, σ)) = againX env b live base (gcFr base (fr.keep live) σ) := rfl
theorem iterX_ret (b : ACode) (live : List Nat) (base : Nat) (fr : Fr) (σ : St) : iterX env b live base (some (.ret, fr, σ)) = some (.ret, fr, σ) := rfl
theorem iterX_exit (b : ACode) (live : List Nat) (base : Nat) (i : Nat) (fr : Fr) (σ : St) : iterX env b live base (some (.exit i, fr, σ)) = some (.exit i, fr, σ) := rfl
theorem iterX_ite (b : ACode) (live : List Nat) (base : Nat) (c : Prop) [Decidable c] (x y : Option (Ex × Fr × St)) : iterX env b live base (if c then x else y) = if c then iterX env b live base x else iterX env b live base y := by split <;> rfl
theorem loopX_ite (d : List Nat) (c : Prop) [Decidable c] (x y : Option (Ex × Fr × St)) : loopX d (if c then x else y) = if c then loopX d x else loopX d y := by split <;> rfl
theorem iter_sym (b : ACode) (live : List Nat) (base : Nat) (fr : Fr) (σ : St) : Liter env b live base fr σ = iterX env b live base (Lexec env b fr σ) := by
  rw [Liter_eq]
  cases Lexec env b fr σ with
  | none => rfl
  | some r =>
    obtain ⟨e, fr', σ'⟩ := r
    cases e <;> first
      | rfl
      | (simp only [Option.bind_some, iterX]; cases gcFr base (fr'.keep live) σ' <;> rfl)
theorem iter_by {b b' : ACode} (h : b = b') (live : List Nat) (base : Nat) (fr : Fr) (σ : St) : Liter env b live base fr σ = iterX env b live base (Lexec env b' fr σ) := by subst h; exact iter_sym b live base fr σ
def keepX (t : Nat) (k : Fr) : Option Value → Fr
  | some v => (t, v) :: k
  | none => k
theorem keepX_some (t : Nat) (k : Fr) (v : Value) : keepX t k (some v) = (t, v) :: k := rfl
theorem keepX_none (t : Nat) (k : Fr) : keepX t k none = k := rfl
theorem keep_cons (fr : Fr) (t : Nat) (l : List Nat) : fr.keep (t :: l) = keepX t (fr.keep l) (fr.get t) := by
  simp only [Fr.keep]; cases fr.get t <;> rfl
theorem keep_nil (fr : Fr) : fr.keep [] = [] := rfl
theorem gcFr_same {base : Nat} (fr : Fr) (hp : List Blk) (L : Nat) (H d : List Nat) (hb : hp.length ≤ base) : gcFr base fr ⟨hp, L, H, d⟩ = some (fr, ⟨hp, L, H, d⟩) := by
  unfold gcFr gc
  rw [if_pos hb]
  simp only [Option.map_some]
  congr 2
  induction fr with
  | nil => rfl
  | cons x fr ih => simpa using ih
/-- A function's end. -/
def gcX (σ : St) : Option (List Value × St) → Option (Value × St)
  | some ([v], τ) => some (v, ⟨τ.heap, τ.lock, τ.hid, joinDirty σ.dirty τ.dirty⟩)
  | _ => none
theorem gcX_some (σ : St) (v : Value) (τ : St) : gcX σ (some ([v], τ)) = some (v, ⟨τ.heap, τ.lock, τ.hid, joinDirty σ.dirty τ.dirty⟩) := rfl
def resX (σ τ : St) : Option Value → Option (Value × St)
  | some u => gcX σ (gc σ.heap.length [u] τ)
  | none => none
theorem resX_some (σ τ : St) (u : Value) : resX σ τ (some u) = gcX σ (gc σ.heap.length [u] τ) := rfl
def ressX (σ τ : St) : Option (List Value) → Option (Value × St)
  | some vs => resX σ τ (resOf vs)
  | none => none
theorem ressX_some (σ τ : St) (vs : List Value) : ressX σ τ (some vs) = resX σ τ (resOf vs) := rfl
theorem fin_go (rs : List ARes) (σ : St) (fr : Fr) (τ : St) : ((resvs fr τ rs).bind fun vs => (resOf vs).bind fun u => (gc σ.heap.length [u] τ).bind fun q => match q.1 with
      | [v] => some (v, { q.2 with dirty := joinDirty σ.dirty q.2.dirty })
      | _ => none) = ressX σ τ (resvs fr τ rs) := by
  cases resvs fr τ rs with
  | none => rfl
  | some vs =>
    simp only [Option.bind_some, ressX]
    cases resOf vs with
    | none => rfl
    | some u =>
      simp only [Option.bind_some, resX]
      cases gc σ.heap.length [u] τ with
      | none => rfl
      | some q =>
        obtain ⟨l, τ'⟩ := q
        simp only [Option.bind_some]
        cases l with
        | nil => rfl
        | cons v l => cases l <;> rfl
theorem finX_ret (rs : List ARes) (σ : St) (fr : Fr) (τ : St) : finX rs σ (some (.ret, fr, τ)) = ressX σ τ (resvs fr τ rs) := fin_go rs σ fr τ
theorem finX_normal (rs : List ARes) (σ : St) (fr : Fr) (τ : St) : finX rs σ (some (.normal, fr, τ)) = ressX σ τ (resvs fr τ rs) := fin_go rs σ fr τ
theorem resvs_cons (fr : Fr) (τ : St) (r : ARes) (l : List ARes) : resvs fr τ (r :: l) = evsX (resv fr τ r) (resvs fr τ l) := by
  simp only [resvs]; cases resv fr τ r with
  | none => rfl
  | some v => cases resvs fr τ l <;> rfl
theorem resvs_nil (fr : Fr) (τ : St) : resvs fr τ [] = some [] := rfl
theorem resv_tmp (fr : Fr) (τ : St) (t : Nat) : resv fr τ (.tmp t) = fr.get t := rfl
def rescX (τ : St) (n : Option Nat) : Option Value → Option Value
  | some (.pointer (some a)) => match τ.blk a with
    | some r => rdCells r.2 a.off n
    | none => none
  | _ => none
def rescY (n : Option Nat) (off : Nat) : Option (Bool × List Value) → Option Value
  | some r => rdCells r.2 off n
  | none => none
theorem rescY_some (n : Option Nat) (off : Nat) (r : Bool × List Value) : rescY n off (some r) = rdCells r.2 off n := rfl
theorem rescX_some (τ : St) (n : Option Nat) (a : Addr) : rescX τ n (some (.pointer (some a))) = rescY n a.off (τ.blk a) := by
  simp only [rescX]; cases τ.blk a <;> rfl
theorem resv_cell (fr : Fr) (τ : St) (a : Nat) (n : Option Nat) : resv fr τ (.cell a n) = rescX τ n (fr.get a) := by
  simp only [resv]; cases fr.get a with
  | none => rfl
  | some v => cases v <;> first
    | rfl
    | (rename_i q; cases q with
       | none => rfl
       | some a => simp only [rescX]; cases τ.blk a <;> rfl)
theorem resOf_one (v : Value) : resOf [v] = some v := rfl
theorem resOf_two (v w : Value) (l : List Value) : resOf (v :: w :: l) = if (v :: w :: l).all flatv then some (.tuple (v :: w :: l).toArray) else none := rfl
theorem resOf_nil : resOf [] = some (.tuple #[]) := rfl
/-- Nothing new. -/
theorem gc_same {hp : List Blk} {base : Nat} {vs : List Value} {L : Nat} {H d : List Nat} (hb : hp.length ≤ base) : gc base vs ⟨hp, L, H, d⟩ = some (vs, ⟨hp, L, H, d⟩) := by
  unfold gc; rw [if_pos hb]
end
/-! ### Forks: a condition that is not known is left as an 'if' in one place -/
inductive Br where
  | tt
  | ff
section
variable {env : Env} {callf : CallF}
def wantY (callf : CallF) (o : AOper) (l : List AOper) (fr : Fr) (σ : St) : Br → Option (Fr × St)
  | .tt => opX callf o.dst l fr (aop callf o.op fr σ)
  | .ff => aops callf l (fr.put o.dst undefv) σ
theorem wantX_br (o : AOper) (l : List AOper) (fr : Fr) (σ : St) (b : Bool) : wantX callf o l fr σ (some b) = wantY callf o l fr σ (if b = true then .tt else .ff) := by cases b <;> rfl
theorem wantY_tt (o : AOper) (l : List AOper) (fr : Fr) (σ : St) : wantY callf o l fr σ .tt = opX callf o.dst l fr (aop callf o.op fr σ) := rfl
theorem wantY_ff (o : AOper) (l : List AOper) (fr : Fr) (σ : St) : wantY callf o l fr σ .ff = aops callf l (fr.put o.dst undefv) σ := rfl
noncomputable def condY (env : Env) (a b : ACode) (fr : Fr) (σ : St) : Br → Option (Ex × Fr × St)
  | .tt => Lexec env a fr σ
  | .ff => Lexec env b fr σ
theorem condX_br (a b : ACode) (fr : Fr) (σ : St) (c : Bool) : condX env a b fr σ (some (.bool c)) = condY env a b fr σ (if c = true then .tt else .ff) := by cases c <;> rfl
theorem condY_tt (a b : ACode) (fr : Fr) (σ : St) : condY env a b fr σ .tt = Lexec env a fr σ := rfl
theorem condY_ff (a b : ACode) (fr : Fr) (σ : St) : condY env a b fr σ .ff = Lexec env b fr σ := rfl
def pickY (σ : St) (x y : Option Value) : Br → Option (Value × St)
  | .tt => retX σ x
  | .ff => retX σ y
theorem pickX_br (σ : St) (c : Bool) (x y : Option Value) : pickX σ (some (.bool c)) x y = pickY σ x y (if c = true then .tt else .ff) := by cases c <;> rfl
theorem pickY_tt (σ : St) (x y : Option Value) : pickY σ x y .tt = retX σ x := rfl
theorem pickY_ff (σ : St) (x y : Option Value) : pickY σ x y .ff = retX σ y := rfl
/-- What an operation has made. -/
def bornX (born : List (Nat × Nat × Nat)) (j lo hi : Nat) : List (Nat × Nat × Nat) := if lo < hi then (j, lo, hi) :: born else born
theorem bornX_same (born : List (Nat × Nat × Nat)) (j n : Nat) : bornX born j n n = born := if_neg (Nat.lt_irrefl n)
theorem lockD_ff (own : Bool) (born : List (Nat × Nat × Nat)) (L n : Nat) : lockD false own born L n = n := rfl
theorem lockD_tf (born : List (Nat × Nat × Nat)) (L n : Nat) : lockD true false born L n = L := rfl
theorem lockD_tt (born : List (Nat × Nat × Nat)) (L n : Nat) : lockD true true born L n = lockO L (baseOf born n) n := rfl
theorem lockO_in {L base n : Nat} (h : L ≤ base) (h' : base ≤ n) : lockO L base n = base := if_pos ⟨h, h'⟩
theorem ownO_eq (d : Option Nat) (g : Option (Nat × Bool)) (bef : Nat) (wr : Bool) (op : AOp) : ownO ⟨d, g, bef, wr, op⟩ = bef.testBit 255 := rfl
theorem baseOf_nil (n : Nat) : baseOf [] n = n := rfl
theorem baseOf_born {born : List (Nat × Nat × Nat)} {j lo hi n : Nat} (h : lo < hi) : baseOf (bornX born j lo hi) n = baseOf born lo := by
  unfold bornX; rw [if_pos h]; rfl
theorem hiddenBy_nil (bef : Nat) : hiddenBy bef [] = [] := rfl
theorem hiddenBy_bornX (bef : Nat) (born : List (Nat × Nat × Nat)) (j lo hi : Nat) : hiddenBy bef (bornX born j lo hi) = if bef.testBit j = true then hiddenBy bef born else List.range' lo (hi - lo) ++ hiddenBy bef born := by
  unfold bornX
  split
  · rfl
  · have : hi - lo = 0 := by omega
    rw [this]
    split <;> rfl
def mwantY (callf : CallF) (m : Bool) (B : List Nat) (seen : List (Bool × Nat)) (o : AOper) (l : List AOper) (fr : Fr) (σ : St) : Br → Option (Fr × St)
  | .tt => mgoX callf m B seen o l fr σ
  | .ff => mops callf m B seen l (fr.put o.dst undefv) σ
theorem mwantX_br (callf : CallF) (m : Bool) (B : List Nat) (seen : List (Bool × Nat)) (o : AOper) (l : List AOper) (fr : Fr) (σ : St) (b : Bool) : mwantX callf m B seen o l fr σ (some b) = mwantY callf m B seen o l fr σ (if b = true then .tt else .ff) := by cases b <;> rfl
theorem mwantY_tt (callf : CallF) (m : Bool) (B : List Nat) (seen : List (Bool × Nat)) (o : AOper) (l : List AOper) (fr : Fr) (σ : St) : mwantY callf m B seen o l fr σ .tt = mgoX callf m B seen o l fr σ := rfl
theorem mwantY_ff (callf : CallF) (m : Bool) (B : List Nat) (seen : List (Bool × Nat)) (o : AOper) (l : List AOper) (fr : Fr) (σ : St) : mwantY callf m B seen o l fr σ .ff = mops callf m B seen l (fr.put o.dst undefv) σ := rfl
def dwantY (callf : CallF) (born : List (Nat × Nat × Nat)) (j : Nat) (o : AOper) (l : List AOper) (fr : Fr) (σ : St) : Br → Option (Fr × St)
  | .tt => dopX callf born j o.dst l fr σ (aop callf o.op fr ⟨σ.heap, lockD o.wr (ownO o) born σ.lock σ.heap.length, hiddenBy o.bef born ++ σ.hid, σ.dirty⟩)
  | .ff => dops callf born (j + 1) l (fr.put o.dst undefv) σ
theorem dwantX_br (born : List (Nat × Nat × Nat)) (j : Nat) (o : AOper) (l : List AOper) (fr : Fr) (σ : St) (b : Bool) : dwantX callf born j o l fr σ (some b) = dwantY callf born j o l fr σ (if b = true then .tt else .ff) := by cases b <;> rfl
theorem dwantY_tt (born : List (Nat × Nat × Nat)) (j : Nat) (o : AOper) (l : List AOper) (fr : Fr) (σ : St) : dwantY callf born j o l fr σ .tt = dopX callf born j o.dst l fr σ (aop callf o.op fr ⟨σ.heap, lockD o.wr (ownO o) born σ.lock σ.heap.length, hiddenBy o.bef born ++ σ.hid, σ.dirty⟩) := rfl
theorem dwantY_ff (born : List (Nat × Nat × Nat)) (j : Nat) (o : AOper) (l : List AOper) (fr : Fr) (σ : St) : dwantY callf born j o l fr σ .ff = dops callf born (j + 1) l (fr.put o.dst undefv) σ := rfl
theorem dopX_born (born : List (Nat × Nat × Nat)) (j : Nat) (d : Option Nat) (l : List AOper) (fr : Fr) (σ : St) (v : Value) (τ : St) : dopX callf born j d l fr σ (some (v, τ)) =
    dops callf (bornX born j σ.heap.length τ.heap.length) (j + 1) l (fr.put d v) ⟨τ.heap, σ.lock, σ.hid, τ.dirty⟩ := rfl
/-- What a guard says. -/
def wantG (b : Bool) : Option Value → Option Bool
  | some (.bool c) => some (c == b)
  | some (.tuple _) => some false
  | _ => none
theorem want_none (d : Option Nat) (bf : Nat) (wr : Bool) (op : AOp) (fr : Fr) : want ⟨d, none, bf, wr, op⟩ fr = some true := rfl
theorem want_some (d : Option Nat) (g : Nat) (b : Bool) (bf : Nat) (wr : Bool) (op : AOp) (fr : Fr) : want ⟨d, some (g, b), bf, wr, op⟩ fr = wantG b (fr.get g) := by
  simp only [want]; cases fr.get g with
  | none => rfl
  | some v => cases v <;> rfl
theorem wantG_true (c : Bool) : wantG true (some (.bool c)) = some c := by cases c <;> rfl
theorem wantG_false (c : Bool) : wantG false (some (.bool c)) = some (!c) := by cases c <;> rfl
theorem wantG_tuple (b : Bool) (vs : Array Value) : wantG b (some (.tuple vs)) = some false := rfl
theorem wantX_true (o : AOper) (l : List AOper) (fr : Fr) (σ : St) : wantX callf o l fr σ (some true) = opX callf o.dst l fr (aop callf o.op fr σ) := rfl
theorem dwantX_true (born : List (Nat × Nat × Nat)) (j : Nat) (o : AOper) (l : List AOper) (fr : Fr) (σ : St) : dwantX callf born j o l fr σ (some true) = dopX callf born j o.dst l fr σ (aop callf o.op fr ⟨σ.heap, lockD o.wr (ownO o) born σ.lock σ.heap.length, hiddenBy o.bef born ++ σ.hid, σ.dirty⟩) := rfl
theorem ev_tmp (fr : Fr) (t : Nat) : ev fr (.tmp t) = fr.get t := rfl
theorem ev_const (fr : Fr) (v : Value) : ev fr (.const v) = some v := rfl
theorem ev_func (fr : Fr) (f : FuncId) : ev fr (.func f) = some (.func (.func f) #[] #[]) := rfl
theorem get_cons (k t : Nat) (v : Value) (l : Fr) : Fr.get ((k, v) :: l) t = if k = t then some v else Fr.get l t := rfl
theorem put_some (fr : Fr) (d : Nat) (v : Value) : fr.put (some d) v = (d, v) :: fr := rfl
theorem put_none (fr : Fr) (v : Value) : fr.put none v = fr := rfl
end
end AM
end Go.Proofs.Ytpjjkmfidghkjaa
end
section
namespace Go.Proofs.Ytpjjkmfidghkjaa
namespace AM
open Go Go.RowKit

section
variable {h nw : List Blk} {L : Nat} {H d : List Nat} {vs : List Value}
/-- Nothing new can be seen: it is dropped. -/
theorem gc_zero (hv : ∀ v ∈ vs, ∀ r ∈ refs v, r < h.length) (hd : d = []) : gc h.length vs ⟨h ++ nw, L, H, d⟩ = some (vs, ⟨h, L, H, []⟩) := by
  subst hd
  unfold gc
  by_cases hn : (h ++ nw).length ≤ h.length
  · rw [if_pos hn]
    have : nw = [] := by
      simp only [List.length_append] at hn
      exact List.eq_nil_of_length_eq_zero (by omega)
    subst this
    simp
  · rw [if_neg hn]
    have : (vs.flatMap refs ++ (([] : List Nat).filter (· < h.length)).flatMap (refsAt (h ++ nw))).filter (h.length ≤ ·) = [] := by
      simp only [List.filter_nil, List.flatMap_nil, List.append_nil]
      rw [List.filter_eq_nil_iff]
      intro r hr
      obtain ⟨v, h1, h2⟩ := List.mem_flatMap.1 hr
      have := hv v h1 r h2
      simpa using this
    simp only [this]
    simp
theorem reach_one {g : Nat} {cs : List Value} {base r : Nat} {hp : List Blk} (hb : hp[r]? = some (.cells g true cs)) (hr : base ≤ r) : ∀ (ws acc : List Nat) (f : Nat), (∀ x ∈ ws, x = r) → acc = [r] → reach hp base f ws acc = [r]
  | ws, acc, 0, _, ha => by rw [reach]; exact ha
  | [], acc, f + 1, _, ha => by rw [reach]; exact ha
  | x :: ws, acc, f + 1, hx, ha => by
    have : x = r := hx x (by simp)
    subst this
    rw [reach]
    have h1 : (decide (x < base) || acc.contains x) = true := by rw [ha]; simp
    rw [if_pos h1]
    exact reach_one hb hr ws acc f (fun y hy => hx y (by simp [hy])) ha
/-- Where the one kept block goes. -/
def one (base r : Nat) (id : Nat) : Nat := if id < base then id else base + [r].idxOf id
theorem one_old {base r id : Nat} (h : id < base) : one base r id = id := by simp [one, h]
theorem one_new {base k : Nat} : one base (base + k) (base + k) = base := by
  have : ¬ base + k < base := by omega
  simp [one, this]
theorem gc_one {k g : Nat} {cs : List Value} (hk : nw[k]? = some (.cells g true cs)) (hv : ∀ v ∈ vs, ∀ r ∈ refs v, r < h.length ∨ r = h.length + k) (hx : ∃ v ∈ vs, h.length + k ∈ refs v) (hd : d = []) :
    gc h.length vs ⟨h ++ nw, L, H, d⟩ = some (vs.map (ren (one h.length (h.length + k))), ⟨h ++ [.cells g true cs], L, H, []⟩) := by
  subst hd
  have hkl : k < nw.length := (List.getElem?_eq_some_iff.1 hk).1
  have hb : (h ++ nw)[h.length + k]? = some (.cells g true cs) := by rw [List.getElem?_append_right (by omega), Nat.add_sub_cancel_left]; exact hk
  have hr0 : refsAt (h ++ nw) (h.length + k) = [] := by simp [refsAt, hb, refsB]
  unfold gc
  rw [if_neg (by simp only [List.length_append]; omega)]
  have hroots : ∀ r ∈ (vs.flatMap refs ++ (([] : List Nat).filter (· < h.length)).flatMap (refsAt (h ++ nw))).filter (h.length ≤ ·), r = h.length + k := fun r hr => by
    simp only [List.filter_nil, List.flatMap_nil, List.append_nil, List.mem_filter, List.mem_flatMap, decide_eq_true_eq] at hr
    obtain ⟨⟨v, h1, h2⟩, h3⟩ := hr
    rcases hv v h1 r h2 with h4 | h4
    · omega
    · exact h4
  have hne : h.length + k ∈ (vs.flatMap refs ++ (([] : List Nat).filter (· < h.length)).flatMap (refsAt (h ++ nw))).filter (h.length ≤ ·) := by
    simp only [List.filter_nil, List.flatMap_nil, List.append_nil, List.mem_filter, List.mem_flatMap, decide_eq_true_eq]
    obtain ⟨v, h1, h2⟩ := hx
    exact ⟨⟨v, h1, h2⟩, by omega⟩
  simp only []
  generalize hroot : (vs.flatMap refs ++ (([] : List Nat).filter (· < h.length)).flatMap (refsAt (h ++ nw))).filter (h.length ≤ ·) = roots at hroots hne
  cases roots with
  | nil => simp at hne
  | cons r rs =>
    have hr : r = h.length + k := hroots r (by simp)
    subst hr
    simp only []
    have hreach : reach (h ++ nw) h.length 4096 ((h.length + k) :: rs) [] = [h.length + k] := by
      rw [show 4096 = 4095 + 1 by rfl, reach]
      rw [if_neg (by simp)]
      exact reach_one hb (by omega) _ _ _ (fun x hx => by
        rw [hr0, List.nil_append] at hx
        exact hroots x (by simp [hx])) rfl
    rw [hreach]
    unfold gcKeep
    have hok : (vs.all fun v => (refs v).all fun r => decide (r < h.length) || [h.length + k].contains r) = true := by
      rw [List.all_eq_true]
      intro v h1
      rw [List.all_eq_true]
      intro r h2
      rcases hv v h1 r h2 with h4 | h4
      · simp [h4]
      · simp [h4]
    simp only [List.filter_nil]
    refine (if_pos ?_).trans ?_
    · simp only [nodupB, hok, List.all_nil, List.all_cons, hr0, List.length_append]
      simp
      exact hkl
    · have hg : (h ++ nw).getD (h.length + k) default = .cells g true cs := by rw [List.getD_eq_getElem?_getD, hb]; rfl
      simp only [renAll, List.map_cons, List.map_nil, hg, renB, List.take_left']
      rfl
/-- A function's end: nothing new kept. -/
theorem gc_zero1 {v : Value} (hv : ∀ r ∈ refs v, r < h.length) : gc h.length [v] ⟨h ++ nw, L, H, []⟩ = some ([v], ⟨h, L, H, []⟩) := gc_zero (fun v' h1 r h2 => by simp at h1; subst h1; exact hv r h2) rfl
theorem gc_zero0 {v : Value} (hv : ∀ r ∈ refs v, r < h.length) : gc h.length [v] ⟨h, L, H, []⟩ = some ([v], ⟨h, L, H, []⟩) := by
  have := gc_zero1 (nw := []) (L := L) (H := H) hv
  simpa using this
end
end AM
end Go.Proofs.Ytpjjkmfidghkjaa
end
