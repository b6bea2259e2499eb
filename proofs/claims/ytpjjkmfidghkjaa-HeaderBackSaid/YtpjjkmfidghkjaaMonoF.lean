/-
  A REGION THAT DRAWS ITS ORDER, WHOSE OPERATIONS ONLY READ OR MAKE NEW MEMORY: one walk in the text's order serves every order,
  with predicates on what each operation leaves in its slot in the place of fixed values.
  Conditions: none of the program; 'Mono.monoB' is asked of the region, by the kernel.
-/
import Derived.Orders
import Derived.OrdersIn
import Derived.RangeFuncCalls
import Derived.RangeFuncLeaves
import Derived.Deep.Draws
import Derived.Test.YtpjjkmfidghkjaaMem
namespace Go.Proofs.Ytpjjkmfidghkjaa
namespace Mono
open Go

section
variable {P : Program} {ops : Array Oper}

/-- What is asked of an operation's run: it yields a value, nothing, or a call that returns. -/
def givesUpon (P : Program) (T : Value → World → Prop) : Result Next → Prop
  | .ok (.value u) w' => T u w'
  | .ok .skip w' => T undef w'
  | .ok (.enter f args) w' => Calls P f args w' (fun e w'' => ∃ v, e = .returned v ∧ T v w'')
  | .ok (.round l f tmps assign body) w' => RoundIn Fence.wide 0 P l f tmps assign body w' (fun e w'' => ∃ v, e = .returned v ∧ T v w'')
  | _ => False

def gives (P : Program) (o : Oper) (a : Act) (w : World) (T : Value → World → Prop) : Prop := givesUpon P T ((execOp a.eval o).run P w)

theorem gives_mono {o : Oper} {a : Act} {w : World} {T T' : Value → World → Prop} (h : ∀ v w, T v w → T' v w) (hh : gives P o a w T) : gives P o a w T' := by
  unfold gives at *
  generalize (execOp a.eval o).run P w = r at *
  cases r with
  | ok n w' =>
    cases n <;> simp only [givesUpon] at hh ⊢
    case value u => exact h _ _ hh
    case skip => exact h _ _ hh
    case enter f args => exact hh.mono fun e w'' ⟨v, he, ht⟩ => ⟨v, he, h _ _ ht⟩
    case round l f tmps assign body => exact hh.mono fun e w'' ⟨v, he, ht⟩ => ⟨v, he, h _ _ ht⟩
  | halt x w' => simp only [givesUpon] at hh

/-- The fence of a frame: no bound; in a round or not. -/
def fw (r : Option Nat) : Fence := { Fence.wide with round := r }
theorem calls_fw {r : Option Nat} {n : Nat} {f : FuncId} {args : Array Value} {w : World} {R : Ending → World → Prop} (h : Calls P f args w R) : CallsIn (fw r) n P f args w R := by
  have := (callsIn_wide (n := n)).2 h
  cases r with
  | none => exact this
  | some l => exact this
theorem wpIn_of_gives {r : Option Nat} {o : Oper} {a : Act} {w : World} {T : Value → World → Prop} {K : Act → World → Prop} {Q : Exit → Act → World → Prop}
    (hd : ∀ c, o.op ≠ .defer c) (h : ∀ v w', T v w' → K (a.put o.dst v) w') (hh : gives P o a w T) : o.wpIn (fw r) 0 P a w K Q := by
  refine ⟨fun _ _ => (by cases r <;> exact trivial), ?_⟩
  have e : o.semAt (fw r).round a.eval = execOp a.eval o := by
    cases r with
    | none => exact Oper.semAt_none ..
    | some l => exact Oper.semAt_some l _ _ hd
  rw [e]
  unfold gives at hh
  generalize (execOp a.eval o).run P w = q at *
  cases q with
  | ok n w' =>
    cases n <;> simp only [givesUpon] at hh <;> simp only [Oper.uponIn]
    case value u => exact h _ _ hh
    case skip => exact h _ _ hh
    case enter f args => exact ⟨fun h => (by cases r <;> cases h), calls_fw (hh.mono fun e w'' ⟨v, he, ht⟩ => by subst he; exact h _ _ ht)⟩
    case round l f tmps assign body =>
      refine ⟨fun h => (by cases r <;> cases h), ?_⟩
      have := hh.mono (R' := fun | .returned v, w'' => K (a.put o.dst v) w'' | .panicked chain, w'' => Q (.panic chain) a w'' | .outgrown, _ => LetsOut Q) fun e w'' ⟨v, he, ht⟩ => by subst he; exact h _ _ ht
      cases r with
      | none => exact this
      | some l => exact this
  | halt x w' => simp only [givesUpon] at hh

/-- What the operations from number j on have left in their slots. -/
def putAll (vs : Nat → Value) : Nat → List Oper → Act → Act
  | _, [], a => a
  | j, o :: rest, a => putAll vs (j + 1) rest (a.put o.dst (vs j))

def upd (F : Nat → Value → World → Prop) (j : Nat) (Φ : Value → World → Prop) : Nat → Value → World → Prop := fun k => if k = j then Φ else F k

/-- The facts that an operation may lean on: of the operations that it waits for. -/
def facts (F : Nat → Value → World → Prop) (vs : Nat → Value) (w : World) : List Edge → Prop
  | [] => True
  | e :: es => (Region.binds .any e = true → F e.on (vs e.on) w) ∧ facts F vs w es

theorem facts_of {F : Nat → Value → World → Prop} {vs : Nat → Value} {w : World} : ∀ (es : List Edge), (∀ e ∈ es, Region.binds .any e = true → F e.on (vs e.on) w) → facts F vs w es
  | [], _ => trivial
  | e :: es, h => ⟨h e (by simp), facts_of es fun x hx => h x (by simp [hx])⟩

theorem facts_congr {F F' : Nat → Value → World → Prop} {vs : Nat → Value} {w : World} : ∀ (es : List Edge), (∀ e ∈ es, F e.on = F' e.on) → facts F vs w es → facts F' vs w es
  | [], _, _ => trivial
  | e :: es, h, hh => ⟨fun hb => by rw [← h e (by simp)]; exact hh.1 hb, facts_congr es (fun x hx => h x (by simp [hx])) hh.2⟩

def Ob (P : Program) (ops : Array Oper) (R : World → World → Prop) (w0 : World) (a : (Nat → Value) → Act) (F : Nat → Value → World → Prop) (o : Oper) (Φ : Value → World → Prop) : Prop :=
  ∀ vs w, R w0 w → facts F vs w o.after.toList →
    if Region.wanted o (yielded ops (a vs).tmps) = true then gives P o (a vs) w (fun v w' => Φ v w' ∧ R w w') else Φ undef w

/-- All facts below n. -/
def allFacts (F : Nat → Value → World → Prop) (vs : Nat → Value) (w : World) : Nat → Prop
  | 0 => True
  | n + 1 => allFacts F vs w n ∧ F n (vs n) w

theorem allFacts_of {F : Nat → Value → World → Prop} {vs : Nat → Value} {w : World} : ∀ (n : Nat), (∀ k, k < n → F k (vs k) w) → allFacts F vs w n
  | 0, _ => trivial
  | n + 1, h => ⟨allFacts_of n fun k hk => h k (by omega), h n (by omega)⟩

theorem allFacts_congr {F F' : Nat → Value → World → Prop} {vs : Nat → Value} {w : World} : ∀ (n : Nat), (∀ k, k < n → F k = F' k) → allFacts F vs w n → allFacts F' vs w n
  | 0, _, _ => trivial
  | n + 1, h, hh => ⟨allFacts_congr n (fun k hk => h k (by omega)) hh.1, by rw [← h n (by omega)]; exact hh.2⟩

/-- THE WALK IN THE TEXT's ORDER: of each operation a predicate on what it leaves, kept along R. -/
def regOk (P : Program) (ops : Array Oper) (R : World → World → Prop) (w0 : World) (Q : Act → World → Prop) : Nat → List Oper → ((Nat → Value) → Act) → (Nat → Value → World → Prop) → Prop
  | j, [], a, F => ∀ vs w, R w0 w → allFacts F vs w j → Q (a vs) w
  | j, o :: rest, a, F => ∃ Φ : Value → World → Prop, (∀ v w w', Φ v w → R w w' → Φ v w') ∧ Ob P ops R w0 a F o Φ ∧
      regOk P ops R w0 Q (j + 1) rest (fun vs => (a vs).put o.dst (vs j)) (upd F j Φ)

/-- The static conditions: each slot has one writer; an operation and the writer of what it looks at are bound by an edge; edges go back; no select. -/
def monoB (ops : Array Oper) (n : Nat) : Bool :=
  (List.range ops.size).all fun j => match ops[j]? with
    | none => false
    | some o => (match o.op with | .select _ _ => false | _ => true) && (match o.dst with | some d => decide (d < n) | none => true) &&
        (o.after.toList.all fun e => decide (e.on < j)) &&
        ((List.range ops.size).all fun k => match ops[k]? with
          | none => false
          | some o' => j == k || (match o'.dst with
            | none => true
            | some d => (o.dst != some d) && (!(o.looksAt ops).contains d || (o.after.toList.any fun e => Region.binds .any e && e.on == k) || (o'.after.toList.any fun e => Region.binds .any e && e.on == j))))

structure Stat (ops : Array Oper) (n : Nat) : Prop where
  nosel : ∀ (j : Nat) (o : Oper) cs b, ops[j]? = some o → o.op ≠ .select cs b
  fits : ∀ (j : Nat) (o : Oper) d, ops[j]? = some o → o.dst = some d → d < n
  back : ∀ (j : Nat) (o : Oper) (e : Edge), ops[j]? = some o → e ∈ o.after → e.on < j
  one : ∀ (j k : Nat) (o o' : Oper) d, ops[j]? = some o → ops[k]? = some o' → j ≠ k → o'.dst = some d → o.dst ≠ some d
  bound : ∀ (j k : Nat) (o o' : Oper) d, ops[j]? = some o → ops[k]? = some o' → j ≠ k → o'.dst = some d → d ∈ o.looksAt ops →
    (∃ e ∈ o.after, Region.binds .any e = true ∧ e.on = k) ∨ (∃ e ∈ o'.after, Region.binds .any e = true ∧ e.on = j)

theorem stat_of {n : Nat} (h : monoB ops n = true) : Stat ops n := by
  unfold monoB at h
  rw [List.all_eq_true] at h
  have hlt : ∀ {j : Nat} {o : Oper}, ops[j]? = some o → j < ops.size := fun ho => (Array.getElem?_eq_some_iff.1 ho).1
  refine ⟨fun j o cs b ho => ?_, fun j o d ho hd => ?_, fun j o e ho he => ?_, fun j k o o' d ho hk hjk hd => ?_, fun j k o o' d ho hk hjk hd hm => ?_⟩
  all_goals
    have hj := h j (List.mem_range.2 (hlt ho))
    simp only [ho, Bool.and_eq_true] at hj
    obtain ⟨⟨⟨h1, h2⟩, h3⟩, h4⟩ := hj
  · intro he; simp [he] at h1
  · simpa [hd] using h2
  · rw [List.all_eq_true] at h3
    have := h3 e (by simpa using he)
    simpa using this
  · rw [List.all_eq_true] at h4
    have := h4 k (List.mem_range.2 (hlt hk))
    simp only [hk, hd, Bool.or_eq_true, beq_iff_eq, hjk, false_or, Bool.and_eq_true] at this
    simpa using this.1
  · rw [List.all_eq_true] at h4
    have := h4 k (List.mem_range.2 (hlt hk))
    simp only [hk, hd, Bool.or_eq_true, beq_iff_eq, hjk, false_or, Bool.and_eq_true] at this
    rcases this.2 with (h5 | h5) | h5
    · simp at h5; exact absurd hm h5
    · rw [List.any_eq_true] at h5
      obtain ⟨e, he, hb⟩ := h5
      simp only [Bool.and_eq_true, beq_iff_eq] at hb
      exact .inl ⟨e, by simpa using he, hb.1, hb.2⟩
    · rw [List.any_eq_true] at h5
      obtain ⟨e, he, hb⟩ := h5
      simp only [Bool.and_eq_true, beq_iff_eq] at hb
      exact .inr ⟨e, by simpa using he, hb.1, hb.2⟩

def slot (a : Act) (t : Nat) : Value := a.tmps.getD t undef

theorem slot_put_same {a : Act} {d : Nat} (hd : d < a.tmps.size) (v : Value) : slot (a.put (some d) v) d = v := by
  simp [slot, Act.put, hd]
theorem slot_put_ne {a : Act} {dst : Option Tmp} {t : Nat} (h : dst ≠ some t) (v : Value) : slot (a.put dst v) t = slot a t := by
  cases dst with
  | none => rfl
  | some d =>
    have hne : d ≠ t := fun e => h (by rw [e])
    simp [slot, Act.put, Array.getElem?_setIfInBounds_ne hne]
theorem size_put (a : Act) (dst : Option Tmp) (v : Value) : (a.put dst v).tmps.size = a.tmps.size := by cases dst <;> simp [Act.put]
theorem defers_put (a : Act) (dst : Option Tmp) (v : Value) : (a.put dst v).defers = a.defers := by cases dst <;> rfl

theorem putAll_size (vs : Nat → Value) : ∀ (l : List Oper) (j : Nat) (a : Act), (putAll vs j l a).tmps.size = a.tmps.size
  | [], _, _ => rfl
  | o :: l, j, a => by rw [putAll, putAll_size vs l, size_put]
theorem putAll_defers (vs : Nat → Value) : ∀ (l : List Oper) (j : Nat) (a : Act), (putAll vs j l a).defers = a.defers
  | [], _, _ => rfl
  | o :: l, j, a => by rw [putAll, putAll_defers vs l, defers_put]
theorem putAll_not (vs : Nat → Value) (t : Nat) : ∀ (l : List Oper) (j : Nat) (a : Act), (∀ o ∈ l, o.dst ≠ some t) → slot (putAll vs j l a) t = slot a t
  | [], _, _, _ => rfl
  | o :: l, j, a, h => by rw [putAll, putAll_not vs t l _ _ fun x hx => h x (by simp [hx]), slot_put_ne (h o (by simp))]
theorem putAll_at (vs : Nat → Value) (t : Nat) : ∀ (l : List Oper) (j : Nat) (a : Act) (i : Nat) (o : Oper), l[i]? = some o → o.dst = some t → t < a.tmps.size →
    (∀ (i' : Nat) (o' : Oper), l[i']? = some o' → i' ≠ i → o'.dst ≠ some t) → slot (putAll vs j l a) t = vs (j + i)
  | [], _, _, _, _, h, _, _, _ => by simp at h
  | x :: l, j, a, 0, o, h, hd, ht, hu => by
    simp only [List.getElem?_cons_zero, Option.some.injEq] at h
    subst h
    rw [putAll, putAll_not vs t l _ _ (fun y hy => by
      obtain ⟨i, hi⟩ := List.mem_iff_getElem?.1 hy
      exact hu (i + 1) y (by simpa using hi) (by omega)), hd, slot_put_same ht]
    rfl
  | x :: l, j, a, i + 1, o, h, hd, ht, hu => by
    rw [putAll, putAll_at vs t l (j + 1) _ i o (by simpa using h) hd (by rw [size_put]; exact ht) (fun i' o' h' hne => hu (i' + 1) o' (by simpa using h') (by omega))]
    congr 1
    omega

/-- What holds on the way, whatever order is picked. -/
structure Inv (ops : Array Oper) (R : World → World → Prop) (w0 : World) (a0 : Act) (F : Nat → Value → World → Prop) (vs : Nat → Value) (listed : Array Bool) (a : Act) (w : World) : Prop where
  world : R w0 w
  size : a.tmps.size = a0.tmps.size
  defers : a.defers = a0.defers
  lsize : listed.size = ops.size
  closed : ∀ (k : Nat) (o : Oper) (e : Edge), ops[k]? = some o → listed.getD k false = true → e ∈ o.after → Region.binds .any e = true → listed.getD e.on false = true
  fact : ∀ (k : Nat) (o : Oper), ops[k]? = some o → listed.getD k false = true → F k (vs k) w
  set : ∀ (k : Nat) (o : Oper) (d : Nat), ops[k]? = some o → listed.getD k false = true → o.dst = some d → slot a d = vs k
  unset : ∀ (t : Nat), (∀ (k : Nat) (o : Oper), ops[k]? = some o → o.dst = some t → listed.getD k false = false) → slot a t = slot a0 t

theorem listed_true_of {listed : Array Bool} {j n : Nat} (hn : listed.size = n) (hj : j < n) (h : listed.getD j false = true) : listed.getD j true = true := by
  have : j < listed.size := by omega
  simpa [this] using h
theorem listed_false_of {listed : Array Bool} {j : Nat} (h : listed.getD j true = false) : listed.getD j false = false := by
  by_cases hj : j < listed.size
  · simpa [hj] using h
  · simp [hj] at h

theorem eval_slot {a b : Act} {x : Operand} (h : ∀ t, x = .tmp t → slot a t = slot b t) : a.eval x = b.eval x := by
  cases x with
  | tmp t => exact h t rfl
  | _ => rfl

theorem wanted_congr {o : Oper} {a b : Act} (hs : a.tmps.size = b.tmps.size) (h : ∀ g want d, o.guard = some (g, want) → (ops[g]?).bind (·.dst) = some d → slot a d = slot b d) :
    Region.wanted o (yielded ops a.tmps) = Region.wanted o (yielded ops b.tmps) := by
  unfold Region.wanted
  cases hg : o.guard with
  | none => rfl
  | some gw =>
    obtain ⟨g, want⟩ := gw
    have hy : yielded ops a.tmps g = yielded ops b.tmps g := by
      unfold yielded
      cases ht : (ops[g]?).bind (·.dst) with
      | none => rfl
      | some t =>
        have := h g want t hg ht
        have e : a.tmps[t]? = b.tmps[t]? := by
          rcases Nat.lt_or_ge t a.tmps.size with hlt | hlt
          · have hlt' : t < b.tmps.size := by rw [← hs]; exact hlt
            simp only [slot, Array.getD_eq_getD_getElem?, Array.getElem?_eq_getElem hlt, Array.getElem?_eq_getElem hlt', Option.getD_some] at this
            rw [Array.getElem?_eq_getElem hlt, Array.getElem?_eq_getElem hlt', this]
          · rw [Array.getElem?_eq_none hlt, Array.getElem?_eq_none (by rw [← hs]; exact hlt)]
        simp only [Option.bind_some, e]
    simp only [hy]

/-- The lexical walk, as a list of predicates. -/
theorem regOk_list {R : World → World → Prop} {w0 : World} {Q : Act → World → Prop} {a0 : Act} : ∀ (l : List Oper) (j : Nat) (done : List Oper) (F : Nat → Value → World → Prop),
    done.length = j → (∀ (i : Nat) (o : Oper) (e : Edge), (done ++ l)[i]? = some o → e ∈ o.after → e.on < i) →
    regOk P ops R w0 Q j l (fun vs => putAll vs 0 done a0) F →
    (∀ k v w w', k < j → F k v w → R w w' → F k v w') → (∀ (k : Nat) (o : Oper), done[k]? = some o → Ob P ops R w0 (fun vs => putAll vs 0 (done.take k) a0) F o (F k)) →
    ∃ F' : Nat → Value → World → Prop, (∀ k v w w', k < j + l.length → F' k v w → R w w' → F' k v w') ∧
      (∀ (k : Nat) (o : Oper), (done ++ l)[k]? = some o → Ob P ops R w0 (fun vs => putAll vs 0 ((done ++ l).take k) a0) F' o (F' k)) ∧
      (∀ vs w, R w0 w → allFacts F' vs w (j + l.length) → Q (putAll vs 0 (done ++ l) a0) w)
  | [], j, done, F, hl, hback, h, hm, hob => ⟨F, by simpa using hm, by simpa using hob, by simpa [regOk] using h⟩
  | o :: l, j, done, F, hl, hback, h, hm, hob => by
    obtain ⟨Φ, hΦ, hO, hrest⟩ := h
    have happ : ∀ (vs : Nat → Value) (d : List Oper) (i : Nat) (a : Act), putAll vs i (d ++ [o]) a = (putAll vs i d a).put o.dst (vs (i + d.length)) := by
      intro vs d
      induction d with
      | nil => intro i a; simp [putAll]
      | cons x d ih => intro i a; simp only [List.cons_append, putAll, ih, List.length_cons]; congr 2; omega
    have hF : ∀ k, k < j → upd F j Φ k = F k := fun k hk => by unfold upd; rw [if_neg (by omega)]
    have hFj : upd F j Φ j = Φ := by unfold upd; rw [if_pos rfl]
    have hr : regOk P ops R w0 Q (j + 1) l (fun vs => putAll vs 0 (done ++ [o]) a0) (upd F j Φ) := by
      have e : (fun vs => putAll vs 0 (done ++ [o]) a0) = fun vs => (putAll vs 0 done a0).put o.dst (vs j) := by
        funext vs; rw [happ, hl]; simp
      rw [e]; exact hrest
    have hrec := regOk_list l (j + 1) (done ++ [o]) (upd F j Φ) (by simp [hl]) (by simpa using hback) hr
      (fun k v w w' hk => by
        rcases Nat.lt_or_ge k j with h1 | h1
        · rw [hF k h1]; exact hm k v w w' h1
        · obtain rfl : k = j := by omega
          rw [hFj]; exact hΦ v w w')
      (fun k x hk => by
        rcases Nat.lt_or_ge k j with h1 | h1
        · rw [hF k h1]
          have hkd : done[k]? = some x := by rw [List.getElem?_append_left (by omega)] at hk; exact hk
          rw [List.take_append_of_le_length (by omega)]
          intro vs w hw hf
          refine hob k x hkd vs w hw (facts_congr _ (fun e he => hF e.on ?_) hf)
          have := hback k x e (by rw [List.getElem?_append_left (by omega)]; exact hkd) (by simpa using he)
          omega
        · have hkl : k < (done ++ [o]).length := by
            rcases Nat.lt_or_ge k (done ++ [o]).length with h2 | h2
            · exact h2
            · rw [List.getElem?_eq_none h2] at hk; cases hk
          simp at hkl
          obtain rfl : k = j := by omega
          rw [List.getElem?_append_right (by omega), hl] at hk
          simp at hk
          subst hk
          rw [hFj, List.take_append_of_le_length (by omega), List.take_of_length_le (by omega)]
          intro vs w hw hf
          refine hO vs w hw (facts_congr _ (fun e he => hF e.on ?_) hf)
          exact hback k o e (by rw [List.getElem?_append_right (by omega), hl]; simp) (by simpa using he))
    simpa [Nat.add_assoc, Nat.add_comm 1 l.length] using hrec

theorem set_getD {listed : Array Bool} {i j : Nat} (d : Bool) (h : i ≠ j) : (listed.setIfInBounds i true).getD j d = listed.getD j d := by
  simp [Array.getElem?_setIfInBounds_ne h]
theorem set_getD_same {listed : Array Bool} {i : Nat} (d : Bool) (h : i < listed.size) : (listed.setIfInBounds i true).getD i d = true := by
  simp [h]

def left (n : Nat) (listed : Array Bool) : Nat := ((List.range n).filter fun i => !listed.getD i false).length

theorem left_set {n i : Nat} {listed : Array Bool} (hn : listed.size = n) (hi : i < n) (h : listed.getD i false = false) : left n (listed.setIfInBounds i true) < left n listed := by
  unfold left
  have e : ((List.range n).filter fun k => !(listed.setIfInBounds i true).getD k false) = ((List.range n).filter fun k => !listed.getD k false).filter fun k => !decide (k = i) := by
    rw [List.filter_filter]
    refine List.filter_congr fun k hk => ?_
    by_cases hki : k = i
    · subst hki; rw [set_getD_same false (by omega)]; simp
    · rw [set_getD false (Ne.symm hki)]; simp [hki]
  rw [e, List.length_filter_lt_length_iff_exists]
  exact ⟨i, List.mem_filter.2 ⟨List.mem_range.2 hi, by simp [h]⟩, by simp⟩

variable {R : World → World → Prop} {w0 : World} {a0 : Act} {F : Nat → Value → World → Prop}

theorem frame_agrees {n : Nat} (st : Stat ops n) (hsz : a0.tmps.size = n) {vs : Nat → Value} {listed : Array Bool} {a : Act} {w : World} (inv : Inv ops R w0 a0 F vs listed a w)
    {j : Nat} {o : Oper} (ho : ops[j]? = some o) (hun : listed.getD j false = false) (hrd : ∀ e ∈ o.after, Region.binds .any e = true → listed.getD e.on false = true) {t : Nat} (ht : t ∈ o.looksAt ops) :
    slot a t = slot (putAll vs 0 (ops.toList.take j) a0) t := by
  have htake : ∀ (i : Nat) (x : Oper), (ops.toList.take j)[i]? = some x → i < j ∧ ops[i]? = some x := fun i x h => by
    rw [List.getElem?_take] at h
    split at h
    · exact ⟨by assumption, by simpa using h⟩
    · cases h
  by_cases hw : ∃ (k : Nat) (o' : Oper), ops[k]? = some o' ∧ o'.dst = some t ∧ k ≠ j
  · obtain ⟨k, o', hk, hd, hkj⟩ := hw
    have hself : o.dst ≠ some t := st.one j k o o' t ho hk (Ne.symm hkj) hd
    rcases st.bound j k o o' t ho hk (Ne.symm hkj) hd ht with ⟨e, he, hb, hon⟩ | ⟨e, he, hb, hon⟩
    · have hlk : listed.getD k false = true := by rw [← hon]; exact hrd e he hb
      have hlt : k < j := by rw [← hon]; exact st.back j o e ho he
      rw [inv.set k o' t hk hlk hd]
      have := putAll_at vs t (ops.toList.take j) 0 a0 k o' (by rw [List.getElem?_take, if_pos hlt]; simpa using hk) hd (by rw [hsz]; exact st.fits k o' t hk hd)
        (fun i' x hx hne => st.one i' k x o' t (htake i' x hx).2 hk hne hd)
      rw [this]; simp
    · have hlk : listed.getD k false = false := by
        cases hc : listed.getD k false with
        | false => rfl
        | true =>
          have := inv.closed k o' e hk hc he hb
          rw [hon, hun] at this
          cases this
      have hjk : j < k := by rw [← hon]; exact st.back k o' e hk he
      rw [inv.unset t (fun k' x hk' hd' => by
        by_cases hkk : k' = k
        · subst hkk; exact hlk
        · exact absurd hd' (st.one k' k x o' t hk' hk hkk hd))]
      rw [putAll_not vs t _ 0 a0 (fun x hx => by
        obtain ⟨i, hi⟩ := List.mem_iff_getElem?.1 hx
        obtain ⟨hij, hox⟩ := htake i x hi
        exact st.one i k x o' t hox hk (by omega) hd)]
  · have hno : ∀ (k : Nat) (o' : Oper), ops[k]? = some o' → k ≠ j → o'.dst ≠ some t := fun k o' hk hkj hd => hw ⟨k, o', hk, hd, hkj⟩
    rw [inv.unset t (fun k x hk hd => by
      by_cases hkj : k = j
      · subst hkj; exact hun
      · exact absurd hd (hno k x hk hkj))]
    rw [putAll_not vs t _ 0 a0 (fun x hx => by
      obtain ⟨i, hi⟩ := List.mem_iff_getElem?.1 hx
      obtain ⟨hij, hox⟩ := htake i x hi
      exact hno i x hox (by omega))]

theorem inv_step {n : Nat} (st : Stat ops n) (hsz : a0.tmps.size = n) (hmono : ∀ k v w w', k < ops.size → F k v w → R w w' → F k v w') (htrans : ∀ a b c, R a b → R b c → R a c)
    {vs : Nat → Value} {listed : Array Bool} {a : Act} {w w' : World} (inv : Inv ops R w0 a0 F vs listed a w)
    {j : Nat} {o : Oper} (ho : ops[j]? = some o) (hun : listed.getD j false = false) (hrd : ∀ e ∈ o.after, Region.binds .any e = true → listed.getD e.on false = true)
    {v : Value} (hv : F j v w') (hR : R w w') : Inv ops R w0 a0 F (fun k => if k = j then v else vs k) (listed.setIfInBounds j true) (a.put o.dst v) w' := by
  have hjlt : j < ops.size := (Array.getElem?_eq_some_iff.1 ho).1
  have hset : (listed.setIfInBounds j true).getD j false = true := set_getD_same false (by rw [inv.lsize]; exact hjlt)
  refine ⟨htrans _ _ _ inv.world hR, by rw [size_put, inv.size], by rw [defers_put, inv.defers], by simp [inv.lsize], fun k x e hk hl he hb => ?_, fun k x hk hl => ?_, fun k x d hk hl hd => ?_, fun t h => ?_⟩
  · by_cases hkj : k = j
    · subst hkj
      rw [ho] at hk; injection hk with hk; subst hk
      by_cases hej : k = e.on
      · rw [← hej]; exact hset
      · rw [set_getD false hej]; exact hrd e he hb
    · rw [set_getD false (Ne.symm hkj)] at hl
      have := inv.closed k x e hk hl he hb
      by_cases hej : j = e.on
      · rw [← hej]; exact hset
      · rw [set_getD false hej]; exact this
  · by_cases hkj : k = j
    · subst hkj; simpa using hv
    · rw [set_getD false (Ne.symm hkj)] at hl
      simp only [hkj, if_false]
      exact hmono k _ _ _ (Array.getElem?_eq_some_iff.1 hk).1 (inv.fact k x hk hl) hR
  · by_cases hkj : k = j
    · subst hkj
      rw [ho] at hk; injection hk with hk; subst hk
      rw [hd, slot_put_same (by rw [inv.size, hsz]; exact st.fits k o d ho hd)]; simp
    · rw [set_getD false (Ne.symm hkj)] at hl
      simp only [hkj, if_false]
      rw [slot_put_ne (st.one j k o x d ho hk (Ne.symm hkj) hd)]
      exact inv.set k x d hk hl hd
  · have hne : o.dst ≠ some t := fun hd => by rw [h j o ho hd] at hset; cases hset
    rw [slot_put_ne hne]
    refine inv.unset t fun k x hk hd => ?_
    have := h k x hk hd
    by_cases hkj : k = j
    · subst hkj; exact hun
    · rwa [set_getD false (Ne.symm hkj)] at this

theorem act_ext {a b : Act} (hs : a.tmps.size = b.tmps.size) (hd : a.defers = b.defers) (h : ∀ t, slot a t = slot b t) : a = b := by
  obtain ⟨ta, da⟩ := a
  obtain ⟨tb, db⟩ := b
  simp only [slot] at hs hd h
  have : ta = tb := Array.ext hs fun i h1 h2 => by
    have := h i
    simpa [h1, h2] using this
  rw [this, hd]

theorem inv_end {n : Nat} (st : Stat ops n) (hsz : a0.tmps.size = n) {vs : Nat → Value} {listed : Array Bool} {a : Act} {w : World} (inv : Inv ops R w0 a0 F vs listed a w)
    (hall : ∀ j, j < ops.size → listed.getD j false = true) : a = putAll vs 0 ops.toList a0 ∧ allFacts F vs w ops.size := by
  refine ⟨act_ext (by rw [putAll_size, inv.size]) (by rw [putAll_defers, inv.defers]) fun t => ?_, allFacts_of _ fun k hk => inv.fact k (ops[k]) (Array.getElem?_eq_getElem hk) (hall k hk)⟩
  by_cases hw : ∃ (k : Nat) (o' : Oper), ops[k]? = some o' ∧ o'.dst = some t
  · obtain ⟨k, o', hk, hd⟩ := hw
    have hkl : k < ops.size := (Array.getElem?_eq_some_iff.1 hk).1
    rw [inv.set k o' t hk (hall k hkl) hd, putAll_at vs t ops.toList 0 a0 k o' (by simpa using hk) hd (by rw [hsz]; exact st.fits k o' t hk hd) (fun i' x hx hne => st.one i' k x o' t (by simpa using hx) hk hne hd)]
    simp
  · rw [inv.unset t (fun k x hk hd => absurd ⟨k, x, hk, hd⟩ hw), putAll_not vs t _ 0 a0 (fun x hx hd => by
      obtain ⟨i, hi⟩ := List.mem_iff_getElem?.1 hx
      exact hw ⟨i, x, by simpa using hi, hd⟩)]

theorem exists_ready {listed : Array Bool} {n : Nat} (st : Stat ops n) (hls : listed.size = ops.size) (hnil : Region.ready .any ops listed = []) : ∀ j, j < ops.size → listed.getD j false = true := by
  intro j
  induction j using Nat.strongRecOn with
  | _ j ih =>
    intro hj
    cases hc : listed.getD j false with
    | true => rfl
    | false =>
      have ho : ops[j]? = some ops[j] := Array.getElem?_eq_getElem hj
      have hm : j ∈ Region.ready .any ops listed := mem_ready.2 ⟨by
        have : j < listed.size := by omega
        simpa [this] using hc, ops[j], ho, fun e he _ => ih e.on (st.back j _ e ho he) (by have := st.back j _ e ho he; omega)⟩
      rw [hnil] at hm
      cases hm

end
end Mono
end Go.Proofs.Ytpjjkmfidghkjaa
