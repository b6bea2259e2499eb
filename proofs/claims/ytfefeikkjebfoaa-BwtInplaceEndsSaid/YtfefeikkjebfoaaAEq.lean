/-
  EQUALITY of structs and arrays of numbers is equality of their cells. Conditions: none.
-/
import Derived.Test.YtfefeikkjebfoaaAPure2
import Derived.ChangeKeysEq
namespace Go.Proofs.Ytfefeikkjebfoaa
namespace AM
open Go Go.RowKit

section
variable {P : Program}

def IsVal (P : Program) (t : TypeId) (v : Value) (cs : List Value) : Prop := (aggTy P t = some true ∧ v = .agg cs.toArray) ∨ (aggTy P t = some false ∧ cs = [v])
theorem part_val {t : TypeId} {n off : Nat} {cs : List Value} (ha : aggTy P t = some true ∨ (aggTy P t = some false ∧ n = 1)) (hs : sizeTy P t = some n) (hl : off + n ≤ cs.length) (w : World) :
    ∃ v, (part t cs.toArray off).run P w = .ok v w ∧ IsVal P t v ((cs.drop off).take n) := by
  rcases ha with ha | ⟨ha, rfl⟩
  · exact ⟨.agg ((cs.drop off).take n).toArray, by simp [part, run_isAgg ha, run_size hs, List.take_drop], .inl ⟨ha, rfl⟩⟩
  · have h : off < cs.length := by omega
    refine ⟨cs[off], by simp [part, run_isAgg ha, h], .inr ⟨ha, ?_⟩⟩
    rw [List.drop_eq_getElem_cons h]; rfl
theorem sheqs_split : ∀ (s r : List Sh) {xs ys : List Value} {b : Bool}, sheqs (s ++ r) xs ys = some b →
    ∃ b1 b2, sheqs s (xs.take s.length) (ys.take s.length) = some b1 ∧ sheqs r (xs.drop s.length) (ys.drop s.length) = some b2 ∧ b = (b1 && b2)
  | [], r, xs, ys, b, h => ⟨true, b, by simp [sheqs], by simpa using h, by simp⟩
  | q :: s, r, [], ys, b, h => by simp [sheqs] at h
  | q :: s, r, x :: xs, [], b, h => by simp [sheqs] at h
  | q :: s, r, x :: xs, y :: ys, b, h => by
    simp only [List.cons_append, sheqs, Option.bind_eq_some_iff, Option.map_eq_some_iff] at h
    obtain ⟨c, hc, d, hd, rfl⟩ := h
    obtain ⟨b1, b2, h1, h2, rfl⟩ := sheqs_split s r hd
    exact ⟨c && b1, b2, by simp [sheqs, hc, h1], by simpa using h2, by simp [Bool.and_assoc]⟩
theorem shTy_agg {d : Nat} {t : TypeId} {s : List Sh} (h : shTy P d t = some s) : aggTy P t = some true ∨ (aggTy P t = some false ∧ s.length = 1) := by
  cases d with
  | zero => simp [shTy] at h
  | succ d =>
    unfold shTy at h
    unfold aggTy
    cases hu : P.underlying t with
    | none => rw [hu] at h; simp at h
    | some q => rw [hu] at h; cases q <;> simp at h <;> first | exact .inl rfl | (subst h; exact .inr ⟨rfl, rfl⟩)

/-- What is asked of the equality of a type. -/
def EqOn (P : Program) (D : Nat) (t : TypeId) (s : List Sh) : Prop := ∀ (xs ys : List Value) (v u : Value) (b : Bool), xs.length = s.length → ys.length = s.length → IsVal P t v xs → IsVal P t u ys → sheqs s xs ys = some b → ∀ w, (Op.equalIn D t v u).run P w = .ok b w

theorem run_eqFields {D : Nat} {f : TypeId → Option (List Sh)} (hf : ∀ t s, f t = some s → EqOn P D t s ∧ (aggTy P t = some true ∨ (aggTy P t = some false ∧ s.length = 1))) : ∀ (fs : List Field) (n : Nat) (s : List Sh) (xs ys : List Value) (b : Bool), shFs P f fs n = some s → xs.length = n + s.length → ys.length = n + s.length →
    sheqs s (xs.drop n) (ys.drop n) = some b → ∀ w, (Op.eqFields D xs.toArray ys.toArray fs).run P w = .ok b w
  | [], n, s, xs, ys, b, h, hx, hy, he, w => by
    simp only [shFs, Option.some.injEq] at h
    subst h
    rw [List.drop_eq_nil_of_le (by simp at hx; omega), List.drop_eq_nil_of_le (by simp at hy; omega)] at he
    simp only [sheqs, Option.some.injEq] at he
    subst he
    rfl
  | fd :: l, n, s, xs, ys, b, h, hx, hy, he, w => by
    simp only [shFs] at h
    split at h
    · rename_i hc
      simp only [Bool.and_eq_true, decide_eq_true_eq, bne_iff_ne, ne_eq] at hc
      simp only [Option.bind_eq_some_iff] at h
      obtain ⟨s1, h1, h⟩ := h
      split at h
      · rename_i hs
        simp only [Option.map_eq_some_iff] at h
        obtain ⟨s2, h2, rfl⟩ := h
        obtain ⟨b1, b2, e1, e2, rfl⟩ := sheqs_split s1 s2 he
        obtain ⟨g1, g2⟩ := hf _ _ h1
        simp only [List.length_append] at hx hy
        obtain ⟨p, hp, pv⟩ := part_val (P := P) (off := n) (cs := xs) g2 hs (by omega) w
        obtain ⟨q, hq, qv⟩ := part_val (P := P) (off := n) (cs := ys) g2 hs (by omega) w
        have heq := g1 _ _ p q b1 (by simp; omega) (by simp; omega) pv qv e1 w
        have hrec := run_eqFields hf l (n + s1.length) s2 xs ys b2 h2 (by omega) (by omega) (by simpa [List.drop_drop, Nat.add_comm] using e2) w
        rw [← hc.1] at hp hq
        simp only [Op.eqFields, ne_eq, hc.2, not_false_eq_true, if_true, Sem.run_bind, hp, hq, Result.andThen_ok, heq]
        cases b1 <;> simp [hrec]
      · cases h
    · cases h
theorem run_eqItems {D : Nat} {e : TypeId} {s : List Sh} (hf : EqOn P D e s ∧ (aggTy P e = some true ∨ (aggTy P e = some false ∧ s.length = 1))) (hs : sizeTy P e = some s.length) : ∀ (n j : Nat) (xs ys : List Value) (b : Bool), xs.length = (j + n) * s.length → ys.length = (j + n) * s.length →
    sheqs (List.replicate n s).flatten (xs.drop (j * s.length)) (ys.drop (j * s.length)) = some b → ∀ w, (Op.eqItems D e s.length xs.toArray ys.toArray (List.range' j n)).run P w = .ok b w
  | 0, j, xs, ys, b, hx, hy, he, w => by
    rw [List.drop_eq_nil_of_le (by simp at hx; omega), List.drop_eq_nil_of_le (by simp at hy; omega)] at he
    simp only [List.replicate_zero, List.flatten_nil, sheqs, Option.some.injEq] at he
    subst he
    rfl
  | n + 1, j, xs, ys, b, hx, hy, he, w => by
    rw [List.replicate_succ, List.flatten_cons] at he
    obtain ⟨b1, b2, e1, e2, rfl⟩ := sheqs_split s _ he
    have hm : (j + (n + 1)) * s.length = j * s.length + s.length + n * s.length := by rw [Nat.add_mul, Nat.add_mul, Nat.one_mul]; omega
    have hm2 : (j + 1 + n) * s.length = j * s.length + s.length + n * s.length := by rw [Nat.add_mul, Nat.add_mul, Nat.one_mul]
    obtain ⟨p, hp, pv⟩ := part_val (P := P) (off := j * s.length) (cs := xs) hf.2 hs (by omega) w
    obtain ⟨q, hq, qv⟩ := part_val (P := P) (off := j * s.length) (cs := ys) hf.2 hs (by omega) w
    have heq := hf.1 _ _ p q b1 (by simp; omega) (by simp; omega) pv qv e1 w
    have hrec := run_eqItems hf hs n (j + 1) xs ys b2 (by omega) (by omega) (by
      have : (j + 1) * s.length = j * s.length + s.length := by rw [Nat.add_mul, Nat.one_mul]
      rw [this]
      simpa [List.drop_drop, Nat.add_comm] using e2) w
    simp only [List.range'_succ, Op.eqItems, Sem.run_bind, hp, hq, Result.andThen_ok, heq]
    cases b1 <;> simp [hrec]
theorem cellsOf_size {e : TypeId} {n : Nat} (h : sizeTy P e = some n) : P.cellsOf e = n ∧ ∃ i, P.info? e = some i := by
  unfold sizeTy at h
  cases hi : P.info? e with
  | none => rw [hi] at h; cases h
  | some i => rw [hi] at h; simp at h; exact ⟨by simp [Program.cellsOf, hi, h], i, rfl⟩

theorem run_equal_sh : ∀ (d : Nat) {t : TypeId} {s : List Sh}, shTy P d t = some s → ∀ (D : Nat), d ≤ D → EqOn P D t s
  | 0, t, s, h, _, _ => by simp [shTy] at h
  | d + 1, t, s, h, 0, hD => by omega
  | d + 1, t, s, h, D + 1, hD => by
    intro xs ys v u b hx hy hv hu he w
    have hagg := shTy_agg h
    unfold shTy at h
    cases ht : P.underlying t with
    | none => rw [ht] at h; simp at h
    | some q =>
      rw [ht] at h
      have one : (∃ x, s = [x]) → aggTy P t = some false → ∃ x, s = [x] ∧ sheq x v u = some b := by
        rintro ⟨x, rfl⟩ hf
        rcases hv with ⟨h1, _⟩ | ⟨_, rfl⟩
        · rw [hf] at h1; cases h1
        rcases hu with ⟨h1, _⟩ | ⟨_, rfl⟩
        · rw [hf] at h1; cases h1
        simp only [sheqs, Option.bind_eq_some_iff, Option.map_some, Option.some.injEq, Bool.and_true] at he
        obtain ⟨c, hc, rfl⟩ := he
        exact ⟨x, rfl, hc⟩
      have two : aggTy P t = some true → v = .agg xs.toArray ∧ u = .agg ys.toArray := by
        intro hf
        rcases hv with ⟨_, rfl⟩ | ⟨h1, _⟩
        · rcases hu with ⟨_, rfl⟩ | ⟨h1, _⟩
          · exact ⟨rfl, rfl⟩
          · rw [hf] at h1; cases h1
        · rw [hf] at h1; cases h1
      cases q <;> simp only [reduceCtorEq, Option.some.injEq] at h
      · obtain ⟨x, e1, e2⟩ := one ⟨_, h.symm⟩ (by unfold aggTy; rw [ht])
        rw [← h] at e1; cases e1
        unfold sheq at e2
        split at e2 <;> first | (cases e2; done) | (rename_i hh; cases hh; done) | (simp at *; done) | skip
        all_goals (first | (cases e2; exact run_equalIn_bool' w D t _ _ ht) | (exfalso; simp_all; done))
      · obtain ⟨x, e1, e2⟩ := one ⟨_, h.symm⟩ (by unfold aggTy; rw [ht])
        rw [← h] at e1; cases e1
        unfold sheq at e2
        split at e2
        · split at e2
          · rename_i hk; subst hk; cases e2; exact run_equalIn_int w D t _ _ _ _ ht
          · cases e2
        all_goals (exfalso; simp_all; done)
      · obtain ⟨x, e1, e2⟩ := one ⟨_, h.symm⟩ (by unfold aggTy; rw [ht])
        rw [← h] at e1; cases e1
        unfold sheq at e2
        split at e2 <;> first | (exfalso; simp_all; done) | (cases e2; rw [run_equalIn_string w D t _ _ ht, ByteArray.toList_eq, ByteArray.toList_eq]) 
      · rename_i n e
        simp only [Option.bind_eq_some_iff] at h
        obtain ⟨s1, h1, h⟩ := h
        split at h
        · rename_i hs
          cases h
          obtain ⟨rfl, rfl⟩ := two (by unfold aggTy; rw [ht])
          obtain ⟨hce, i, hi⟩ := cellsOf_size hs
          rw [run_equalIn_array w D _ _ ht hi, hce, List.range_eq_range']
          have hlen : (List.replicate n s1).flatten.length = n * s1.length := by simp
          exact run_eqItems ⟨run_equal_sh d h1 D (by omega), shTy_agg h1⟩ hs n 0 xs ys b (by rw [hx, hlen]; simp) (by rw [hy, hlen]; simp) (by simpa using he) w
        · cases h
      · rename_i fs
        split at h
        · cases h
        · rename_i hst
          obtain ⟨rfl, rfl⟩ := two (by unfold aggTy; rw [ht])
          have hfo : P.fieldsOf t = fs := by unfold Program.fieldsOf; rw [ht]
          rw [run_equalIn_struct w D t _ _ (by rw [ht, hfo]) (by simpa using hst), hfo]
          exact run_eqFields (fun t' s' h' => ⟨run_equal_sh d h' D (by omega), shTy_agg h'⟩) fs.toList 0 s xs ys b h (by omega) (by omega) (by simpa using he) w
theorem sheq_sc {s : Sh} {v w : Value} {b : Bool} (h : sheq s v w = some b) : sc v = true ∧ sc w = true := by
  unfold sheq at h
  split at h <;> first | exact ⟨rfl, rfl⟩ | cases h
theorem sheqs_sc : ∀ {s : List Sh} {xs ys : List Value} {b : Bool}, sheqs s xs ys = some b → xs.length = s.length ∧ ys.length = s.length ∧ (∀ v ∈ xs, sc v = true) ∧ ∀ v ∈ ys, sc v = true
  | [], [], [], b, _ => by simp
  | [], [], y :: ys, b, h => by simp [sheqs] at h
  | [], x :: xs, ys, b, h => by simp [sheqs] at h
  | s :: r, [], ys, b, h => by simp [sheqs] at h
  | s :: r, x :: xs, [], b, h => by simp [sheqs] at h
  | s :: r, x :: xs, y :: ys, b, h => by
    simp only [sheqs, Option.bind_eq_some_iff, Option.map_eq_some_iff] at h
    obtain ⟨c, hc, d, hd, rfl⟩ := h
    obtain ⟨h1, h2, h3, h4⟩ := sheqs_sc hd
    obtain ⟨g1, g2⟩ := sheq_sc hc
    refine ⟨by simp [h1], by simp [h2], fun v hv => ?_, fun v hv => ?_⟩
    · rcases List.mem_cons.1 hv with rfl | hv
      · exact g1
      · exact h3 v hv
    · rcases List.mem_cons.1 hv with rfl | hv
      · exact g2
      · exact h4 v hv
theorem rel2_sc {X : Emb} : ∀ {xs rs : List Value}, rel2 (relC X) xs rs → (∀ v ∈ xs, sc v = true) → rs = xs
  | [], rs, h, _ => h.nil'
  | x :: xs, rs, h, hs => by
    obtain ⟨u, m, rfl, hu, ht⟩ := h.head
    rw [(relC_sc (hs x (by simp))).1 hu, rel2_sc ht fun v hv => hs v (by simp [hv])]
theorem eqOk_bool {t : TypeId} (h : eqOk P t = some .bool) : P.underlying t = some .bool := by
  unfold eqOk at h
  split at h <;> first | (cases h; done) | (split at h <;> first | (cases h; done) | (simp at h; done)) | (rename_i e; exact e) | skip
theorem eqOk_ptr {t : TypeId} (h : eqOk P t = some .ptr) : ∃ e, P.underlying t = some (.pointer e) := by
  unfold eqOk at h
  split at h <;> first | (cases h; done) | (split at h <;> first | (cases h; done) | (simp at h; done)) | (rename_i e; exact ⟨_, e⟩) | skip
theorem eqOk_slice {t : TypeId} (h : eqOk P t = some .slice) : ∃ e, P.underlying t = some (.slice e) := by
  unfold eqOk at h
  split at h <;> first | (cases h; done) | (split at h <;> first | (cases h; done) | (simp at h; done)) | (rename_i e; exact ⟨_, e⟩) | skip
theorem eqOk_map {t : TypeId} (h : eqOk P t = some .map) : ∃ k e, P.underlying t = some (.map k e) := by
  unfold eqOk at h
  split at h <;> first | (cases h; done) | (split at h <;> first | (cases h; done) | (simp at h; done)) | (rename_i e; exact ⟨_, _, e⟩) | skip
theorem eqOk_func {t : TypeId} (h : eqOk P t = some .func) : ∃ a b c, P.underlying t = some (.func a b c) := by
  unfold eqOk at h
  split at h <;> first | (cases h; done) | (split at h <;> first | (cases h; done) | (simp at h; done)) | (rename_i e; exact ⟨_, _, _, e⟩) | skip
theorem eqIn_ptr {t e : TypeId} (h : P.underlying t = some (.pointer e)) (d : Nat) (q : Option Addr) (w : World) : (Op.equalIn (d + 1) t (.pointer none) (.pointer q)).run P w = .ok q.isNone w := by simp [Op.equalIn, run_under h]
theorem eqIn_ptr' {t e : TypeId} (h : P.underlying t = some (.pointer e)) (d : Nat) (q : Addr) (w : World) : (Op.equalIn (d + 1) t (.pointer (some q)) (.pointer none)).run P w = .ok false w := by simp [Op.equalIn, run_under h]
theorem eqIn_slice {t e : TypeId} (h : P.underlying t = some (.slice e)) (d : Nat) (q : Option Addr) (n c n' c' : Nat) (w : World) : (Op.equalIn (d + 1) t (.slice none n c) (.slice q n' c')).run P w = .ok q.isNone w := by simp [Op.equalIn, run_under h]
theorem eqIn_slice' {t e : TypeId} (h : P.underlying t = some (.slice e)) (d : Nat) (q : Addr) (n c n' c' : Nat) (w : World) : (Op.equalIn (d + 1) t (.slice (some q) n c) (.slice none n' c')).run P w = .ok false w := by simp [Op.equalIn, run_under h]
theorem eqIn_func {t : TypeId} {x y : Array TypeId} {z : Bool} (h : P.underlying t = some (.func x y z)) (d : Nat) (w : World) : (Op.equalIn (d + 1) t .nilFunc .nilFunc).run P w = .ok true w := by simp [Op.equalIn, run_under h]
theorem eqIn_func' {t : TypeId} {x y : Array TypeId} {z : Bool} (h : P.underlying t = some (.func x y z)) (d : Nat) (f : Fn) (p q : Array Value) (w : World) : (Op.equalIn (d + 1) t .nilFunc (.func f p q)).run P w = .ok false w := by simp [Op.equalIn, run_under h]
theorem eqIn_func'' {t : TypeId} {x y : Array TypeId} {z : Bool} (h : P.underlying t = some (.func x y z)) (d : Nat) (f : Fn) (p q : Array Value) (w : World) : (Op.equalIn (d + 1) t (.func f p q) .nilFunc).run P w = .ok false w := by simp [Op.equalIn, run_under h]
theorem eqs_gives {X : Emb} {fr : Fr} {a : Act} {o : Oper} {v : Value} {op : BinOp} {t yt : TypeId} {x y : Operand} {neg : Bool} {sh : EqK} (ho : o.op = .binOp op t x y yt) (hop : (op = .eql ∧ neg = false) ∨ (op = .neq ∧ neg = true)) (hsh : eqOk P t = some sh)
    (hx : ∀ v, ev fr x = some v → relV X v (a.eval x)) (hy : ∀ v, ev fr y = some v → relV X v (a.eval y)) (h : pval (.eqs neg sh x y) fr = some v) (w : World) : Gives P o a w X v := by
  simp only [pval, Option.bind_eq_some_iff, Option.map_eq_some_iff] at h
  obtain ⟨p, hp, q, hq, b, hb, rfl⟩ := h
  have h1 := hx p hp
  have h2 := hy q hq
  refine ⟨.bool (if neg then !b else b), ?_, relV_bool_mk _⟩
  have fin : (eqGuard op t x y (a.eval x) (a.eval y)).run P w = .ok () w → (Op.equal t (a.eval x) (a.eval y)).run P w = .ok b w →
      (∀ op', op' = .eql → binOp op' t (a.eval x) (a.eval y) = do pure (.bool (← Op.equal t (a.eval x) (a.eval y)))) → (∀ op', op' = .neq → binOp op' t (a.eval x) (a.eval y) = do pure (.bool (!(← Op.equal t (a.eval x) (a.eval y))))) →
      (execOp a.eval o).run P w = .ok (.value (.bool (if neg then !b else b))) w := by
    intro g1 g2 g3 g4
    rcases hop with ⟨rfl, rfl⟩ | ⟨rfl, rfl⟩
    · simp only [execOp, ho, Sem.run_bind, g1, Result.andThen_ok, g3 _ rfl, g2, Sem.run_pure, Bool.false_eq_true, if_false]
    · simp only [execOp, ho, Sem.run_bind, g1, Result.andThen_ok, g4 _ rfl, g2, Sem.run_pure, if_true]
  have guard : ∀ (v u : Value), (∀ cs, v ≠ .agg cs) → v ≠ .nilIface → (eqGuard op t x y v u).run P w = .ok () w := by
    intro v u n1 n2
    unfold eqGuard
    cases op <;> cases v <;> first | exact absurd rfl (n1 _) | exact absurd rfl n2 | rfl
  unfold aeq at hb
  split at hb
  · rename_i s xs ys
    obtain ⟨rs, e1, r1⟩ := relV_agg h1
    obtain ⟨us, e2, r2⟩ := relV_agg h2
    obtain ⟨l1, l2, s1, s2⟩ := sheqs_sc hb
    have q1 : rs = xs := by apply Array.toList_inj.1; exact rel2_sc r1 s1
    have q2 : us = ys := by apply Array.toList_inj.1; exact rel2_sc r2 s2
    subst q1; subst q2
    unfold eqOk at hsh
    have hh : shTy P 8 t = some s ∧ P.eqGuardType P.depth t = false ∧ aggTy P t = some true := by
      cases ht : P.underlying t with
      | none => rw [ht] at hsh; cases hsh
      | some d =>
        rw [ht] at hsh
        have ha : (∃ fs, d = .struct fs) ∨ (∃ n e, d = .array n e) → aggTy P t = some true := by
          unfold aggTy; rw [ht]; rintro (⟨_, rfl⟩ | ⟨_, _, rfl⟩) <;> rfl
        cases d <;> simp at hsh
        · exact ⟨hsh.2, hsh.1, ha (.inr ⟨_, _, rfl⟩)⟩
        · exact ⟨hsh.2, hsh.1, ha (.inl ⟨_, rfl⟩)⟩
    refine fin ?_ ?_ ?_ ?_
    · rw [e1, e2]; exact run_eqGuard_agg w op t x y rs us hh.2.1
    · rw [e1, e2]
      exact run_equal_sh 8 hh.1 10000 (by omega) rs.toList us.toList (.agg rs) (.agg us) b l1 l2 (.inl ⟨hh.2.2, by simp⟩) (.inl ⟨hh.2.2, by simp⟩) hb w
    · rw [e1, e2]; rintro _ rfl; rfl
    · rw [e1, e2]; rintro _ rfl; rfl
  · rename_i c d
    cases hb
    have e1 := relV_bool h1
    have e2 := relV_bool h2
    have ht := eqOk_bool hsh
    refine fin ?_ ?_ ?_ ?_
    · rw [e1]; exact guard _ _ (by simp) (by simp)
    · rw [e1, e2]; exact run_equal_bool w t _ _ ht
    · rw [e1, e2]; rintro _ rfl; rfl
    · rw [e1, e2]; rintro _ rfl; rfl
  · rename_i q
    cases hb
    obtain ⟨e, ht⟩ := eqOk_ptr hsh
    have e1 : a.eval x = .pointer none := (relV_sc rfl).1 h1
    obtain ⟨q', e2, hq'⟩ : ∃ q', a.eval y = .pointer q' ∧ q'.isNone = q.isNone := by
      cases q with
      | none => exact ⟨none, (relV_sc rfl).1 h2, rfl⟩
      | some c => obtain ⟨ra, e, _⟩ := relV_ptr h2; exact ⟨some ra, e, rfl⟩
    refine fin ?_ ?_ ?_ ?_
    · rw [e1]; exact guard _ _ (by simp) (by simp)
    · rw [e1, e2, ← hq']; exact eqIn_ptr ht 9999 _ w
    · rw [e1, e2]; rintro _ rfl; rfl
    · rw [e1, e2]; rintro _ rfl; rfl
  · cases hb
    obtain ⟨e, ht⟩ := eqOk_ptr hsh
    obtain ⟨ra, e1, _⟩ := relV_ptr h1
    have e2 : a.eval y = .pointer none := (relV_sc rfl).1 h2
    refine fin ?_ ?_ ?_ ?_
    · rw [e1]; exact guard _ _ (by simp) (by simp)
    · rw [e1, e2]; exact eqIn_ptr' ht 9999 _ w
    · rw [e1, e2]; rintro _ rfl; rfl
    · rw [e1, e2]; rintro _ rfl; rfl
  · rename_i n c q n' c'
    cases hb
    obtain ⟨e, ht⟩ := eqOk_slice hsh
    obtain ⟨n1, c1, e1⟩ : ∃ n c, a.eval x = .slice none n c := by
      have h1' : relC X (.slice none n c) (a.eval x) := h1
      exact ⟨n, c, h1'.2⟩
    obtain ⟨q', n2, c2, e2, hq'⟩ : ∃ q' n c, a.eval y = .slice q' n c ∧ q'.isNone = q.isNone := by
      cases q with
      | none => have h2' : relC X (.slice none n' c') (a.eval y) := h2; exact ⟨none, n', c', h2'.2, rfl⟩
      | some b => obtain ⟨ra, c, e, _⟩ := relV_slice h2; exact ⟨some ra, _, _, e, rfl⟩
    refine fin ?_ ?_ ?_ ?_
    · rw [e1]; exact guard _ _ (by simp) (by simp)
    · rw [e1, e2, ← hq']; exact eqIn_slice ht 9999 _ _ _ _ _ w
    · rw [e1, e2]; rintro _ rfl; rfl
    · rw [e1, e2]; rintro _ rfl; rfl
  · rename_i b n c n' c'
    cases hb
    obtain ⟨e, ht⟩ := eqOk_slice hsh
    obtain ⟨ra, c1, e1, _⟩ := relV_slice h1
    have h2' : relC X (.slice none n' c') (a.eval y) := h2
    have e2 := h2'.2
    refine fin ?_ ?_ ?_ ?_
    · rw [e1]; exact guard _ _ (by simp) (by simp)
    · rw [e1, e2]; exact eqIn_slice' ht 9999 _ _ _ _ _ w
    · rw [e1, e2]; rintro _ rfl; rfl
    · rw [e1, e2]; rintro _ rfl; rfl
  · cases hb
    obtain ⟨_, _, _, ht⟩ := eqOk_func hsh
    have e1 : a.eval x = .nilFunc := (relV_sc rfl).1 h1
    have e2 : a.eval y = .nilFunc := (relV_sc rfl).1 h2
    refine fin ?_ ?_ ?_ ?_
    · rw [e1]; exact guard _ _ (by simp) (by simp)
    · rw [e1, e2]; exact eqIn_func ht 9999 w
    · rw [e1, e2]; rintro _ rfl; rfl
    · rw [e1, e2]; rintro _ rfl; rfl
  · cases hb
    obtain ⟨_, _, _, ht⟩ := eqOk_func hsh
    have e1 : a.eval x = .nilFunc := (relV_sc rfl).1 h1
    obtain ⟨rf, rc, e2, _⟩ := relV_func h2
    refine fin ?_ ?_ ?_ ?_
    · rw [e1]; exact guard _ _ (by simp) (by simp)
    · rw [e1, e2]; exact eqIn_func' ht 9999 _ _ _ w
    · rw [e1, e2]; rintro _ rfl; rfl
    · rw [e1, e2]; rintro _ rfl; rfl
  · cases hb
    obtain ⟨_, _, _, ht⟩ := eqOk_func hsh
    obtain ⟨rf, rc, e1, _⟩ := relV_func h1
    have e2 : a.eval y = .nilFunc := (relV_sc rfl).1 h2
    refine fin ?_ ?_ ?_ ?_
    · rw [e1]; exact guard _ _ (by simp) (by simp)
    · rw [e1, e2]; exact eqIn_func'' ht 9999 _ _ _ w
    · rw [e1, e2]; rintro _ rfl; rfl
    · rw [e1, e2]; rintro _ rfl; rfl
  · cases hb
end
end AM
end Go.Proofs.Ytfefeikkjebfoaa
