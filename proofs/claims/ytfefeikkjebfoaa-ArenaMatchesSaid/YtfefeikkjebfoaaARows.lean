/-
  FROM A LAW's ARGUMENTS TO THE ABSTRACT MACHINE's FIRST STATE: slices of rows of cells. Conditions: none.
-/
import Derived.Test.YtfefeikkjebfoaaAArgs
set_option linter.all false
namespace Go.Proofs.Ytfefeikkjebfoaa
namespace AM
open Go Go.RowKit Go.ChangeShapes Go.WideShapes Go.ChangeAt Go.Deep

theorem flat_get {s : Nat} : ∀ {ls : List (List Value)}, (∀ l ∈ ls, l.length = s) → ∀ i k, k < s → ls.flatten[i * s + k]? = (ls[i]?).bind fun l => l[k]?
  | [], _, i, k, hk => by simp
  | l :: ls, h, 0, k, hk => by
    have h1 := h l (by simp)
    simp only [List.flatten_cons, Nat.zero_mul, Nat.zero_add, List.getElem?_cons_zero, Option.bind_some]
    rw [List.getElem?_append_left (by omega)]
  | l :: ls, h, i + 1, k, hk => by
    have h1 := h l (by simp)
    have h2 := flat_get (s := s) (ls := ls) (fun m hm => h m (by simp [hm])) i k hk
    have e : (i + 1) * s = i * s + s := by rw [Nat.add_mul, Nat.one_mul]
    simp only [List.flatten_cons, List.getElem?_cons_succ]
    rw [List.getElem?_append_right (by omega), h1, show (i + 1) * s + k - s = i * s + k by omega, h2]
theorem flat_len {s : Nat} : ∀ {ls : List (List Value)}, (∀ l ∈ ls, l.length = s) → ls.flatten.length = ls.length * s
  | [], _ => by simp
  | l :: ls, h => by
    have h1 := h l (by simp)
    have h2 := flat_len (s := s) (ls := ls) (fun m hm => h m (by simp [hm]))
    rw [List.flatten_cons, List.length_append, h1, h2, List.length_cons, Nat.add_mul, Nat.one_mul, Nat.add_comm]

section
variable {P : Program} {W : World}
theorem Argd.cells {bs : List Blk} {X : Emb} {args vs : List Value} (A : Argd W bs X args vs) {ad : Option Addr} {cs : List Value} {n cap : Nat} (ha : At W ad cs) (hsc : ∀ v ∈ cs, AM.sc v = true) (hc : n ≤ cap) (hd : cap ≤ maxLen)
    (h0 : ad = none → n = 0 ∧ cap = 0) (hs : ∀ a, ad = some a → a.spot = none ∧ a.block < W.heap.size) :
    ∃ X' bs' v', Argd W (bs ++ bs') X' (args ++ [v']) (vs ++ [.slice ad n cap]) ∧ ((v' = .slice none 0 0 ∧ n = 0 ∧ bs' = []) ∨ (v' = .slice (some ⟨bs.length, 0, some 0⟩) n 0 ∧ bs' = [.cells 0 true cs])) := by
  cases ad with
  | none =>
    obtain ⟨rfl, rfl⟩ := h0 rfl
    refine ⟨X, [], .slice none 0 0, ?_, .inl ⟨rfl, rfl, rfl⟩⟩
    have := A.sc (v := .slice none 0 0) rfl
    simpa using this
  | some a =>
    obtain ⟨hsp, hbk⟩ := hs a rfl
    obtain ⟨ab, ao, asp⟩ := a
    simp only at hsp hbk
    subst hsp
    have S := A.sim
    let X' : Emb := ⟨fun id => if id = bs.length then some ⟨ab, ao, false, 0, cs.length, cs.length⟩ else X id, X.y⟩
    have ev : Evo X X' := Evo.mk' rfl fun id bx hx => by
      have hlt := S.dom id bx hx
      simp only at hlt
      exact ⟨bx, by simp only [X']; rw [if_neg (by omega)]; exact hx, .inl rfl⟩
    have hnew : X' bs.length = some ⟨ab, ao, false, 0, cs.length, cs.length⟩ := by simp [X']
    have hold : ∀ id bx, X' id = some bx → (id = bs.length ∧ bx = ⟨ab, ao, false, 0, cs.length, cs.length⟩) ∨ (id ≠ bs.length ∧ X id = some bx) := fun id bx h => by
      simp only [X'] at h
      split at h
      · rename_i e; exact .inl ⟨e, (by cases h; rfl)⟩
      · rename_i e; exact .inr ⟨e, h⟩
    refine ⟨X', [.cells 0 true cs], .slice (some ⟨bs.length, 0, some 0⟩) n 0, ⟨⟨S.bel, fun id bx h => ?_, fun id bx h => ?_, fun id bx g pl cs2 h hh hcs => ?_, fun i j bi bj hi hj oi oj e => ?_, fun id bx h hl => ?_, fun id bx h h0 => by
      rcases hold id bx h with ⟨rfl, rfl⟩ | ⟨_, h⟩
      · exact h0
      · exact S.zero id bx h h0⟩, rel2.snoc (A.rel.mono fun v _ u h => h.evo ev) ?_⟩, .inr ⟨rfl, rfl⟩⟩
    · rcases hold id bx h with ⟨rfl, _⟩ | ⟨_, h⟩
      · simp
      · have := S.dom id bx h
        simp only [List.length_append, List.length_cons, List.length_nil] at this ⊢; omega
    · rcases hold id bx h with ⟨rfl, rfl⟩ | ⟨_, h⟩
      · exact ⟨hbk, hbk⟩
      · exact S.place id bx h
    · rcases hold id bx h with ⟨rfl, rfl⟩ | ⟨hne, h⟩
      · simp only [List.getElem?_concat_length, Option.some.injEq, Blk.cells.injEq] at hcs
        obtain ⟨rfl, rfl, rfl⟩ := hcs
        refine ⟨rfl, rfl, Nat.zero_le _, fun _ => List.all_eq_true.2 hsc, fun j v hv => ?_, fun ho => (by cases ho)⟩
        obtain ⟨ad', e1, e2⟩ := ha j v hv
        cases e1
        rw [add_lit] at e2
        exact ⟨v, e2, (relC_sc (hsc v (List.mem_of_getElem? hv))).2 rfl⟩
      · have hlt := S.dom id bx h
        simp only at hlt
        have hcs' : bs[id]? = some (.cells g pl cs2) := by
          simp only at hcs
          rw [List.getElem?_append_left hlt] at hcs; exact hcs
        obtain ⟨a1, a2, a3, a4, a5, a6⟩ := S.cell id bx g pl cs2 h (by simp) hcs'
        exact ⟨a1, a2, a3, a4, fun j v hj => by obtain ⟨u, hu, hr⟩ := a5 j v hj; exact ⟨u, hu, hr.evo ev⟩, a6⟩
    · rcases hold i bi hi with ⟨rfl, rfl⟩ | ⟨_, hi⟩
      · cases oi
      · rcases hold j bj hj with ⟨rfl, rfl⟩ | ⟨_, hj⟩
        · cases oj
        · exact S.inj i j bi bj hi hj oi oj e
    · simp only [List.length_append, List.length_cons, List.length_nil] at hl
      rcases hold id bx h with ⟨rfl, rfl⟩ | ⟨_, h⟩
      · omega
      · have := S.dom id bx h
        simp only at this; omega
    · exact ⟨⟨ab, ao, none⟩, cap, rfl, hc, hd, _, hnew, 0, rfl, Nat.le_refl _, fun _ => ⟨fun _ => by simp, fun h => by omega⟩⟩

variable {H : Type} {enc : TypeId × Value → H}
/-- A slice whose elements are rows of s cells, each of which stands for something. -/
theorem open_rows {β : Type} {t e : TypeId} {s : Nat} {r : Reach} {b0 : Nat} {v : Value} {d : DataW H} {ps : List MemPlace} {base : Nat} {spare : Nat → Bool} {held : Bool} (ht : P.underlying t = some (.slice e)) (hs : P.cellsOf e = s) (f : β → List Value) (G : β → Prop)
    (hQ : ∀ n cs x, DataW.trod enc P W base spare held n e cs = some x → ∃ q : β, cs = f q ∧ (f q).length = s ∧ G q)
    (hval : Value.okWide P W r b0 t v) (hd : DataW.Trod enc P W base spare held t v d ps) :
    ∃ (A : Option Addr) (ls : List β) (cap : Nat), v = .slice A ls.length cap ∧ At W A (ls.map f).flatten ∧ (∀ q ∈ ls, (f q).length = s ∧ G q) ∧ ls.length ≤ cap ∧ cap ≤ maxLen ∧ (A = none → ls.length = 0 ∧ cap = 0) ∧ (∀ a, A = some a → a.spot = none ∧ a.block < W.heap.size) := by
  obtain ⟨a0, len, cap, rfl⟩ := okWide_slice ht hval
  obtain ⟨fuel, hf⟩ := hd
  rcases open_slice ht hf with ⟨h1, _⟩ | ⟨a, len', cap', m, n, D, Pl, h1, _, hl, hm, hmm, _, hi⟩
  · simp only [Value.cells, List.cons.injEq, and_true] at h1
    exact ⟨none, [], 0, h1, fun i p hp => by simp at hp, by simp, by simp, by simp [maxLen], by simp, fun a ha => by cases ha⟩
  · simp only [Value.cells, List.cons.injEq, and_true] at h1
    have hle : len' ≤ m := by rw [hmm]; split <;> omega
    have each : ∀ i, i < len' → ∃ q : β, ((f q).length = s ∧ G q) ∧ ∀ j u, (f q)[j]? = some u → W.cell? ((a.add (i * s)).add j) = some u := by
      intro i hil
      obtain ⟨cs', hc, ht'⟩ := hi i (by omega)
      obtain ⟨q, rfl, hq1, hq2⟩ := hQ _ _ _ ht'
      rw [hs] at hc
      obtain ⟨_, hlen, hat⟩ := World.cells?_some hc
      exact ⟨q, ⟨hq1, hq2⟩, fun j u hj => by
        have hjl := (List.getElem?_eq_some_iff.1 hj).1
        have := hat j (by omega)
        rw [this]; exact hj⟩
    have build : ∀ k, k ≤ len' → ∃ ls : List β, ls.length = k ∧ (∀ q ∈ ls, (f q).length = s ∧ G q) ∧ ∀ i q, ls[i]? = some q → ∀ j u, (f q)[j]? = some u → W.cell? ((a.add (i * s)).add j) = some u := by
      intro k
      induction k with
      | zero => exact fun _ => ⟨[], rfl, fun q hq => by simp at hq, fun i p hp => by simp at hp⟩
      | succ k ih =>
        intro hk
        obtain ⟨pc, hpl, hg, hpc⟩ := ih (by omega)
        obtain ⟨p, hp0, hp1⟩ := each k (by omega)
        refine ⟨pc ++ [p], by simp [hpl], fun q hq => ?_, fun i p' hp => ?_⟩
        · rcases List.mem_append.1 hq with hq | hq
          · exact hg q hq
          · simp at hq; subst hq; exact hp0
        · rcases Nat.lt_or_ge i pc.length with hlt | hge
          · rw [List.getElem?_append_left hlt] at hp
            exact hpc i p' hp
          · rw [List.getElem?_append_right hge] at hp
            have hi0 : i - pc.length = 0 := by
              rcases Nat.eq_zero_or_pos (i - pc.length) with h0 | h0
              · exact h0
              · rw [List.getElem?_eq_none (by simp only [List.length_cons, List.length_nil]; omega)] at hp; cases hp
            rw [hi0] at hp
            simp at hp
            subst hp
            obtain rfl : i = k := by omega
            exact hp1
    obtain ⟨ls, hpl, hg, hpc⟩ := build len' (Nat.le_refl _)
    have hspb : a.spot = none ∧ a.block < W.heap.size := by
      rw [h1] at hval
      simp only [Value.okWide, ht, Cell.okWide, Cell.ok] at hval
      obtain ⟨_, _, h5⟩ := hval
      obtain ⟨_, h6, row, cells, h7, _⟩ := h5
      exact ⟨h6, shape_lt h7⟩
    refine ⟨some a, ls, cap', by rw [hpl]; exact h1, fun j u hj => ⟨a, rfl, ?_⟩, hg, by omega, hm, fun e => (by cases e), fun b hb => ?_⟩
    · have hlens : ∀ l ∈ ls.map f, l.length = s := fun l hl => by
        obtain ⟨q, hq, rfl⟩ := List.mem_map.1 hl
        exact (hg q hq).1
      have hjl := (List.getElem?_eq_some_iff.1 hj).1
      rw [flat_len hlens] at hjl
      rcases Nat.eq_zero_or_pos s with hs0 | hs0
      · subst hs0; simp at hjl
      · have e : j = j / s * s + j % s := by rw [Nat.mul_comm]; exact (Nat.div_add_mod j s).symm
        have hj2 := hj
        rw [e, flat_get hlens _ _ (Nat.mod_lt _ hs0), List.getElem?_map] at hj2
        cases hq : ls[j / s]? with
        | none => rw [hq] at hj2; cases hj2
        | some q =>
          rw [hq] at hj2
          have := hpc (j / s) q hq (j % s) u hj2
          rw [show a.add j = (a.add (j / s * s)).add (j % s) by
            obtain ⟨ab, ao, asp⟩ := a
            simp only at hspb
            rw [hspb.1, add_lit, add_lit, add_lit, Addr.mk.injEq]
            refine ⟨rfl, ?_, rfl⟩
            omega]
          exact this
    · cases hb
      exact hspb
/-- A row of numbers of one kind. -/
theorem trod_ints {t e : TypeId} {k : IntKind} {n fuel : Nat} {cs : List Value} {x : DataW H × List MemPlace} {base : Nat} {spare : Nat → Bool} {held : Bool} (ht : P.underlying t = some (.array n e)) (he : P.underlying e = some (.int k)) (hc : P.cellsOf e = 1) (hct : P.cellsOf t = n)
    (hf : DataW.trod enc P W base spare held fuel t cs = some x) : ∃ zs : List Int, cs = zs.map (Value.int k) ∧ zs.length = n ∧ ∀ z ∈ zs, (Lit.int k z).wf = true := by
  obtain ⟨xs, m, rfl, _, hlen, hxl, hat⟩ := DataW.trod_array ht hf
  simp only [hc, Nat.mul_one] at hat
  rw [hct] at hlen
  have each : ∀ i, i < n → ∃ z, cs[i]? = some (.int k z) ∧ (Lit.int k z).wf = true := by
    intro i hi
    have h := hat i hi
    have hil : i < cs.length := by omega
    rw [List.drop_eq_getElem_cons hil, List.take_succ_cons, List.take_zero, List.getElem?_eq_getElem (by omega)] at h
    obtain ⟨z, h1, _, h3⟩ := DataW.trod_int he h
    simp only [List.cons.injEq, and_true] at h1
    exact ⟨z, by rw [← h1]; simp [hil], h3⟩
  have build : ∀ j, j ≤ n → ∃ zs : List Int, zs.length = j ∧ cs.take j = zs.map (Value.int k) ∧ ∀ z ∈ zs, (Lit.int k z).wf = true := by
    intro j
    induction j with
    | zero => exact fun _ => ⟨[], rfl, by simp, by simp⟩
    | succ j ih =>
      intro hj
      obtain ⟨zs, h1, h2, h3⟩ := ih (by omega)
      obtain ⟨z, hz, hw⟩ := each j (by omega)
      refine ⟨zs ++ [z], by simp [h1], ?_, fun x hx => ?_⟩
      · have hjl : j < cs.length := by omega
        have hz' : cs[j] = .int k z := by
          rw [List.getElem?_eq_getElem hjl] at hz
          injection hz
        rw [List.take_succ_eq_append_getElem hjl, h2, hz']
        simp
      · rcases List.mem_append.1 hx with hx | hx
        · exact h3 x hx
        · simp at hx; subst hx; exact hw
  obtain ⟨zs, h1, h2, h3⟩ := build n (Nat.le_refl _)
  exact ⟨zs, by rw [← h2, List.take_of_length_le (by omega)], h1, h3⟩
theorem trod_u8s {t e : TypeId} {n fuel : Nat} {cs : List Value} {x : DataW H × List MemPlace} {base : Nat} {spare : Nat → Bool} {held : Bool} (ht : P.underlying t = some (.array n e)) (he : P.underlying e = some (.int .u8)) (hc : P.cellsOf e = 1) (hct : P.cellsOf t = n)
    (hf : DataW.trod enc P W base spare held fuel t cs = some x) : ∃ l : List Nat, cs = u8s l ∧ l.length = n ∧ ∀ x ∈ l, x < 256 := by
  obtain ⟨zs, rfl, hl, hw⟩ := trod_ints ht he hc hct hf
  have hnn : ∀ z ∈ zs, 0 ≤ z ∧ z ≤ 255 := fun z hz => by
    have := hw z hz
    simp only [Lit.wf, Bool.and_eq_true, decide_eq_true_eq] at this
    simpa [IntKind.min, IntKind.max, IntKind.signed, IntKind.bits] using this
  refine ⟨zs.map Int.toNat, ?_, by simpa using hl, fun x hx => ?_⟩
  · rw [u8s_ints, List.map_map, List.map_map]
    refine List.map_congr_left fun z hz => ?_
    simp only [Function.comp]
    rw [Int.toNat_of_nonneg (hnn z hz).1]
  · obtain ⟨z, hz, rfl⟩ := List.mem_map.1 hx
    have := hnn z hz
    omega
theorem open_lensrows {t e u : TypeId} {n : Nat} {r : Reach} {b0 : Nat} {v : Value} {d : DataW H} {ps : List MemPlace} {base : Nat} {spare : Nat → Bool} {held : Bool} (ht : P.underlying t = some (.slice e)) (he : P.underlying e = some (.array n u)) (hu : P.underlying u = some (.int .u8)) (hc : P.cellsOf u = 1) (hct : P.cellsOf e = n)
    (hval : Value.okWide P W r b0 t v) (hd : DataW.Trod enc P W base spare held t v d ps) :
    ∃ (A : Option Addr) (ls : List (List Nat)) (cap : Nat), v = .slice A ls.length cap ∧ At W A (ls.map u8s).flatten ∧ (∀ l ∈ ls, l.length = n ∧ ∀ b ∈ l, b < 256) ∧ ls.length ≤ cap ∧ cap ≤ maxLen ∧ (A = none → ls.length = 0 ∧ cap = 0) ∧ (∀ a, A = some a → a.spot = none ∧ a.block < W.heap.size) := by
  obtain ⟨A, ls, cap, h1, h2, h3, h4⟩ := open_rows ht hct u8s (fun l => ∀ b ∈ l, b < 256) (fun m cs x hx => by
    obtain ⟨l, hl1, hl2, hl3⟩ := trod_u8s he hu hc hct hx
    exact ⟨l, hl1, by rw [u8s_length, hl2], hl3⟩) hval hd
  exact ⟨A, ls, cap, h1, h2, fun l hl => ⟨by have := (h3 l hl).1; rwa [u8s_length] at this, (h3 l hl).2⟩, h4⟩
theorem open_i64arr {t e : TypeId} {n : Nat} {r : Reach} {b0 : Nat} {v : Value} {d : DataW H} {ps : List MemPlace} {base : Nat} {spare : Nat → Bool} {held : Bool} (ht : P.underlying t = some (.array n e)) (he : P.underlying e = some (.int .i64)) (hc : P.cellsOf e = 1) (hct : P.cellsOf t = n)
    (hval : Value.okWide P W r b0 t v) (hd : DataW.Trod enc P W base spare held t v d ps) : ∃ zs : List Int, v = .agg (zs.map (Value.int .i64)).toArray ∧ zs.length = n := by
  obtain ⟨zs, h1, h2, _⟩ := open_arr ht he hc hct hval hd
  exact ⟨zs, h1, h2⟩
theorem flat_ones (k : IntKind) : ∀ zs : List Int, (zs.map fun z => [Value.int k z]).flatten = zs.map (Value.int k)
  | [] => rfl
  | z :: zs => by rw [List.map_cons, List.flatten_cons, flat_ones k zs]; rfl
theorem open_introws {t e : TypeId} {r : Reach} {b0 : Nat} {v : Value} {d : DataW H} {ps : List MemPlace} {base : Nat} {spare : Nat → Bool} {held : Bool} (ht : P.underlying t = some (.slice e)) (he : P.underlying e = some (.int .i64)) (hc : P.cellsOf e = 1)
    (hval : Value.okWide P W r b0 t v) (hd : DataW.Trod enc P W base spare held t v d ps) :
    ∃ (A : Option Addr) (ls : List Int) (cap : Nat), v = .slice A ls.length cap ∧ At W A (ls.map (Value.int .i64)) ∧ ls.length ≤ cap ∧ cap ≤ maxLen ∧ (A = none → ls.length = 0 ∧ cap = 0) ∧ (∀ a, A = some a → a.spot = none ∧ a.block < W.heap.size) := by
  obtain ⟨A, ls, cap, h1, h2, _, h4⟩ := open_rows ht hc (fun z => [Value.int .i64 z]) (fun _ => True) (fun m cs x hx => by
    obtain ⟨z, e1, _, _⟩ := DataW.trod_int he hx
    exact ⟨z, e1, rfl, trivial⟩) hval hd
  rw [flat_ones] at h2
  exact ⟨A, ls, cap, h1, h2, h4⟩
theorem ints_sc (k : IntKind) (zs : List Int) : ∀ v ∈ zs.map (Value.int k), AM.sc v = true := fun v hv => by
  obtain ⟨_, _, rfl⟩ := List.mem_map.1 hv
  rfl
end
end AM
end Go.Proofs.Ytfefeikkjebfoaa
