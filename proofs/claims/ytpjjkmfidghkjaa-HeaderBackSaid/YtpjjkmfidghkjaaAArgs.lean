/-
  FROM A LAW's ARGUMENTS TO THE ABSTRACT MACHINE's FIRST STATE. Conditions: none.
-/
import Derived.Test.YtpjjkmfidghkjaaLaw
import Derived.Test.YtpjjkmfidghkjaaAOr
import Derived.Test.YtpjjkmfidghkjaaASy
namespace Go.Proofs.Ytpjjkmfidghkjaa
namespace AM
open Go Go.RowKit Go.ChangeShapes Go.WideShapes Go.ChangeAt Go.Deep

section
variable {P : Program} {W : World}
/-- The abstract arguments stand for the real ones, over blocks that are the arguments'. -/
structure Argd (W : World) (bs : List Blk) (X : Emb) (args vs : List Value) : Prop where
  sim : Sim W X ⟨bs, bs.length, [], []⟩ W
  rel : rel2 (relV X) args vs
theorem Argd.nil (W : World) : Argd W [] ⟨fun _ => none, 0⟩ [] [] :=
  ⟨⟨Below.refl _ _, fun id bx h => by (cases h), fun id bx h => by (cases h), fun id bx g pl cs h => by (cases h), fun i j bi bj h => by (cases h), fun id bx h => by (cases h), fun id bx h => by (cases h)⟩, rel2.nil⟩
theorem rel2.snoc {R : Value → Value → Prop} {l m : List Value} (h : rel2 R l m) {v u : Value} (k : R v u) : rel2 R (l ++ [v]) (m ++ [u]) := h.append (rel2.nil.cons k)
theorem Argd.sc {bs : List Blk} {X : Emb} {args vs : List Value} (A : Argd W bs X args vs) {v : Value} (h : AM.sc v = true) : Argd W bs X (args ++ [v]) (vs ++ [v]) :=
  ⟨A.sim, rel2.snoc A.rel ((relV_sc h).2 rfl)⟩
theorem Argd.agg {bs : List Blk} {X : Emb} {args vs : List Value} (A : Argd W bs X args vs) {cs : Array Value} (h : ∀ v ∈ cs.toList, AM.sc v = true) : Argd W bs X (args ++ [.agg cs]) (vs ++ [.agg cs]) :=
  ⟨A.sim, rel2.snoc A.rel (show relV X (.agg cs) (.agg cs) from ⟨cs, rfl, rel2.refl fun v hv => (relC_sc (h v hv)).2 rfl⟩)⟩
theorem Argd.bytes {bs : List Blk} {X : Emb} {args vs : List Value} (A : Argd W bs X args vs) {ad : Option Addr} {l : List Nat} {cap : Nat} (ha : At W ad (u8s l)) (hb : By l) (hc : l.length ≤ cap) (hd : cap ≤ maxLen)
    (h0 : ad = none → l = [] ∧ cap = 0) (hs : ∀ a, ad = some a → a.spot = none ∧ a.block < W.heap.size) :
    ∃ X' bs' v', Argd W (bs ++ bs') X' (args ++ [v']) (vs ++ [.slice ad l.length cap]) ∧ Rd ⟨bs ++ bs', (bs ++ bs').length, [], []⟩ v' l := by
  cases ad with
  | none =>
    obtain ⟨rfl, rfl⟩ := h0 rfl
    refine ⟨X, [], .slice none 0 0, ?_, ⟨By.nil, .inl ⟨rfl, rfl⟩⟩⟩
    have := A.sc (v := .slice none 0 0) rfl
    simpa using this
  | some a =>
    obtain ⟨hsp, hbk⟩ := hs a rfl
    obtain ⟨ab, ao, asp⟩ := a
    simp only at hsp hbk
    subst hsp
    have S := A.sim
    let X' : Emb := ⟨fun id => if id = bs.length then some ⟨ab, ao, false, 0, l.length, l.length⟩ else X id, X.y⟩
    have ev : Evo X X' := Evo.mk' rfl fun id bx hx => by
      have hlt := S.dom id bx hx
      simp only at hlt
      exact ⟨bx, by simp only [X']; rw [if_neg (by omega)]; exact hx, .inl rfl⟩
    have hnew : X' bs.length = some ⟨ab, ao, false, 0, l.length, l.length⟩ := by simp [X']
    have hold : ∀ id bx, X' id = some bx → (id = bs.length ∧ bx = ⟨ab, ao, false, 0, l.length, l.length⟩) ∨ (id ≠ bs.length ∧ X id = some bx) := fun id bx h => by
      simp only [X'] at h
      split at h
      · rename_i e; exact .inl ⟨e, (by cases h; rfl)⟩
      · rename_i e; exact .inr ⟨e, h⟩
    refine ⟨X', [.cells 0 true (u8s l)], .slice (some ⟨bs.length, 0, some 0⟩) l.length 0, ⟨⟨S.bel, fun id bx h => ?_, fun id bx h => ?_, fun id bx g pl cs h hh hcs => ?_, fun i j bi bj hi hj oi oj e => ?_, fun id bx h hl => ?_, fun id bx h h0 => by
      rcases hold id bx h with ⟨rfl, rfl⟩ | ⟨_, h⟩
      · exact h0
      · exact S.zero id bx h h0⟩, rel2.snoc (A.rel.mono fun v _ u h => h.evo ev) ?_⟩, ⟨hb, .inr ⟨bs.length, 0, 0, 0, true, u8s l, rfl, .inl rfl, rfl, by simp, by simp [u8s], by rw [List.drop_zero, List.take_of_length_le (by simp [u8s])]⟩⟩⟩
    · rcases hold id bx h with ⟨rfl, _⟩ | ⟨_, h⟩
      · simp
      · have := S.dom id bx h
        simp only [List.length_append, List.length_cons, List.length_nil] at this ⊢; omega
    · rcases hold id bx h with ⟨rfl, rfl⟩ | ⟨_, h⟩
      · exact ⟨hbk, hbk⟩
      · exact S.place id bx h
    · rcases hold id bx h with ⟨rfl, rfl⟩ | ⟨hne, h⟩
      · simp only [List.getElem?_concat_length, Option.some.injEq, Blk.cells.injEq] at hcs
        obtain ⟨rfl, rfl, rfl⟩ := hcs
        refine ⟨rfl, by simp [u8s], by simp, fun _ => u8s_sc l, fun j v hv => ?_, fun ho => (by cases ho)⟩
        obtain ⟨ad', e1, e2⟩ := ha j v hv
        cases e1
        rw [add_lit] at e2
        refine ⟨v, e2, (relC_sc ?_).2 rfl⟩
        have := List.all_eq_true.1 (u8s_sc l) v (List.mem_of_getElem? hv)
        exact this
      · have hlt := S.dom id bx h
        simp only at hlt
        have hcs' : bs[id]? = some (.cells g pl cs) := by
          simp only at hcs
          rw [List.getElem?_append_left hlt] at hcs; exact hcs
        obtain ⟨a1, a2, a3, a4, a5, a6⟩ := S.cell id bx g pl cs h (by simp) hcs'
        exact ⟨a1, a2, a3, a4, fun j v hj => by obtain ⟨u, hu, hr⟩ := a5 j v hj; exact ⟨u, hu, hr.evo ev⟩, a6⟩
    · rcases hold i bi hi with ⟨rfl, rfl⟩ | ⟨_, hi⟩
      · cases oi
      · rcases hold j bj hj with ⟨rfl, rfl⟩ | ⟨_, hj⟩
        · cases oj
        · exact S.inj i j bi bj hi hj oi oj e
    · simp only [List.length_append, List.length_cons, List.length_nil] at hl
      rcases hold id bx h with ⟨rfl, rfl⟩ | ⟨_, h⟩
      · omega
      · have := S.dom id bx h
        simp only at this; omega
    · exact ⟨⟨ab, ao, none⟩, cap, rfl, hc, hd, _, hnew, 0, rfl, Nat.le_refl _, fun _ => ⟨fun _ => by simp, fun h => by omega⟩⟩
/-- A law that the abstract machine runs to 'true'. -/
theorem law_run {env : Env} (he : EnvOr P env) (hm : P.follows .mixedOrders = true) {f : Nat} {args vs : List Value} {bs : List Blk} {X : Emb} (A : Argd W bs X args vs) (h : ∃ σ', Lrun env (.func f) args ⟨bs, bs.length, [], []⟩ = some (.bool true, σ')) :
    Calls P f vs.toArray W fun e W' => e = .returned (.bool true) ∧ Below W.heap.size W W' := by
  obtain ⟨σ', h⟩ := h
  obtain ⟨n, h⟩ := Lrun_some.1 h
  obtain ⟨f', e, _, hc⟩ := ((run_sound2 (w0 := W) he hm n).call _ _ _ _ _ h).resolve_right (fun ⟨k, e, _⟩ => by cases e)
  cases e
  refine (hc X W vs.toArray A.sim (by simp) (by simp) (by simpa using A.rel)).mono fun e W' ⟨u, X', h1, h2, h3, h4⟩ => ?_
  rw [relV_bool h2] at h1
  exact ⟨h1, h3.bel⟩
theorem shape_lt {w : World} {b : Nat} {p : TypeId × Nat} (h : w.shape? b = some p) : b < w.heap.size := by
  rcases Nat.lt_or_ge b w.heap.size with h1 | h1
  · exact h1
  · simp [World.shape?, Array.getElem?_eq_none h1] at h
variable {H : Type} {enc : TypeId × Value → H}
theorem open_bytes_am {t e : TypeId} {r : Reach} {b0 : Nat} {v : Value} {d : DataW H} {ps : List MemPlace} {base : Nat} {spare : Nat → Bool} {held : Bool} (ht : P.underlying t = some (.slice e)) (he : P.underlying e = some (.int .u8)) (hc : P.cellsOf e = 1)
    (hval : Value.okWide P W r b0 t v) (hd : DataW.Trod enc P W base spare held t v d ps) :
    ∃ (A : Option Addr) (l : List Nat) (cap : Nat), v = .slice A l.length cap ∧ At W A (u8s l) ∧ By l ∧ l.length ≤ cap ∧ cap ≤ maxLen ∧ (A = none → l = [] ∧ cap = 0) ∧ (∀ a, A = some a → a.spot = none ∧ a.block < W.heap.size) := by
  obtain ⟨A, l, cap, rfl, h1, h2, h3, h4⟩ := open_bytes ht he hc hval hd
  refine ⟨A, l, cap, rfl, h1, h2, h3, h4, fun e => ?_, fun a e => ?_⟩
  · subst e
    simp only [Value.okWide, ht, Cell.okWide, Cell.ok] at hval
    split at hval <;> simp_all
  · subst e
    simp only [Value.okWide, ht, Cell.okWide, Cell.ok] at hval
    obtain ⟨_, _, h5⟩ := hval
    obtain ⟨_, h6, row, cells, h7, _⟩ := h5
    exact ⟨h6, shape_lt h7⟩
theorem cell_int {ti : TypeId} {k : IntKind} {r : Reach} {b0 : Nat} {v : Value} (hi : P.underlying ti = some (.int k)) (h : Cell.okWide P W r b0 ti v) : ∃ a : Int, v = .int k a ∧ k.min ≤ a ∧ a ≤ k.max := by
  cases v <;> simp [Cell.okWide, hi, Cell.ok] at h
  rename_i k' a
  obtain ⟨rfl, h1, h2⟩ := h
  exact ⟨a, rfl, h1, h2⟩
theorem cell_i64 {ti : TypeId} {r : Reach} {b0 : Nat} {v : Value} (hi : P.underlying ti = some (.int .i64)) (h : Cell.okWide P W r b0 ti v) : ∃ a : Int, v = .int .i64 a ∧ -9223372036854775808 ≤ a ∧ a ≤ 9223372036854775807 := by
  obtain ⟨a, e, h1, h2⟩ := cell_int hi h
  exact ⟨a, e, by simpa [IntKind.min, IntKind.signed, IntKind.bits] using h1, by simpa [IntKind.max, IntKind.signed, IntKind.bits] using h2⟩
/-- A record of two numbers. -/
theorem open_two {t ti : TypeId} {fs : Array Field} {r : Reach} {b0 : Nat} {v : Value} {d : DataW H} {ps : List MemPlace} {base : Nat} {spare : Nat → Bool} {held : Bool} (ht : P.underlying t = some (.struct fs)) (hc : P.cellTypes P.depth t = some [ti, ti]) (hi : P.underlying ti = some (.int .i64)) (hn : P.cellsOf t = 2)
    (hval : Value.okWide P W r b0 t v) (_ : DataW.Trod enc P W base spare held t v d ps) :
    ∃ a b : Int, v = .agg #[.int .i64 a, .int .i64 b] ∧ (-9223372036854775808 ≤ a ∧ a ≤ 9223372036854775807 ∧ -9223372036854775808 ≤ b ∧ b ≤ 9223372036854775807) := by
  simp only [Value.okWide, ht] at hval
  obtain ⟨cs, rfl, hs, ts, hts, _, hcell⟩ := hval
  rw [hc] at hts
  cases hts
  rw [hn] at hs
  have each : ∀ i, i < 2 → ∃ a : Int, cs[i]? = some (.int .i64 a) ∧ -9223372036854775808 ≤ a ∧ a ≤ 9223372036854775807 := fun i hil => by
    obtain ⟨u, hu, hk⟩ := hcell i cs[i] (Array.getElem?_eq_getElem (by omega))
    have hu2 : u = ti := by
      rcases (by omega : i = 0 ∨ i = 1) with rfl | rfl <;> simpa using hu.symm
    subst hu2
    obtain ⟨a, e, h1, h2⟩ := cell_i64 hi hk
    exact ⟨a, by rw [Array.getElem?_eq_getElem (by omega), e], h1, h2⟩
  obtain ⟨a, ha, ha1, ha2⟩ := each 0 (by omega)
  obtain ⟨b, hb, hb1, hb2⟩ := each 1 (by omega)
  refine ⟨a, b, ?_, ha1, ha2, hb1, hb2⟩
  congr 1
  apply Array.ext'
  apply List.ext_getElem?
  intro j
  rcases (by omega : j = 0 ∨ j = 1 ∨ 2 ≤ j) with rfl | rfl | h
  · simpa using ha
  · simpa using hb
  · rw [List.getElem?_eq_none (by simpa [hs] using h), List.getElem?_eq_none (by simpa using h)]
end
end AM
end Go.Proofs.Ytpjjkmfidghkjaa
