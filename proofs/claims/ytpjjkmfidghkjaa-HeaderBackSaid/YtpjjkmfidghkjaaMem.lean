/-
  WORDS FOR MEMORY: a slice's cells as a list; a block known whole; small laws on both. Conditions: none.
-/
import Derived.Below
import Derived.WalkKit
import Derived.Laws.BytesArg
import Derived.Laws.BytesString
import Derived.Maps.AppendAt
import Derived.Deep.Draws
import Derived.Deep.WholeRow
namespace Go.Proofs.Ytpjjkmfidghkjaa
open Go Go.RowKit

/-- From the address A on lie the cells xs (nothing is asked where xs is empty). -/
def At (w : World) (A : Option Addr) (xs : List Value) : Prop := ∀ j u, xs[j]? = some u → ∃ ad, A = some ad ∧ w.cell? (ad.add j) = some u

theorem blk_add (a : Addr) (n : Nat) : (a.add n).block = a.block := by unfold Addr.add; split <;> rfl
theorem add_blk (a : Addr) (i j : Nat) : (a.add i).add j = a.add (i + j) := by
  unfold Addr.add
  by_cases hi : i = 0 <;> by_cases hj : j = 0 <;> simp [hi, hj, Nat.add_assoc]
theorem add_lit (b o j : Nat) : (⟨b, o, none⟩ : Addr).add j = ⟨b, o + j, none⟩ := by unfold Addr.add; split <;> simp_all

theorem addN (a : Addr) (n : Nat) (h : n ≠ 0) : a.add n = ⟨a.block, a.off + n, none⟩ := by unfold Addr.add; rw [if_neg h]
theorem add0 (a : Addr) : a.add 0 = a := rfl

theorem At.nil {w : World} {A : Option Addr} : At w A [] := fun j u h => by simp at h
theorem At.below {w w' : World} {A : Option Addr} {xs : List Value} (h : At w A xs) (hb : Below w.heap.size w w') : At w' A xs := fun j u hu => by
  obtain ⟨ad, e, hc⟩ := h j u hu
  exact ⟨ad, e, by rw [hb.cell (block_lt_of_cell hc)]; exact hc⟩
theorem At.get {w : World} {A : Option Addr} {xs : List Value} (h : At w A xs) {k : Nat} (hk : k < xs.length) : ∃ ad, A = some ad ∧ w.cell? (ad.add k) = some xs[k] :=
  h k _ (List.getElem?_eq_getElem hk)
theorem At.take {w : World} {A : Option Addr} {xs : List Value} (h : At w A xs) (n : Nat) : At w A (xs.take n) := fun j u hu => by
  rw [List.getElem?_take] at hu
  split at hu
  · exact h j u hu
  · cases hu
/-- The cut 's[k:]' as the model makes it. -/
theorem At.drop {w : World} {A : Option Addr} {xs : List Value} (h : At w A xs) (k cap : Nat) (hc : xs.length ≤ cap) : At w (if cap = k then A else A.map (·.add k)) (xs.drop k) := fun j u hu => by
  rw [List.getElem?_drop] at hu
  obtain ⟨ad, rfl, hcell⟩ := h _ u hu
  have : k + j < xs.length := (List.getElem?_eq_some_iff.1 hu).1
  rw [if_neg (by omega)]
  exact ⟨ad.add k, rfl, by rw [add_blk]; exact hcell⟩

theorem At.dropLt {w : World} {A : Option Addr} {xs : List Value} (h : At w A xs) (k : Nat) : At w (A.map (·.add k)) (xs.drop k) := fun j u hu => by
  rw [List.getElem?_drop] at hu
  obtain ⟨ad, rfl, hcell⟩ := h _ u hu
  exact ⟨ad.add k, rfl, by rw [add_blk]; exact hcell⟩

/-- A block that is known whole. -/
def Box (w : World) (g : Nat) (t : TypeId) (cs : Array Value) : Prop := w.heap[g]? = some (.cells cs t (0, 0))
theorem Box.lt {w : World} {g : Nat} {t : TypeId} {cs : Array Value} (h : Box w g t cs) : g < w.heap.size := by
  rcases Nat.lt_or_ge g w.heap.size with h1 | h1
  · exact h1
  · unfold Box at h; rw [Array.getElem?_eq_none h1] at h; cases h
theorem Box.cell {w : World} {g : Nat} {t : TypeId} {cs : Array Value} (h : Box w g t cs) (i : Nat) : w.cell? ⟨g, i, none⟩ = cs[i]? := cell_of_row w g i cs t (0, 0) h
theorem Box.free {w : World} {g : Nat} {t : TypeId} {cs : Array Value} (h : Box w g t cs) (i : Nat) : w.frozen? ⟨g, i, none⟩ = false := frozen_of_row w g i cs t h
theorem Box.new (w : World) (t : TypeId) (cs : Array Value) : Box (w.alloc (.cells cs t)) w.heap.size t cs := heap_alloc_new w _
theorem Box.drew {w : World} {g : Nat} {t : TypeId} {cs : Array Value} (h : Box w g t cs) : Box w.drew g t cs := h
theorem Box.alloc {w : World} {g : Nat} {t : TypeId} {cs : Array Value} (h : Box w g t cs) (o : Obj) : Box (w.alloc o) g t cs := (Below.heap_alloc w o g h.lt).trans h
theorem Box.set {w : World} {g : Nat} {t : TypeId} {cs : Array Value} (h : Box w g t cs) (i : Nat) (v : Value) : Box (w.setCell ⟨g, i, none⟩ v) g t (cs.setIfInBounds i v) := heap_setCell_same w g i cs t v h
theorem Box.far {w : World} {g : Nat} {t : TypeId} {cs : Array Value} (h : Box w g t cs) {p : Addr} (hp : g ≠ p.block) (v : Value) : Box (w.setCell p v) g t cs := (heap_setCell_other w p g v hp).trans h
theorem Box.below {w w' : World} {g B : Nat} {t : TypeId} {cs : Array Value} (h : Box w g t cs) (hb : Below B w w') (hg : g < B) : Box w' g t cs := (hb.block g hg).trans h
theorem Box.keep {w w' : World} {g : Nat} {t : TypeId} {cs : Array Value} (h : Box w g t cs) (hb : Below w.heap.size w w') : Box w' g t cs := h.below hb h.lt
theorem Box.row {w : World} {g : Nat} {t : TypeId} {cs : Array Value} (h : Box w g t cs) (cs' : Array Value) : Box (w.setRow g cs') g t cs' := setRow_heap w g cs cs' t (0, 0) h
theorem Box.at_ {w : World} {g : Nat} {t : TypeId} {cs : Array Value} (h : Box w g t cs) : At w (some ⟨g, 0, none⟩) cs.toList := fun j u hu => ⟨_, rfl, by rw [add_lit, h.cell]; simpa using hu⟩

theorem setRow_far (w : World) (g k : Nat) (cs : Array Value) (h : k ≠ g) : (w.setRow g cs).heap[k]? = w.heap[k]? := by
  simp only [World.setRow, Array.getElem?_modify]
  rw [if_neg (fun e => h e.symm)]
theorem Box.row_far {w : World} {g k : Nat} {t : TypeId} {cs : Array Value} (h : Box w k t cs) (hk : k ≠ g) (cs' : Array Value) : Box (w.setRow g cs') k t cs := (setRow_far w g k cs' hk).trans h
theorem below_row {B g : Nat} {w0 w : World} (hb : Below B w0 w) (h : B ≤ g) (cs : Array Value) : Below B w0 (w.setRow g cs) :=
  hb.trans ⟨rfl, rfl, rfl, by simp, fun k hk => setRow_far _ _ _ _ (by omega)⟩

section
variable {P : Program}
/-- A whole array, into a block that is known whole. -/
theorem wp_store_box {o : Oper} {a : Act} {w : World} {K : Act → World → Prop} {Q : Exit → Act → World → Prop} (ty : TypeId) (x y : Operand) (ho : o.op = .store ty x y)
    (g : Nat) (hx : a.eval x = .pointer (some ⟨g, 0, none⟩)) (cs' : Array Value) (hy : a.eval y = .agg cs') (t : TypeId) (cs : Array Value) (hg : Box w g t cs)
    (hi : (P.info? ty).map (·.size) = some cs'.size) (hs : cs.size = cs'.size) (h1 : cs'.all (·.oneCell') = true) (h : K (a.put o.dst undef) (w.setRow g cs')) : o.wp P a w K Q := by
  unfold Oper.wp execOp
  simp only [ho, hx, hy, Instr.storeAt, Instr.sureAddr, Sem.run_bind, Sem.run_pure, Result.andThen_ok, run_storeVar_row w g t ty cs cs' hg hi hs h1]
  exact h
theorem wpList_load_box {ops : Array Oper} {rest : List Oper} {o : Oper} {a : Act} {w : World} {Q : Exit → Act → World → Prop} (hw : Region.wanted o (yielded ops a.tmps) = true) (ty : TypeId) (x : Operand) (ho : o.op = .load ty x)
    (g : Nat) (hx : a.eval x = .pointer (some ⟨g, 0, none⟩)) (t : TypeId) (cs : Array Value) (hg : Box w g t cs) {n : Nat} {e : TypeId} (hu : P.underlying ty = some (.array n e)) (hi : (P.info? ty).map (·.size) = some cs.size)
    (h : wpList P ops Q rest (a.put o.dst (.agg cs)) w) : wpList P ops Q (o :: rest) a w :=
  BigFrame.wpList_want hw fun _ hK => wp_load_row ty x ho g hx t cs (0, 0) _ hg hu rfl hi (hK _ _ h)
theorem wpList_store_box {ops : Array Oper} {rest : List Oper} {o : Oper} {a : Act} {w : World} {Q : Exit → Act → World → Prop} (hgd : o.guard = none) (ty : TypeId) (x y : Operand) (ho : o.op = .store ty x y)
    (g : Nat) (hx : a.eval x = .pointer (some ⟨g, 0, none⟩)) (cs' : Array Value) (hy : a.eval y = .agg cs') (t : TypeId) (cs : Array Value) (hg : Box w g t cs)
    (hi : (P.info? ty).map (·.size) = some cs'.size) (hs : cs.size = cs'.size) (h1 : cs'.all (·.oneCell') = true) (h : wpList P ops Q rest (a.put o.dst undef) (w.setRow g cs')) : wpList P ops Q (o :: rest) a w :=
  wpList_plain hgd fun _ hK => wp_store_box ty x y ho g hx cs' hy t cs hg hi hs h1 (hK _ _ h)
end

/-- A list of numbers as cells. -/
def u8s (l : List Nat) : List Value := l.map fun (b : Nat) => Value.int .u8 (b : Int)
def u32s (l : List Nat) : List Value := l.map fun (b : Nat) => Value.int .u32 (b : Int)
theorem u8s_length (l : List Nat) : (u8s l).length = l.length := by simp [u8s]
theorem u8s_get (l : List Nat) (k : Nat) : (u8s l)[k]? = (l[k]?).map fun (b : Nat) => Value.int .u8 (b : Int) := by simp [u8s]
theorem At.u8 {w : World} {A : Option Addr} {l : List Nat} (h : At w A (u8s l)) {k : Nat} (hk : k < l.length) : ∃ ad, A = some ad ∧ w.cell? (ad.add k) = some (.int .u8 (l[k] : Int)) :=
  h k _ (by rw [u8s_get, List.getElem?_eq_getElem hk]; rfl)

/-- A slice of slices of bytes. -/
def Pieces (w : World) (A : Option Addr) (ps : List (List Nat)) : Prop := ∀ i p, ps[i]? = some p → ∃ ad B c, A = some ad ∧ w.cell? (ad.add i) = some (.slice B p.length c) ∧ At w B (u8s p) ∧ p.length ≤ c ∧ c ≤ maxLen ∧ ∀ b ∈ p, b < 256
theorem Pieces.below {w w' : World} {A : Option Addr} {ps : List (List Nat)} (h : Pieces w A ps) (hb : Below w.heap.size w w') : Pieces w' A ps := fun i p hp => by
  obtain ⟨ad, B, c, e, hc, ha, hl, hm, h8⟩ := h i p hp
  exact ⟨ad, B, c, e, by rw [hb.cell (block_lt_of_cell hc)]; exact hc, ha.below hb, hl, hm, h8⟩

theorem below_drewN (w : World) (n : Nat) : Below w.heap.size w (w.drewN n) := ⟨rfl, rfl, rfl, Nat.le_refl _, fun _ _ => rfl⟩
theorem size_alloc (w : World) (o : Obj) : (w.alloc o).heap.size = w.heap.size + 1 := by simp
theorem below_new (w : World) (o : Obj) : Below w.heap.size w (w.alloc o) := (Below.refl _ _).alloc (Nat.le_refl _) _
/-- What is below the heap's end at the first step and below the heap's end at the second. -/
theorem below_then {a b c : World} (h : Below a.heap.size a b) (k : Below b.heap.size b c) : Below a.heap.size a c := h.trans (k.mono h.size)
/-- A new block of cells. -/
theorem at_new (w : World) (t : TypeId) (xs : List Value) {fr : Nat × Nat} : At (w.alloc (.cells xs.toArray t fr)) (some ⟨w.heap.size, 0, none⟩) xs := fun j u hu =>
  ⟨_, rfl, by rw [add_lit, cell_of_row _ _ _ _ _ _ (heap_alloc_new w _)]; simpa using hu⟩
theorem At.alloc {w : World} {A : Option Addr} {xs : List Value} (h : At w A xs) (o : Obj) : At (w.alloc o) A xs := h.below (below_new w o)
/-- A new block, known by its number. -/
theorem at_new' {w : World} {g : Nat} (hg : w.heap.size = g) (t : TypeId) (xs : List Value) {fr : Nat × Nat} : At (w.alloc (.cells xs.toArray t fr)) (some ⟨g, 0, none⟩) xs := by subst hg; exact at_new w t xs
/-- A new block of slices of bytes. -/
theorem pieces_new (w : World) (t : TypeId) (vs : List (Option Addr × List Nat × Nat)) (h : ∀ x ∈ vs, At w x.1 (u8s x.2.1) ∧ x.2.1.length ≤ x.2.2 ∧ x.2.2 ≤ maxLen ∧ ∀ b ∈ x.2.1, b < 256) :
    Pieces (w.alloc (.cells (vs.map fun x => Value.slice x.1 x.2.1.length x.2.2).toArray t)) (some ⟨w.heap.size, 0, none⟩) (vs.map (·.2.1)) := fun i p hp => by
  rw [List.getElem?_map] at hp
  cases hv : vs[i]? with
  | none => rw [hv] at hp; cases hp
  | some x =>
    rw [hv] at hp
    simp only [Option.map_some, Option.some.injEq] at hp
    subst hp
    obtain ⟨h1, h2, h3, h4⟩ := h x (List.mem_of_getElem? hv)
    obtain ⟨ad, e, hc⟩ := at_new w t (vs.map fun x => Value.slice x.1 x.2.1.length x.2.2) i (.slice x.1 x.2.1.length x.2.2) (by rw [List.getElem?_map, hv]; rfl)
    exact ⟨ad, x.1, x.2.2, e, hc, h1.alloc _, h2, h3, h4⟩

/-- The same, the lengths named apart. -/
theorem pieces_of (w : World) (t : TypeId) (vs : List (Option Addr × List Nat × Nat × Nat)) (h : ∀ x ∈ vs, At w x.1 (u8s x.2.1) ∧ x.2.1.length = x.2.2.1 ∧ x.2.2.1 ≤ x.2.2.2 ∧ x.2.2.2 ≤ maxLen ∧ ∀ b ∈ x.2.1, b < 256) :
    Pieces (w.alloc (.cells (vs.map fun x => Value.slice x.1 x.2.2.1 x.2.2.2).toArray t)) (some ⟨w.heap.size, 0, none⟩) (vs.map (·.2.1)) := by
  have := pieces_new w t (vs.map fun x => (x.1, x.2.1, x.2.2.2)) (fun y hy => by
    obtain ⟨x, hx, rfl⟩ := List.mem_map.1 hy
    obtain ⟨h1, h2, h3, h4, h5⟩ := h x hx
    exact ⟨h1, by simp only; omega, h4, h5⟩)
  rw [List.map_map, List.map_map] at this
  have e : vs.map ((fun x : Option Addr × List Nat × Nat => Value.slice x.1 x.2.1.length x.2.2) ∘ fun x : Option Addr × List Nat × Nat × Nat => (x.1, x.2.1, x.2.2.2)) = vs.map fun x => Value.slice x.1 x.2.2.1 x.2.2.2 :=
    List.map_congr_left fun x hx => by simp only [Function.comp]; rw [(h x hx).2.1]
  rw [e] at this
  exact this
theorem pieces_new' {w : World} {g : Nat} (hg : w.heap.size = g) (t : TypeId) (vs : List (Option Addr × List Nat × Nat)) (h : ∀ x ∈ vs, At w x.1 (u8s x.2.1) ∧ x.2.1.length ≤ x.2.2 ∧ x.2.2 ≤ maxLen ∧ ∀ b ∈ x.2.1, b < 256) :
    Pieces (w.alloc (.cells (vs.map fun x => Value.slice x.1 x.2.1.length x.2.2).toArray t)) (some ⟨g, 0, none⟩) (vs.map (·.2.1)) := by subst hg; exact pieces_new w t vs h

/-- A string out of bytes. -/
def str8 (l : List Nat) : ByteArray := ⟨(l.map fun n => UInt8.ofNat n).toArray⟩
theorem u8s_ints (l : List Nat) : u8s l = (l.map fun n : Nat => (n : Int)).map (Value.int .u8) := by simp [u8s]
theorem run_str {P : Program} {w : World} {A : Option Addr} {l : List Nat} (hA : At w A (u8s l)) (src dst e : TypeId) (n cap : Nat) (hn : l.length = n)
    (hs : P.underlying src = some (.slice e)) (he : P.underlying e = some (.int .u8)) (hd : P.underlying dst = some .string) :
    (convert src dst (.slice A n cap)).run P w = .ok (.string (str8 l)) w := by
  subst hn
  rw [run_convert_bytes_string w src dst e A _ cap hs he hd]
  cases A with
  | none =>
    cases l with
    | nil => simp [Conv.bytesToString]; rfl
    | cons x l =>
      obtain ⟨ad, h, _⟩ := hA 0 _ rfl
      cases h
  | some ad =>
    have hl : (loadCells ad l.length).run P w = .ok ((l.map fun n : Nat => (n : Int)).map (Value.int .u8)).toArray w := by
      have := run_loadCells_list (P := P) w ad (u8s l) (fun j v hj => by
        obtain ⟨ad', h, hc⟩ := hA j v hj
        injection h with h
        subst h
        exact hc)
      rw [u8s_length, u8s_ints] at this
      exact this
    rw [run_bytesToString w ad _ cap _ hl, foldl_push_bytes]
    congr 3
    simp [ByteArray.empty, ByteArray.emptyWithCapacity]
    rfl
theorem str8_inj {l m : List Nat} (hl : ∀ b ∈ l, b < 256) (hm : ∀ b ∈ m, b < 256) (h : str8 l = str8 m) : l = m := by
  have h1 : (l.map fun n => UInt8.ofNat n) = m.map fun n => UInt8.ofNat n := by
    have := congrArg (fun b : ByteArray => b.data.toList) h
    simpa [str8] using this
  have h2 : ∀ (k : List Nat), (∀ b ∈ k, b < 256) → (k.map fun n => UInt8.ofNat n).map (·.toNat) = k := fun k hk => by
    rw [List.map_map]
    exact (List.map_congr_left fun b hb => by simp [Nat.mod_eq_of_lt (hk b hb)]).trans (List.map_id _)
  rw [← h2 l hl, ← h2 m hm, h1]

/-- The facts on a slice type t of elements e of one cell. -/
structure Ety (P : Program) (t e : TypeId) (z : Value) (bytes : Nat) : Prop where
  ht : P.underlying t = some (.slice e)
  hi : (P.info? e).map (fun i => (i.zero, i.size, i.bytes)) = some (some z, 1, bytes)
  hz : z.cells.size = 1

/-- What the call owns, as a slice value. -/
theorem own_form {w : World} {base : Nat} {e : TypeId} {v : Value} {n : Nat} {xs : List Value} (h : w.ownsRow base e 1 v n xs) :
    ∃ A c, v = .slice A n c ∧ At w A xs ∧ xs.length = n ∧ n ≤ c ∧ c ≤ maxLen := by
  have hl : xs.length = n := by simpa using h.1
  rcases h.2 with ⟨rfl, rfl⟩ | ⟨g, cap, cur, rfl, hb, hg, hn, hm, hs, htk⟩
  · have : xs = [] := List.eq_nil_of_length_eq_zero hl
    subst this
    exact ⟨none, 0, rfl, At.nil, rfl, Nat.le_refl _, by simp [maxLen]⟩
  · exact ⟨some ⟨g, 0, none⟩, cap, rfl, fun j u hu => ⟨_, rfl, h.cells (g := g) rfl j u hu⟩, hl, hn, hm⟩

/-- What the call owns, not empty: the block, whole. -/
theorem own_box {w : World} {base : Nat} {e : TypeId} {v : Value} {n : Nat} {xs : List Value} (h : w.ownsRow base e 1 v n xs) (hn : 0 < n) :
    ∃ g cap cur, v = .slice (some ⟨g, 0, none⟩) n cap ∧ base ≤ g ∧ Box w g e cur ∧ n ≤ cap ∧ cap ≤ maxLen ∧ cur.size = cap ∧ cur.toList.take n = xs := by
  rcases h.2 with ⟨_, rfl⟩ | ⟨g, cap, cur, rfl, hb, hg, hn', hm, hs, htk⟩
  · omega
  · exact ⟨g, cap, cur, rfl, hb, hg, hn', hm, by simpa using hs, by simpa using htk⟩

section
variable {P : Program}
/-- append onto what the call owns, the source whatever slice reads as 'news'. -/
theorem run_append_at {w : World} {t e : TypeId} {z : Value} {bytes : Nat} (E : Ety P t e z bytes) (ty : TypeId) {base : Nat} {v : Value} {n : Nat} {xs : List Value} (hown : w.ownsRow base e 1 v n xs)
    {A : Option Addr} {m c : Nat} {news : List Value} (hA : At w A news) (hm : news.length = m) (h1 : ∀ u ∈ news, u.oneCell' = true) (hroom : n + m ≤ 1099511627776) (hby : bytes ≤ 64) (hbase : base ≤ w.heap.size) :
    ∃ v' w', (Builtin.append_ #[t, t] ty #[v, .slice A m c]).run P w = .ok v' w' ∧ w'.ownsRow base e 1 v' (n + m) (xs ++ news) ∧ w.grownBy w' v.ownBlock ∧ (v'.ownBlock = v.ownBlock ∨ v'.ownBlock = some w.heap.size) := by
  obtain ⟨i, hi, hz, hs, hb⟩ : ∃ i, P.info? e = some i ∧ i.zero = some z ∧ i.size = 1 ∧ i.bytes = bytes := by
    have := E.hi
    cases hq : P.info? e with
    | none => simp [hq] at this
    | some i => simp [hq] at this; exact ⟨i, rfl, this.1, this.2.1, this.2.2⟩
  cases A with
  | none =>
    cases news with
    | cons x l =>
      obtain ⟨ad, h, _⟩ := hA 0 x rfl
      cases h
    | nil =>
      simp at hm
      subst hm
      refine ⟨v, w, ?_, by simpa using hown, ⟨rfl, rfl, rfl, Nat.le_refl _, fun _ _ _ => rfl⟩, .inl rfl⟩
      rcases hown.2 with ⟨rfl, rfl⟩ | ⟨g, cap, cur, rfl, _, _, hnc, _⟩
      · simp [Builtin.append_, run_underlying E.ht, sizeOf, typeInfo, hi, Builtin.lenOf, Builtin.firstCells]
      · simp [Builtin.append_, run_underlying E.ht, sizeOf, typeInfo, hi, Builtin.lenOf, Builtin.firstCells, hnc, storeCells]
  | some ad =>
    obtain ⟨v', w', h, h2, h3, _, h5⟩ := run_append_own_at (P := P) w base t ty e i z 1 bytes E.ht hi hz hs hb E.hz (by omega) v n xs hown ad m c news (by omega)
      (fun j u hu => by
        obtain ⟨ad', h, hc⟩ := hA j u hu
        injection h with h
        subst h
        exact hc) h1 (by simp only [maxLen]; omega) (Nat.le_trans (Nat.mul_le_mul hroom hby) (by omega)) hbase
    exact ⟨v', w', h, h2, h3, h5⟩

theorem wp_append_at {o : Oper} {a : Act} {w : World} {K : Act → World → Prop} {Q : Exit → Act → World → Prop} (s x : Operand) (t : TypeId)
    (ho : o.op = .call { callee := .builtin .append, args := #[s, x], argTypes := #[t, t] }) {e : TypeId} {z : Value} {bytes : Nat} (E : Ety P t e z bytes)
    {base : Nat} (v : Value) {n : Nat} {xs : List Value} (hs : a.eval s = v) (hown : w.ownsRow base e 1 v n xs)
    {A : Option Addr} {m c : Nat} {news : List Value} (hx : a.eval x = .slice A m c) (hA : At w A news) (hm : news.length = m) (h1 : ∀ u ∈ news, u.oneCell' = true) (hroom : n + m ≤ 1099511627776) (hby : bytes ≤ 64) (hbase : base ≤ w.heap.size)
    (h : ∀ v' w', w'.ownsRow base e 1 v' (n + m) (xs ++ news) → w.grownBy w' v.ownBlock → (v'.ownBlock = v.ownBlock ∨ v'.ownBlock = some w.heap.size) → K (a.put o.dst v') w') : o.wp P a w K Q := by
  obtain ⟨v', w', hr, h2, h3, h4⟩ := run_append_at (P := P) E o.type hown hA hm h1 hroom hby hbase (c := c)
  unfold Oper.wp execOp
  simp only [ho, resolve, invoke, builtin, Sem.run_bind, Sem.run_pure, Result.andThen_ok, List.map_toArray, List.map_cons, List.map_nil, hs, hx, hr]
  exact h v' w' h2 h3 h4
theorem wpList_append_at {ops : Array Oper} {rest : List Oper} {o : Oper} {a : Act} {w : World} {Q : Exit → Act → World → Prop} (hgd : o.guard = none) (s x : Operand) (t : TypeId)
    (ho : o.op = .call { callee := .builtin .append, args := #[s, x], argTypes := #[t, t] }) {e : TypeId} {z : Value} {bytes : Nat} (E : Ety P t e z bytes)
    {base : Nat} (v : Value) {n : Nat} {xs : List Value} (hs : a.eval s = v) (hown : w.ownsRow base e 1 v n xs)
    {A : Option Addr} {m c : Nat} {news : List Value} (hx : a.eval x = .slice A m c) (hA : At w A news) (hm : news.length = m) (h1 : ∀ u ∈ news, u.oneCell' = true) (hroom : n + m ≤ 1099511627776) (hby : bytes ≤ 64) (hbase : base ≤ w.heap.size)
    (h : ∀ v' w', w'.ownsRow base e 1 v' (n + m) (xs ++ news) → w.grownBy w' v.ownBlock → (v'.ownBlock = v.ownBlock ∨ v'.ownBlock = some w.heap.size) → wpList P ops Q rest (a.put o.dst v') w') : wpList P ops Q (o :: rest) a w :=
  wpList_plain hgd fun _ hK => wp_append_at s x t ho E v hs hown hx hA hm h1 hroom hby hbase fun v' w' h2 h3 h4 => hK _ _ (h v' w' h2 h3 h4)
end
/-- make, a length that is small. -/
theorem run_make_at {P : Program} {t e : TypeId} {z : Value} {bytes : Nat} (E : Ety P t e z bytes) (hc : z.cells = #[z]) (n : Nat) (hn : n ≤ 1099511627776) (hby : bytes ≤ 64) (w : World) :
    (Instr.makeSlice t (.int .i64 (n : Int)) (.int .i64 (n : Int))).run P w = .ok (.slice (some ⟨w.heap.size, 0, none⟩) n n) (w.alloc (.cells (List.replicate n z).toArray e)) := by
  obtain ⟨i, hi, hz, hs, hb⟩ : ∃ i, P.info? e = some i ∧ i.zero = some z ∧ i.size = 1 ∧ i.bytes = bytes := by
    have := E.hi
    cases hq : P.info? e with
    | none => simp [hq] at this
    | some i => simp [hq] at this; exact ⟨i, rfl, this.1, this.2.1, this.2.2⟩
  have hle : i.bytes * n ≤ 64 * 1099511627776 := Nat.mul_le_mul (by omega) hn
  have hle' : (i.bytes : Int) * (n : Int) ≤ 281474976710656 := by
    rw [← Int.natCast_mul]; omega
  have h := run_make (P := P) w t e i z E.ht hi hz .i64 .i64 n n (by omega) (Int.le_refl _) hle' (by omega)
  rw [hs, Nat.mul_one, hc] at h
  have e : madeCells #[z] (n : Int).toNat = (List.replicate n z).toArray := by
    apply Array.toList_inj.1
    rw [toList_madeCells_one]
    simp
  rw [e] at h
  simpa using h
theorem u8s_append (l m : List Nat) : u8s (l ++ m) = u8s l ++ u8s m := by simp [u8s]
theorem u8s_take (l : List Nat) (k : Nat) : u8s (l.take k) = (u8s l).take k := by simp [u8s, List.map_take]
theorem u8s_drop (l : List Nat) (k : Nat) : u8s (l.drop k) = (u8s l).drop k := by simp [u8s, List.map_drop]
theorem u8s_one (l : List Nat) : ∀ u ∈ u8s l, u.oneCell' = true := fun u hu => by
  obtain ⟨b, _, rfl⟩ := List.mem_map.1 hu
  rfl
/-- A block of the call's own, made last. -/
theorem own_new (w : World) (e : TypeId) (base : Nat) (xs : List Value) (hb : base ≤ w.heap.size) (hm : xs.length ≤ maxLen) : (w.alloc (.cells xs.toArray e)).ownsRow base e 1 (.slice (some ⟨w.heap.size, 0, none⟩) xs.length xs.length) xs.length xs :=
  ⟨by simp, .inr ⟨w.heap.size, xs.length, xs.toArray, rfl, hb, heap_alloc_new w _, Nat.le_refl _, hm, by simp, by simp⟩⟩

theorem hide {p : Prop} (h : p) : Hid p := h
/-- An element of an array value. -/
theorem run_index_arr {P : Program} {t e : TypeId} {n : Nat} {kd : IntKind} {cs : Array Value} (ht : P.underlying t = some (.array n e)) (he : P.underlying e = some (.int kd)) (hs : (P.info? e).map (·.size) = some 1)
    (i : Nat) (hi : i < n) (v : Value) (hv : cs[i]? = some v) (k : IntKind) (w : World) : (Instr.index t (.agg cs) (.int k (i : Int))).run P w = .ok v w := by
  obtain ⟨j, hj, hsz⟩ : ∃ j, P.info? e = some j ∧ j.size = 1 := by
    cases hq : P.info? e with
    | none => simp [hq] at hs
    | some j => simp [hq] at hs; exact ⟨j, rfl, hs⟩
  simp [Instr.index, asIntOf, run_underlying ht, hi, sizeOf, typeInfo, hj, hsz, part, isAgg, run_underlying he, hv]

theorem ret_int {k : IntKind} {a b : Int} (h : a = b) : Ending.returned (.int k a) = .returned (.int k b) := by rw [h]
theorem ret_bool {a b : Bool} (h : a = b) : Ending.returned (.bool a) = .returned (.bool b) := by rw [h]

end Go.Proofs.Ytpjjkmfidghkjaa
