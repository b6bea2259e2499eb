/-
  A MAP KEYED BY ROWS OF BYTES, AS THE LIST OF ITS KEYS (kraft.Different): 'seen[x]++' adds the key at the end where it is new. Conditions: each key is one of the type's.
-/
import Derived.Test.YteaapmfpojeibaaMono
import Derived.Test.YteaapmfpojeibaaKraftWalks
import Derived.DeepKeys4
import Derived.WideKeyEntry
namespace Go.Proofs.Yteaapmfpojeibaa
open Go Go.RowKit Go.MapKept
open Go.ChangeMaps (setBlock heap_setBlock_other heap_setBlock_same)

def keyV (l : List Nat) : Value := .agg (u8s l).toArray
theorem u8s_inj {a b : List Nat} (h : u8s a = u8s b) : a = b := by
  induction a generalizing b with
  | nil => cases b with
    | nil => rfl
    | cons y b => simp [u8s] at h
  | cons x a ih => cases b with
    | nil => simp [u8s] at h
    | cons y b =>
      simp only [u8s, List.map_cons, List.cons.injEq, Value.int.injEq, true_and, Int.natCast_inj] at h
      rw [h.1, ih h.2]
theorem keyV_inj {a b : List Nat} (h : keyV a = keyV b) : a = b := u8s_inj (by simpa [keyV] using h)
def addKey (ls : List (List Nat)) (l : List Nat) : List (List Nat) := if l ∈ ls then ls else ls ++ [l]
theorem addKey_again (ls : List (List Nat)) (l : List Nat) : addKey (addKey ls l) l = addKey ls l := by
  unfold addKey; split
  · rfl
  · simp

/-- Block b is a map whose keys are ls, in this order; the elements are ints. -/
def MapB (w : World) (b : Nat) (ls : List (List Nat)) : Prop :=
  ∃ es clock, w.heap[b]? = some (.map es clock) ∧ Stamped es clock ∧ (∀ x ∈ es.toList, ∃ c, x.val = .int .i64 c) ∧ es.toList.map (·.key) = ls.map keyV
/-- .. and one entry bears the stamp st. -/
def MapE (w : World) (b : Nat) (ls : List (List Nat)) (st : Nat) : Prop :=
  ∃ es clock, w.heap[b]? = some (.map es clock) ∧ Stamped es clock ∧ (∀ x ∈ es.toList, ∃ c, x.val = .int .i64 c) ∧ es.toList.map (·.key) = ls.map keyV ∧ ∃ e ∈ es.toList, e.born = st
theorem MapE.toB {w : World} {b : Nat} {ls : List (List Nat)} {st : Nat} (h : MapE w b ls st) : MapB w b ls := by
  obtain ⟨es, c, h1, h2, h3, h4, _⟩ := h; exact ⟨es, c, h1, h2, h3, h4⟩
theorem MapB.lt {w : World} {b : Nat} {ls : List (List Nat)} (h : MapB w b ls) : b < w.heap.size := by
  obtain ⟨es, c, h1, _⟩ := h; exact (Array.getElem?_eq_some_iff.1 h1).1
theorem MapB.of_heap {w w' : World} {b : Nat} {ls : List (List Nat)} (h : MapB w b ls) (e : w'.heap[b]? = w.heap[b]?) : MapB w' b ls := by
  obtain ⟨es, c, h1, r⟩ := h; exact ⟨es, c, e.trans h1, r⟩
theorem MapB.new (w : World) : MapB (w.alloc (.map #[] 0)) w.heap.size [] := ⟨#[], 0, heap_alloc_new w _, stamped_empty 0, by simp, rfl⟩

section
variable {P : Program} {k t e : TypeId}
/-- What the laws ask of the map's type. -/
structure MapTy (P : Program) (k t e : TypeId) : Prop where
  law : WideMaps.KeyLaw P k
  ht : P.underlying t = some (.map k e)
  hz : ∀ u, (zeroValue e).run P u = .ok (.int .i64 0) u
def Keyed' (P : Program) (k : TypeId) (l : List Nat) : Prop := ∃ kl, keyOf P k (keyV l) = some kl

theorem find_key (M : MapTy P k t e) (w : World) {es : Array MapEntry} {ls : List (List Nat)} (hk : es.toList.map (·.key) = ls.map keyV) (hls : ∀ l ∈ ls, Keyed' P k l) {l : List Nat} {kl : Lit} (hl : keyOf P k (keyV l) = some kl) :
    ((Instr.findKey k (keyV l) es.toList).run P w = .ok none w ∧ l ∉ ls) ∨ ∃ j e0, (Instr.findKey k (keyV l) es.toList).run P w = .ok (some (j, e0.val)) w ∧ es.toList[j]? = some e0 ∧ e0.key = keyV l ∧ l ∈ ls := by
  have hall : ∀ x ∈ es.toList, ∃ l, keyOf P k x.key = some l := by
    intro x hx
    have : x.key ∈ es.toList.map (·.key) := List.mem_map_of_mem hx
    rw [hk] at this
    obtain ⟨y, hy, he⟩ := List.mem_map.1 this
    obtain ⟨q, hq⟩ := hls y hy
    exact ⟨q, by rw [← he]; exact hq⟩
  rcases M.law.find w hl es.toList hall with ⟨h1, h2⟩ | ⟨j, e0, h1, h2, h3⟩
  · refine .inl ⟨h1, fun hm => ?_⟩
    have : keyV l ∈ es.toList.map (·.key) := by rw [hk]; exact List.mem_map_of_mem hm
    obtain ⟨x, hx, he⟩ := List.mem_map.1 this
    exact h2 x hx he
  · refine .inr ⟨j, e0, h1, h2, h3, ?_⟩
    have : e0.key ∈ es.toList.map (·.key) := List.mem_map_of_mem (List.mem_of_getElem? h2)
    rw [hk, h3] at this
    obtain ⟨x, hx, he⟩ := List.mem_map.1 this
    exact keyV_inj he ▸ hx

theorem run_look (M : MapTy P k t e) {w : World} {b : Nat} {ls : List (List Nat)} (h : MapB w b ls) (hls : ∀ l ∈ ls, Keyed' P k l) {l : List Nat} {kl : Lit} (hl : keyOf P k (keyV l) = some kl) :
    ∃ c, (Instr.lookup t (.map (some b)) (keyV l) false).run P w = .ok (.int .i64 c) w := by
  obtain ⟨es, clock, hb, hs, hv, hk⟩ := h
  rcases find_key M w hk hls hl with ⟨h1, _⟩ | ⟨j, e0, h1, h2, _, _⟩
  · exact ⟨0, by simp [Instr.lookup, run_underlying M.ht, MapKept.run_getObj_map hb, M.law.check w _ hl, h1, M.hz, Result.andThen]⟩
  · obtain ⟨c, hc⟩ := hv e0 (List.mem_of_getElem? h2)
    exact ⟨c, by simp [Instr.lookup, run_underlying M.ht, MapKept.run_getObj_map hb, M.law.check w _ hl, h1, hc, Result.andThen]⟩

theorem run_entry (M : MapTy P k t e) {w : World} {b : Nat} {ls : List (List Nat)} (h : MapB w b ls) (hls : ∀ l ∈ ls, Keyed' P k l) {l : List Nat} {kl : Lit} (hl : keyOf P k (keyV l) = some kl) :
    ∃ (c : Int) (st : Nat) (w' : World), (Instr.mapEntry t (.map (some b)) (keyV l)).run P w = .ok (.tuple #[.int .i64 c, goInt st]) w' ∧ MapE w' b (addKey ls l) st ∧ w.grownBy w' (some b) ∧ (l ∈ ls → w'.heap[b]? = w.heap[b]?) := by
  obtain ⟨es, clock, hb, hs, hv, hk⟩ := h
  obtain ⟨s1, s2, s3⟩ := (stamped_iff es clock).1 hs
  have hgr : ∀ o, w.grownBy (setBlock w b o) (some b) := fun o => ⟨rfl, rfl, rfl, by simp [setBlock], fun i _ hi => heap_setBlock_other hb _ (fun e => hi (by rw [e]))⟩
  rcases find_key M w hk hls hl with ⟨h1, h2⟩ | ⟨j, e0, h1, h2, h3, h4⟩
  · refine ⟨0, clock, setBlock w b (.map (es.push ⟨keyV l, .int .i64 0, clock⟩) (clock + 1)), ?_, ⟨_, _, heap_setBlock_same hb _, stamped_push hs (fun x hx he => h2 ?_), ?_, ?_, ⟨keyV l, .int .i64 0, clock⟩, by simp, rfl⟩, hgr _, fun h => absurd h h2⟩
    · simp [Instr.mapEntry, run_underlying M.ht, MapKept.run_getObj_map hb, M.law.check w _ hl, h1, M.hz, MapKept.run_setObj_map _ hb, Result.andThen, setBlock]
    · have : x.key ∈ es.toList.map (·.key) := List.mem_map_of_mem hx
      rw [hk, he] at this
      obtain ⟨y, hy, he⟩ := List.mem_map.1 this
      exact keyV_inj he ▸ hy
    · intro x hx
      rw [Array.toList_push, List.mem_append, List.mem_singleton] at hx
      rcases hx with hx | rfl
      · exact hv x hx
      · exact ⟨0, rfl⟩
    · rw [Array.toList_push, List.map_append, hk, addKey, if_neg h2, List.map_append]; rfl
  · obtain ⟨c, hc⟩ := hv e0 (List.mem_of_getElem? h2)
    have hj : es[j]? = some e0 := by simpa using h2
    have hsame : es.modify j (fun e => { e with key := keyV l }) = es := by
      apply Array.ext'
      rw [Array.toList_modify, ChangeMaps.modify_eq_set _ _ _ _ h2]
      have : ({ e0 with key := keyV l } : MapEntry) = e0 := by rw [← h3]
      rw [this]
      exact WideElems.set_self _ _ _ h2
    refine ⟨c, e0.born, setBlock w b (.map es clock), ?_, ⟨es, clock, heap_setBlock_same hb _, hs, hv, ?_, e0, List.mem_of_getElem? h2, rfl⟩, hgr _, fun _ => (heap_setBlock_same hb _).trans hb.symm⟩
    · simp [Instr.mapEntry, run_underlying M.ht, MapKept.run_getObj_map hb, M.law.check w _ hl, h1, hj, h3, M.law.stays w hl, hsame, MapKept.run_setObj_map _ hb, hc, Result.andThen, setBlock]
    · rw [hk, addKey, if_pos h4]

theorem run_entryStore {w : World} {b : Nat} {ls : List (List Nat)} {st : Nat} (h : MapE w b ls st) (v : Int) :
    ∃ w', (Instr.entryStore t (.map (some b)) (goInt st) (.int .i64 v)).run P w = .ok () w' ∧ MapE w' b ls st ∧ w.grownBy w' (some b) ∧ ∀ ls' st', MapE w b ls' st' → MapE w' b ls' st' := by
  obtain ⟨es, clock, hb, hs, hv, hk, e0, hm, hst⟩ := h
  obtain ⟨s1, s2, s3⟩ := (stamped_iff es clock).1 hs
  obtain ⟨j, hj, hje⟩ := List.getElem_of_mem hm
  have h2 : es.toList[j]? = some e0 := by rw [List.getElem?_eq_getElem hj, hje]
  have hidx : es.findIdx? (fun e => ((e.born : Nat) : Int) == ((st : Nat) : Int)) = some j := by
    rw [WideElems.findIdx_arr, ← hst]
    exact WideElems.findIdx_born s2 h2
  have key : ∀ ls' st', MapE w b ls' st' → MapE (setBlock w b (.map (es.modify j (fun e => { e with val := .int .i64 v })) clock)) b ls' st' := by
    rintro ls' st' ⟨es', clock', hb', hs', hv', hk', e1, hm1, hst1⟩
    rw [hb] at hb'
    obtain ⟨rfl, rfl⟩ : es = es' ∧ clock = clock' := by simpa using hb'
    refine ⟨_, _, heap_setBlock_same hb _, stamped_modify hs j _ (fun _ _ => rfl) (fun _ _ _ => rfl), ?_, ?_, ?_⟩
    · intro x hx
      rcases MapFrom.mem_modify hx with h | ⟨y, _, rfl⟩
      · exact hv x h
      · exact ⟨v, rfl⟩
    · rw [modify_keys j (fun e => { e with val := .int .i64 v }) (fun _ _ => rfl), hk']
    · have hbn : (es.modify j (fun e => { e with val := .int .i64 v })).toList.map (·.born) = es.toList.map (·.born) := by
        rw [Array.toList_modify, ChangeMaps.modify_eq_set _ _ _ _ h2, List.map_set]
        refine WideElems.set_self _ _ _ ?_
        rw [List.getElem?_map, h2]; rfl
      have : e1.born ∈ es.toList.map (·.born) := List.mem_map_of_mem hm1
      rw [← hbn] at this
      obtain ⟨y, hy, he⟩ := List.mem_map.1 this
      exact ⟨y, hy, he.trans hst1⟩
  refine ⟨setBlock w b (.map (es.modify j (fun e => { e with val := .int .i64 v })) clock), ?_, key _ _ ⟨es, clock, hb, hs, hv, hk, e0, hm, hst⟩, ⟨rfl, rfl, rfl, by simp [setBlock], fun i _ hi => heap_setBlock_other hb _ (fun e => hi (by rw [e]))⟩, key⟩
  simp [Instr.entryStore, MapKept.run_getObj_map hb, asInt, asIntOf, goInt, hidx, MapKept.run_setObj_map _ hb, Result.andThen, setBlock]
end

theorem map_len {P : Program} {t k e : TypeId} {w : World} {b : Nat} {ls : List (List Nat)} (h : MapB w b ls) (ht : P.underlying t = some (.map k e)) (ty : TypeId) :
    (Builtin.len_ #[t] ty #[.map (some b)]).run P w = .ok (.int .i64 (ls.length : Nat)) w := by
  obtain ⟨es, clock, hb, _, _, hk⟩ := h
  have : es.size = ls.length := by
    have := congrArg List.length hk
    simpa using this
  simp [Builtin.len_, run_underlying ht, MapKept.run_getObj_map hb, goInt, Result.andThen, this]

/-! ### this program's map -/
theorem laidOut : laidOutB Try.prog = true := by kernel_rfl
theorem rowLens : (45 : TypeId) < Try.prog.types.size := of_decide_eq_true (by kernel_rfl)
theorem keyTy : Try.prog.keyTypeAt 2 45 = true := by kernel_rfl
theorem keyTy' : Try.prog.keyType 45 = true := by kernel_rfl
theorem cellsLens : Try.prog.cellsOf 45 = 258 := by kernel_rfl
theorem cellsU8 : Try.prog.cellsOf 5 = 1 := by kernel_rfl
theorem typesN : ∃ n, Try.prog.types.size + 1 = n + 2 := ⟨Try.prog.types.size - 1, by
  have : 0 < Try.prog.types.size := Nat.lt_of_le_of_lt (Nat.zero_le _) rowLens
  omega⟩
theorem mapTy : MapTy Try.prog 45 61 3 where
  law := deep_law_laid laidOut (m := 2) (by omega) rowLens keyTy (by kernel_rfl)
  ht := Try.underlying61
  hz := fun u => by kernel_rfl

theorem mapM_keys {P : Program} (e : TypeId) (n : Nat) (hu : P.underlying e = some (.int .u8)) (he : P.cellsOf e = 1) : ∀ (js : List Nat) (l : List Nat), (∀ j ∈ js, j < l.length) → (∀ b ∈ l, b < 256) →
    ∃ r, (js.mapM fun i => P.keyLits (n + 1) e (((u8s l).drop (i * P.cellsOf e)).take (P.cellsOf e))) = some r
  | [], l, _, _ => ⟨[], rfl⟩
  | j :: js, l, hj, h8 => by
    obtain ⟨r, hr⟩ := mapM_keys e n hu he js l (fun i hi => hj i (List.mem_cons_of_mem _ hi)) h8
    have hjl : j < l.length := hj j (List.mem_cons_self ..)
    have h1 : ((u8s l).drop (j * P.cellsOf e)).take (P.cellsOf e) = [.int .u8 (l[j] : Int)] := by
      rw [he, Nat.mul_one]
      have : j < (u8s l).length := by rw [u8s_length]; exact hjl
      rw [List.drop_eq_getElem_cons this, List.take_succ_cons, List.take_zero]
      simp [u8s]
    have hb : l[j] < 256 := h8 _ (List.getElem_mem hjl)
    have hw : (Lit.int .u8 (l[j] : Int)).wf = true := WalkArith.wf_u8 (by omega)
    refine ⟨[.int .u8 (l[j] : Int)] :: r, ?_⟩
    rw [List.mapM_cons, h1, hr]
    simp [Program.keyLits, hu, hw]
theorem keyed_lens {l : List Nat} (hl : l.length = 258) (h8 : ∀ b ∈ l, b < 256) : Keyed' Try.prog 45 l := by
  obtain ⟨n, hn⟩ := typesN
  obtain ⟨r, hr⟩ := mapM_keys (P := Try.prog) 5 n Try.underlying5 cellsU8 (List.range 258) l (fun j hj => by rw [hl]; exact List.mem_range.1 hj) h8
  unfold Keyed' keyOf
  rw [Try.underlying45]
  simp only [keyTy', Bool.true_and]
  rw [if_pos (by simp [keyV, Value.formed, Try.underlying45, cellsLens, u8s, hl]), hn]
  unfold Program.keyLits
  rw [Try.underlying45]
  simp only [keyV, Value.cells, cellsLens, u8s_length, hl, if_true, hr]
  exact ⟨_, rfl⟩
end Go.Proofs.Yteaapmfpojeibaa
