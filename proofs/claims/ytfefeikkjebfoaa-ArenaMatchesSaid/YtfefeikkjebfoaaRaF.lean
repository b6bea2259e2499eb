/-
  ARGUMENTS that are rows with byte strings in them. Conditions: none.
-/
import Derived.Test.YtfefeikkjebfoaaRaE
import Derived.Test.YtfefeikkjebfoaaAArgs
import Derived.Test.YtfefeikkjebfoaaARows
set_option linter.all false
namespace Go.Proofs.Ytfefeikkjebfoaa
namespace AM
open Go Go.RowKit Go.ChangeShapes Go.WideShapes Go.ChangeAt Go.Deep ArA
section
variable {P : Program} {W : World}
/-- One block more, whose cells are related to real ones; arguments may be dropped. -/
theorem Argd.block {bs : List Blk} {X : Emb} {args vs ws us : List Value} (A : Argd W bs X (args ++ ws) (vs ++ us)) (hlen : args.length = vs.length) {ab ao n cap : Nat} {cs cs' : List Value} (hl : cs.length = cs'.length) (ha : At W (some ⟨ab, ao, none⟩) cs') (hbk : ab < W.heap.size) (hc : n ≤ cap) (hd : cap ≤ maxLen)
    (hrel : ∀ X' : Emb, Evo X X' → X' bs.length = some ⟨ab, ao, false, 0, cs.length, cs.length⟩ → ∀ (j : Nat) (v u : Value), cs[j]? = some v → cs'[j]? = some u → relC X' v u) :
    ∃ X', Argd W (bs ++ [.cells 0 false cs]) X' (args ++ [.slice (some ⟨bs.length, 0, some 0⟩) n 0]) (vs ++ [.slice (some ⟨ab, ao, none⟩) n cap]) := by
  have S := A.sim
  let X' : Emb := ⟨fun id => if id = bs.length then some ⟨ab, ao, false, 0, cs.length, cs.length⟩ else X id, X.y⟩
  have ev : Evo X X' := Evo.mk' rfl fun id bx hx => by
    have hlt := S.dom id bx hx
    simp only at hlt
    exact ⟨bx, by simp only [X']; rw [if_neg (by omega)]; exact hx, .inl rfl⟩
  have hnew : X' bs.length = some ⟨ab, ao, false, 0, cs.length, cs.length⟩ := by simp [X']
  have hold : ∀ id bx, X' id = some bx → (id = bs.length ∧ bx = ⟨ab, ao, false, 0, cs.length, cs.length⟩) ∨ (id ≠ bs.length ∧ X id = some bx) := fun id bx h => by
    simp only [X'] at h
    split at h
    · rename_i e; exact .inl ⟨e, (by cases h; rfl)⟩
    · rename_i e; exact .inr ⟨e, h⟩
  have hpre : rel2 (relV X) args vs := ⟨hlen, fun i v u hv hu => by
    have h1 := (List.getElem?_eq_some_iff.1 hv).1
    have h2 := (List.getElem?_eq_some_iff.1 hu).1
    exact A.rel.2 i v u (by rw [List.getElem?_append_left h1]; exact hv) (by rw [List.getElem?_append_left h2]; exact hu)⟩
  refine ⟨X', ⟨⟨S.bel, fun id bx h => ?_, fun id bx h => ?_, fun id bx g pl cs2 h hh hcs => ?_, fun i j bi bj hi hj oi oj e => ?_, fun id bx h hl => ?_, fun id bx h h0 => by
    rcases hold id bx h with ⟨rfl, rfl⟩ | ⟨_, h⟩
    · exact h0
    · exact S.zero id bx h h0⟩, rel2.snoc (hpre.mono fun v _ u h => h.evo ev) ?_⟩⟩
  · rcases hold id bx h with ⟨rfl, _⟩ | ⟨_, h⟩
    · simp
    · have := S.dom id bx h
      simp only [List.length_append, List.length_cons, List.length_nil] at this ⊢; omega
  · rcases hold id bx h with ⟨rfl, rfl⟩ | ⟨_, h⟩
    · exact ⟨hbk, hbk⟩
    · exact S.place id bx h
  · rcases hold id bx h with ⟨rfl, rfl⟩ | ⟨hne, h⟩
    · simp only [List.getElem?_concat_length, Option.some.injEq, Blk.cells.injEq] at hcs
      obtain ⟨rfl, rfl, rfl⟩ := hcs
      refine ⟨rfl, rfl, Nat.zero_le _, fun h => (by cases h), fun j v hv => ?_, fun ho => (by cases ho)⟩
      have hj : j < cs'.length := by rw [← hl]; exact (List.getElem?_eq_some_iff.1 hv).1
      obtain ⟨ad', e1, e2⟩ := ha j cs'[j] (List.getElem?_eq_getElem hj)
      cases e1
      rw [add_lit] at e2
      exact ⟨_, e2, hrel X' ev hnew j v _ hv (List.getElem?_eq_getElem hj)⟩
    · have hlt := S.dom id bx h
      simp only at hlt
      have hcs' : bs[id]? = some (.cells g pl cs2) := by
        simp only at hcs
        rw [List.getElem?_append_left hlt] at hcs; exact hcs
      obtain ⟨a1, a2, a3, a4, a5, a6⟩ := S.cell id bx g pl cs2 h (by simp) hcs'
      exact ⟨a1, a2, a3, a4, fun j v hj => by obtain ⟨u, hu, hr⟩ := a5 j v hj; exact ⟨u, hu, hr.evo ev⟩, a6⟩
  · rcases hold i bi hi with ⟨rfl, rfl⟩ | ⟨_, hi⟩
    · cases oi
    · rcases hold j bj hj with ⟨rfl, rfl⟩ | ⟨_, hj⟩
      · cases oj
      · exact S.inj i j bi bj hi hj oi oj e
  · simp only [List.length_append, List.length_cons, List.length_nil] at hl
    rcases hold id bx h with ⟨rfl, rfl⟩ | ⟨_, h⟩
    · omega
    · have := S.dom id bx h
      simp only at this; omega
  · exact ⟨⟨ab, ao, none⟩, cap, rfl, hc, hd, _, hnew, 0, rfl, Nat.le_refl _, fun _ => ⟨fun _ => by simp, fun h => by omega⟩⟩
/-- A byte string as it lies in memory. -/
structure RB where
  ad : Option Addr
  b : List Nat
  cap : Nat
structure RBok (W : World) (q : RB) : Prop where
  mem : At W q.ad (u8s q.b)
  by_ : By q.b
  le : q.b.length ≤ q.cap
  cap : q.cap ≤ maxLen
  no : q.ad = none → q.b = [] ∧ q.cap = 0
  at_ : ∀ a, q.ad = some a → q.b ≠ [] → a.spot = none ∧ a.block < W.heap.size
def RB.val (q : RB) : Value := .slice q.ad q.b.length q.cap
/-- Each of the strings among the arguments, but for those that are empty and not nil. -/
theorem Argd.strings : ∀ (qs : List RB) {bs : List Blk} {X : Emb} {args vs : List Value}, Argd W bs X args vs → (∀ q ∈ qs, RBok W q) → ∃ X' bs' ws us, Argd W (bs ++ bs') X' (args ++ ws) (vs ++ us) ∧ ws.length = qs.length ∧ us.length = qs.length ∧
    ∀ (i : Nat) (q : RB) (w u : Value), qs[i]? = some q → ws[i]? = some w → us[i]? = some u → (q.b = [] ∧ q.ad ≠ none) ∨ (u = q.val ∧ Rd ⟨bs ++ bs', (bs ++ bs').length, [], []⟩ w q.b)
  | [], bs, X, args, vs, A, _ => ⟨X, [], [], [], by simpa using A, rfl, rfl, fun i q w u h => by simp at h⟩
  | q :: qs, bs, X, args, vs, A, hq => by
    have hk := hq q (List.mem_cons_self)
    have step : ∃ X1 bs1 w u, Argd W (bs ++ bs1) X1 (args ++ [w]) (vs ++ [u]) ∧ ((q.b = [] ∧ q.ad ≠ none) ∨ (u = q.val ∧ Rd ⟨bs ++ bs1, (bs ++ bs1).length, [], []⟩ w q.b)) := by
      by_cases he : q.b = [] ∧ q.ad ≠ none
      · refine ⟨X, [], .bool false, .bool false, ?_, .inl he⟩
        rw [List.append_nil]
        exact A.sc rfl
      · obtain ⟨X1, bs1, w, A1, R1⟩ := A.bytes hk.mem hk.by_ hk.le hk.cap hk.no (fun a ha => hk.at_ a ha fun h => he ⟨h, by rw [ha]; simp⟩)
        exact ⟨X1, bs1, w, q.val, A1, .inr ⟨rfl, R1⟩⟩
    obtain ⟨X1, bs1, w, u, A1, h1⟩ := step
    obtain ⟨X2, bs2, ws, us, A2, l1, l2, h2⟩ := Argd.strings qs A1 fun q' h => hq q' (List.mem_cons_of_mem _ h)
    refine ⟨X2, bs1 ++ bs2, w :: ws, u :: us, ?_, by simp [l1], by simp [l2], fun i q' w' u' hq' hw' hu' => ?_⟩
    · simpa [List.append_assoc] using A2
    · cases i with
      | zero =>
        simp only [List.getElem?_cons_zero, Option.some.injEq] at hq' hw' hu'
        subst hq' hw' hu'
        rcases h1 with h1 | ⟨h1, h3⟩
        · exact .inl h1
        · refine .inr ⟨h1, ?_⟩
          rw [← List.append_assoc]
          exact h3.app
      | succ i =>
        simp only [List.getElem?_cons_succ] at hq' hw' hu'
        rw [← List.append_assoc]
        exact h2 i q' w' u' hq' hw' hu'
end
end AM
end Go.Proofs.Ytfefeikkjebfoaa
