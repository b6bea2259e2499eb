/-
  ARGUMENTS that are rows with byte strings in them: the rows' own block. Conditions: none.
-/
import Derived.Test.YtfefeikkjebfoaaRaG
set_option linter.all false
namespace Go.Proofs.Ytfefeikkjebfoaa
namespace AM
open Go Go.RowKit Go.ChangeShapes Go.WideShapes Go.ChangeAt Go.Deep ArA
section
variable {P : Program} {W : World} {H : Type} {enc : TypeId × Value → H}
def mkAD (K : Nat) (d : RD) (w : Value) : AD := ⟨d.dn, d.n, d.s, d.z, d.v, if d.q.b = [] ∧ d.q.ad ≠ none then .slice (some ⟨K, 1, some 0⟩) 0 0 else w, d.q.b⟩
theorem Rd.relC {hp : List Blk} {L : Nat} {X : Emb} {w u : Value} {l : List Nat} (R : Rd ⟨hp, L, [], []⟩ w l) (h : relV X w u) : AM.relC X w u := by
  rcases R.form with ⟨rfl, _⟩ | ⟨b, o, g, e, pl, cs, rfl, _⟩
  · exact h
  · exact h
theorem Argd.deeds {bs : List Blk} {X : Emb} {args vs : List Value} (A : Argd W bs X args vs) {ad : Option Addr} {ls : List RD} {cap : Nat} (ha : At W ad (ls.map rrow).flatten) (hg : ∀ q ∈ ls, (rrow q).length = 6 ∧ RDok W q) (hc : ls.length ≤ cap) (hd : cap ≤ maxLen) (h0 : ad = none → ls.length = 0 ∧ cap = 0) (hs : ∀ a, ad = some a → a.spot = none ∧ a.block < W.heap.size) :
    ∃ X' bs' v' ds, Argd W (bs ++ bs') X' (args ++ [v']) (vs ++ [.slice ad ls.length cap]) ∧ R6 ⟨bs ++ bs', (bs ++ bs').length, [], []⟩ v' ds ∧ (∀ d ∈ ds, ADok d) ∧ ds.length = ls.length := by
  cases ad with
  | none =>
    obtain ⟨e1, rfl⟩ := h0 rfl
    have : ls = [] := List.eq_nil_of_length_eq_zero e1
    subst this
    refine ⟨X, [], .slice none 0 0, [], ?_, ⟨.inl ⟨rfl, rfl⟩, fun d hd => by simp at hd⟩, fun d hd => by simp at hd, rfl⟩
    have := A.sc (v := .slice none 0 0) rfl
    simpa using this
  | some a =>
    obtain ⟨hsp, hbk⟩ := hs a rfl
    obtain ⟨ab, ao, asp⟩ := a
    simp only at hsp hbk
    subst hsp
    obtain ⟨X1, bs1, ws, us, A1, l1, l2, h1⟩ := Argd.strings (ls.map (·.q)) A (fun q hq => by
      obtain ⟨d, hd, rfl⟩ := List.mem_map.1 hq
      exact (hg d hd).2.q)
    rw [List.length_map] at l1 l2
    obtain ⟨ds, hdl, hget, hla⟩ : ∃ ds : List AD, ds.length = ls.length ∧ (∀ (i : Nat) (hi : i < ls.length), ds[i]? = some (mkAD (bs ++ bs1).length ls[i] (ws[i]'(by omega)))) ∧ ∀ l ∈ ds.map arow, l.length = 6 :=
      ⟨List.zipWith (mkAD (bs ++ bs1).length) ls ws, by simp [l1], fun i hi => by
        rw [List.getElem?_zipWith, List.getElem?_eq_getElem hi, List.getElem?_eq_getElem (by omega)], fun l hl => by
        obtain ⟨q, hq, rfl⟩ := List.mem_map.1 hl; rfl⟩
    have hstr : ∀ (i : Nat) (hi : i < ls.length), (ls[i].q.b = [] ∧ ls[i].q.ad ≠ none) ∨ (us[i]'(by omega) = ls[i].q.val ∧ Rd ⟨bs ++ bs1, (bs ++ bs1).length, [], []⟩ (ws[i]'(by omega)) ls[i].q.b) := fun i hi =>
      h1 i ls[i].q _ _ (by rw [List.getElem?_map, List.getElem?_eq_getElem hi]; rfl) (List.getElem?_eq_getElem (by omega)) (List.getElem?_eq_getElem (by omega))
    have hlr : ∀ l ∈ ls.map rrow, l.length = 6 := fun l hl => by
      obtain ⟨q, hq, rfl⟩ := List.mem_map.1 hl; rfl
    have hcl : (ds.map arow).flatten.length = (ls.map rrow).flatten.length := by rw [flat_len hla, flat_len hlr, List.length_map, List.length_map, hdl]
    obtain ⟨X2, A2⟩ := Argd.block A1 A.rel.1 (n := ls.length) (cap := cap) (cs := (ds.map arow).flatten) hcl ha hbk hc hd (fun X' ev hnew j v u hv hu => by
      have hj := (List.getElem?_eq_some_iff.1 hu).1
      rw [flat_len hlr, List.length_map] at hj
      have hi : j / 6 < ls.length := by omega
      have e : j = j / 6 * 6 + j % 6 := by omega
      rw [e, flat_get hla _ _ (Nat.mod_lt _ (by omega)), List.getElem?_map, hget _ hi] at hv
      rw [e, flat_get hlr _ _ (Nat.mod_lt _ (by omega)), List.getElem?_map, List.getElem?_eq_getElem hi] at hu
      simp only [Option.map_some, Option.bind_some] at hv hu
      rcases (by omega : j % 6 = 0 ∨ j % 6 = 1 ∨ j % 6 = 2 ∨ j % 6 = 3 ∨ j % 6 = 4 ∨ j % 6 = 5) with hk | hk | hk | hk | hk | hk <;> rw [hk] at hv hu
      · cases hv; cases hu; exact (relC_sc rfl).2 rfl
      · cases hv; cases hu; exact (relC_sc rfl).2 rfl
      · cases hv; cases hu; exact (relC_sc rfl).2 rfl
      · cases hv; cases hu; exact (relC_sc rfl).2 rfl
      · cases hv; cases hu; exact (relC_sc rfl).2 rfl
      · simp only [arow, rrow, mkAD, List.getElem?_cons_succ, List.getElem?_cons_zero, Option.some.injEq] at hv hu
        subst hv hu
        have hq := (hg ls[j / 6] (List.getElem_mem hi)).2.q
        by_cases he : ls[j / 6].q.b = [] ∧ ls[j / 6].q.ad ≠ none
        · rw [if_pos he]
          unfold RB.val
          cases had : ls[j / 6].q.ad with
          | none => exact absurd had he.2
          | some a' =>
            rw [he.1]
            exact ⟨a', _, rfl, Nat.zero_le _, hq.cap, _, hnew, 0, rfl, Nat.le_refl _, fun _ => ⟨fun h => by simp at h, fun h => by omega⟩⟩
        · rw [if_neg he]
          rcases hstr _ hi with h2 | ⟨h2, h3⟩
          · exact absurd h2 he
          · refine (Rd.relC h3 ?_).evo ev
            rw [← h2]
            have hA := A1.rel.2 (args.length + j / 6) (ws[j / 6]'(by omega)) (us[j / 6]'(by omega)) (by rw [List.getElem?_append_right (by omega), Nat.add_sub_cancel_left, List.getElem?_eq_getElem]) (by rw [A.rel.1, List.getElem?_append_right (by omega), Nat.add_sub_cancel_left, List.getElem?_eq_getElem])
            exact hA)
    have hblk : (bs ++ bs1 ++ [Blk.cells 0 false (ds.map arow).flatten])[(bs ++ bs1).length]? = some (.cells 0 false (ds.map arow).flatten) := by simp
    refine ⟨X2, bs1 ++ [.cells 0 false (ds.map arow).flatten], .slice (some ⟨(bs ++ bs1).length, 0, some 0⟩) ls.length 0, ds, by rw [← List.append_assoc]; exact A2, ?_, ?_, hdl⟩
    · rw [← List.append_assoc]
      refine ⟨.inr ⟨_, false, by rw [hdl], rfl, hblk⟩, fun d hd => ?_⟩
      obtain ⟨i, hi, rfl⟩ := List.mem_iff_getElem.1 hd
      have hi' : i < ls.length := by omega
      have hgi := hget i hi'
      rw [List.getElem?_eq_getElem hi, Option.some.injEq] at hgi
      rw [hgi]
      show Rd _ (if ls[i].q.b = [] ∧ ls[i].q.ad ≠ none then _ else _) ls[i].q.b
      by_cases he : ls[i].q.b = [] ∧ ls[i].q.ad ≠ none
      · rw [if_pos he, he.1]
        refine ⟨By.nil, .inr ⟨_, 1, 0, 0, false, _, rfl, .inl rfl, rfl, hblk, ?_, ?_⟩⟩
        · rw [flat_len hla, List.length_map, hdl, List.length_nil]; omega
        · simp [u8s]
      · rw [if_neg he]
        rcases hstr _ hi' with h2 | ⟨_, h3⟩
        · exact absurd h2 he
        · exact h3.app
    · intro d hd
      obtain ⟨i, hi, rfl⟩ := List.mem_iff_getElem.1 hd
      have hi' : i < ls.length := by omega
      have hgi := hget i hi'
      rw [List.getElem?_eq_getElem hi, Option.some.injEq] at hgi
      rw [hgi]
      have hq := (hg ls[i] (List.getElem_mem hi')).2
      exact ⟨hq.v, hq.n0, hq.n1⟩
theorem open_deeds6 {t e ti tu tp tb te : TypeId} {f0 f1 f2 f3 f4 g0 g1 : Field} {r : Reach} {b0 : Nat} {v : Value} {d : DataW H} {ps : List MemPlace} {base : Nat} {spare : Nat → Bool} {held : Bool} (hsl : P.underlying t = some (.slice e)) (ht : P.underlying e = some (.struct #[f0, f1, f2, f3, f4])) (hi : P.underlying ti = some (.int .i64)) (hu : P.underlying tu = some (.int .u32)) (hp : P.underlying tp = some (.struct #[g0, g1])) (hb : P.underlying tb = some (.slice te)) (he : P.underlying te = some (.int .u8))
    (u0 : f0.type = ti ∧ f0.offset = 0) (u1 : f1.type = ti ∧ f1.offset = 1) (u2 : f2.type = tp ∧ f2.offset = 2) (u3 : f3.type = tu ∧ f3.offset = 4) (u4 : f4.type = tb ∧ f4.offset = 5) (w0 : g0.type = ti ∧ g0.offset = 0) (w1 : g1.type = ti ∧ g1.offset = 1)
    (ci : P.cellsOf ti = 1) (cu : P.cellsOf tu = 1) (cp : P.cellsOf tp = 2) (cb : P.cellsOf tb = 1) (ce : P.cellsOf te = 1) (hct : P.cellsOf e = 6)
    (hval : Value.okWide P W r b0 t v) (hd : DataW.Trod enc P W base spare held t v d ps) :
    ∃ (A : Option Addr) (ls : List RD) (cap : Nat), v = .slice A ls.length cap ∧ At W A (ls.map rrow).flatten ∧ (∀ q ∈ ls, (rrow q).length = 6 ∧ RDok W q) ∧ ls.length ≤ cap ∧ cap ≤ maxLen ∧ (A = none → ls.length = 0 ∧ cap = 0) ∧ (∀ a, A = some a → a.spot = none ∧ a.block < W.heap.size) :=
  open_rows hsl hct rrow (RDok W) (fun m cs x hx => trod_deed6 ht hi hu hp hb he u0 u1 u2 u3 u4 w0 w1 ci cu cp cb ce hct hx) hval hd
theorem len_small {a b c : Nat} (h : a = b) (h1 : b ≤ c) (h2 : c ≤ maxLen) : a ≤ 9223372036854775807 := by
  have : maxLen ≤ 9223372036854775807 := by decide
  omega
end
end AM
end Go.Proofs.Ytfefeikkjebfoaa
