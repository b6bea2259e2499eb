/-
  LISTS OF NUMBERS in fresh blocks. Conditions: none.
-/
import Derived.Test.YtlphmnhkkhcjfaaASy
set_option linter.all false
namespace Go.Proofs.Ytlphmnhkkhcjfaa
namespace AM
open Go Go.RowKit
def i64n (l : List Nat) : List Value := l.map fun n : Nat => Value.int .i64 n
theorem i64n_len (l : List Nat) : (i64n l).length = l.length := by simp [i64n]
theorem i64n_cons (x : Nat) (l : List Nat) : i64n (x :: l) = .int .i64 x :: i64n l := rfl
theorem i64n_app (a b : List Nat) : i64n (a ++ b) = i64n a ++ i64n b := by simp [i64n]
theorem i64n_get {l : List Nat} {j : Nat} (h : j < l.length) : (i64n l)[j]? = some (.int .i64 (l[j] : Nat)) := by simp [i64n, h]
theorem i64n_cellv (l : List Nat) : (i64n l).all cellv = true := by
  rw [List.all_eq_true]; intro v hv; obtain ⟨x, _, rfl⟩ := List.mem_map.1 hv; rfl
theorem i64n_sc (l : List Nat) : (i64n l).all sc = true := by
  rw [List.all_eq_true]; intro v hv; obtain ⟨x, _, rfl⟩ := List.mem_map.1 hv; rfl
theorem i64n_take (l : List Nat) (k : Nat) : (i64n l).take k = i64n (l.take k) := by simp [i64n, List.map_take]
theorem i64n_drop (l : List Nat) (k : Nat) : (i64n l).drop k = i64n (l.drop k) := by simp [i64n, List.map_drop]
/-- A list of numbers: none, or one block that is the list's own. -/
def iv (b : Nat) (l : List Nat) : Value := if l = [] then .slice none 0 0 else .slice (some ⟨b, 0, some l.length⟩) l.length 1
def ib (l : List Nat) : List Blk := if l = [] then [] else [.cells l.length true (i64n l)]
theorem iv_nil (b : Nat) : iv b [] = .slice none 0 0 := rfl
theorem iv_cons (b x : Nat) (l : List Nat) : iv b (x :: l) = .slice (some ⟨b, 0, some (l.length + 1)⟩) (l.length + 1) 1 := by simp [iv]
theorem iv_ne {b : Nat} {l : List Nat} (h : l ≠ []) : iv b l = .slice (some ⟨b, 0, some l.length⟩) l.length 1 := if_neg h
theorem ib_nil : ib [] = [] := rfl
theorem ib_ne {l : List Nat} (h : l ≠ []) : ib l = [.cells l.length true (i64n l)] := if_neg h
theorem ib_cons (x : Nat) (l : List Nat) : ib (x :: l) = [.cells (l.length + 1) true (i64n (x :: l))] := by simp [ib]
/-- An append of cells to none. -/
theorem capp_nil {hp : List Blk} {L : Nat} {H d : List Nat} {vs : List Value} (h0 : vs ≠ []) (hs : vs.length ≤ 1048576) (h1 : vs.all cellv = true) (h2 : vs.all sc = true) :
    St.append ⟨hp, L, H, d⟩ true 1 (.slice none 0 0) vs.length vs = some (.slice (some ⟨hp.length, 0, some vs.length⟩) vs.length 1, ⟨hp ++ [.cells vs.length true vs], L, H, d⟩) := by
  have h3 : ¬ vs.length = 0 := fun h => h0 (List.eq_nil_of_length_eq_zero h)
  simp only [St.append]
  rw [if_neg h3, if_pos (by simp [small, h1, h2]; omega)]
  simp
/-- An append of cells to a whole block. -/
theorem capp_full {hp : List Blk} {L b : Nat} {H d : List Nat} {cs vs : List Value} (hb : hp[b]? = some (.cells cs.length true cs)) (hL : L ≤ b) (hh : H.contains b = false) (hs : cs.length + vs.length ≤ 1048576) (h1 : vs.all cellv = true) (h2 : vs.all sc = true) :
    St.append ⟨hp, L, H, d⟩ true 1 (.slice (some ⟨b, 0, some cs.length⟩) cs.length 1) vs.length vs =
      some (.slice (some ⟨b, 0, some (cs.length + vs.length)⟩) (cs.length + vs.length) 1, ⟨hp.set b (.cells (cs.length + vs.length) true (cs ++ vs)), L, H, d⟩) := by
  by_cases h0 : vs = []
  · subst h0
    simp only [St.append, List.length_nil, if_true, List.append_nil, Nat.add_zero]
    rw [set_same hb]
  · have h3 : ¬ vs.length = 0 := fun h => h0 (List.eq_nil_of_length_eq_zero h)
    have hk : St.blk ⟨hp, L, H, d⟩ ⟨b, 0, some cs.length⟩ = some (true, cs) := by unfold St.blk; simp only [hh, hb]; simp
    simp only [St.append]
    rw [if_neg h3, if_neg (by simp; omega), hk]
    simp only [Option.bind_some]
    rw [if_pos (by simp [h1, h2]), if_pos (by simp), if_pos (by simp [small]; omega)]
    simp only [addDirty, h2, Bool.true_or, if_true, Nat.mul_one]
theorem inews {σ : St} {b o m e g : Nat} {cs : List Value} {pl : Bool} (hh : σ.hid.contains b = false) (hb : σ.heap[b]? = some (.cells g pl cs)) (hl : o + m ≤ cs.length) : σ.news 1 (.slice (some ⟨b, o, some g⟩) m e) = some (m, (cs.drop o).take m) := by
  have : σ.blk ⟨b, o, some g⟩ = some (pl, cs) := by unfold St.blk; rw [hh, hb]; simp
  simp only [St.news, this, Option.bind_some, Nat.mul_one, if_pos hl]
end AM
end Go.Proofs.Ytlphmnhkkhcjfaa
