/-
  THE BIT WRITER's laws: the loop that carries out the operations. Conditions: none.
-/
import Derived.Test.YtlphmnhkkhcjfaaBdB
set_option linter.all false
section
namespace Go.Proofs.Ytlphmnhkkhcjfaa
namespace Bt
open Go Go.RowKit AM ArEnv

/-- Where each operation's bits begin. -/
def froms (ds : List Dd) (i : Nat) : List Nat := (List.range i).map fun j => (aft ds j).length
theorem froms_length (ds : List Dd) (i : Nat) : (froms ds i).length = i := by simp [froms]
theorem froms_snoc (ds : List Dd) (i : Nat) : froms ds (i + 1) = froms ds i ++ [(aft ds i).length] := by simp [froms, List.range_succ]
theorem froms_get (ds : List Dd) (n : Nat) {i : Nat} (hi : i < n) : (is (froms ds n))[i]? = some (.int .i64 ((aft ds i).length : Nat)) := by simp [is, froms, hi]
def frst (q : List Blk) (a : Nat) (ds : List Dd) (i : Nat) : List Blk := if i = 0 then q else wset (q ++ [.cells i true (is (froms ds i))]) a (q.length + 1) (aft ds i)
theorem slI_froms (k : Nat) (ds : List Dd) {i : Nat} (h : i ≠ 0) : slI k (froms ds i) = .slice (some ⟨k, 0, some i⟩) i 1 := by unfold slI; rw [froms_length, if_neg h]
theorem append_one {L : Nat} {H d : List Nat} {hq : List Blk} {b i x : Nat} {l : List Nat} (hl : l.length = i) (hb : hq[b]? = some (.cells i true (is l))) (hL : L ≤ b) (hh : H.contains b = false) (hs : i ≤ 100000) :
    St.append ⟨hq, L, H, d⟩ true 1 (.slice (some ⟨b, 0, some i⟩) i 1) 1 [.int .i64 (x : Nat)] = some (.slice (some ⟨b, 0, some (i + 1)⟩) (i + 1) 1, ⟨hq.set b (.cells (i + 1) true (is (l ++ [x]))), L, H, d⟩) := by
  subst hl
  exact append_is (m := [x]) hb hL hh (by simp) (by simp; omega)
theorem append_new {L : Nat} {H d : List Nat} {hq : List Blk} {x : Nat} :
    St.append ⟨hq, L, H, d⟩ true 1 (.slice none 0 0) 1 [.int .i64 (x : Nat)] = some (.slice (some ⟨hq.length, 0, some 1⟩) 1 1, ⟨hq ++ [.cells 1 true (is [x])], L, H, d⟩) :=
  append_is0 (m := [x]) (by simp) (by simp)
section
variable {q P P2 P3 P4 : List Blk} {L : Nat} {H : List Nat} {a : Nat}
theorem Ws.app0 {hp : List Blk} (w : Ws hp L H a hp.length []) (hF : Fit hp.length L H) (nw : List Blk) : Ws (hp ++ nw) L H a (hp.length + nw.length) [] := by
  have := w.app hF nw
  rwa [if_pos (show ([] : List Nat).length = 0 from rfl)] at this
end
end Bt
end Go.Proofs.Ytlphmnhkkhcjfaa
end
