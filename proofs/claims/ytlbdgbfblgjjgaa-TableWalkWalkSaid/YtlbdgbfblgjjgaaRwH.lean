/-
  RankWalkRight: Valid reports exactly whether the column and the index are right, and the walk over others returns at most m bytes and stops at the index: the run. Conditions: none.
-/
import Derived.Test.YtlbdgbfblgjjgaaRwG
import Derived.Test.YtlbdgbfblgjjgaaBk17b
set_option linter.all false
namespace Go.Proofs.Ytlbdgbfblgjjgaa
namespace ArA
open Go Go.RowKit AM ArEnv
section
variable {L : Nat} {H : List Nat} {r q w : Nat} {A : Arn} {s t z kk ix : Nat} {x : List Nat}
def wB (r s t z ix kk : Nat) (x : List Nat) (row told steps : Nat) : Blk := .cells 0 false (wkC r s x.length t z ix kk x 256 row told steps)
theorem wB_next {hq : List Blk} {d : List Nat} (hF : Fit hq.length L H) (k : WkOk hq.length r q w L H A s t z kk ix x) {row told steps : Nat} (ht : told < x.length) (hs : steps ≤ 1099511627776) (hp1 : row ≤ x.length) (hne : row ≠ ix) (hx : atR ix row < x.length) :
    Lrun env (.func 37) [wkP w] ⟨put (hq.set w (wB r s t z ix kk x row told steps)) r q A, L, H, d⟩ = some (.tuple #[.int .u8 (x[atR ix row] : Nat), .bool true], ⟨put (hq.set w (wB r s t z ix kk x (nxR x ix row) (told + 1) (steps + 1 + atR ix row % kk))) r q A, L, H, d⟩) := by
  have h := rnext_walk (d := d) (hp := hq.set w (wB r s t z ix kk x row told steps)) (L := L) (H := H) (r := r) (q := q) (w := w) (A := A) (s := s) (t := t) (z := z) (kk := kk) (ix := ix) (x := x) (row := row) (told := told) (steps := steps) (by rw [List.length_set]; exact hF) (by rw [List.length_set]; exact k) (List.getElem?_set_self k.wn) ht hs hp1 hne hx
  rw [List.set_set] at h
  exact h
theorem wB_done {hq : List Blk} {d : List Nat} (hF : Fit hq.length L H) (k : WkOk hq.length r q w L H A s t z kk ix x) {row told steps : Nat} (h : told = x.length ∨ row = ix) :
    Lrun env (.func 37) [wkP w] ⟨put (hq.set w (wB r s t z ix kk x row told steps)) r q A, L, H, d⟩ = some (.tuple #[.int .u8 0, .bool false], ⟨put (hq.set w (wB r s t z ix kk x row told steps)) r q A, L, H, d⟩) := by
  by_cases h1 : told = x.length
  · subst h1
    exact rnext_done (d := d) (hp := hq.set w (wB r s t z ix kk x row x.length steps)) (L := L) (H := H) (r := r) (q := q) (w := w) (A := A) (s := s) (t := t) (z := z) (kk := kk) (ix := ix) (x := x) (row := row) (steps := steps) (by rw [List.length_set]; exact hF) (by rw [List.length_set]; exact k) (List.getElem?_set_self k.wn)
  · obtain rfl : row = ix := by rcases h with h | h; exact absurd h h1; exact h
    exact rnext_end (d := d) (hp := hq.set w (wB r s t z row kk x row told steps)) (L := L) (H := H) (r := r) (q := q) (w := w) (A := A) (s := s) (t := t) (z := z) (kk := kk) (x := x) (told := told) (steps := steps) (by rw [List.length_set]; exact hF) (by rw [List.length_set]; exact k) (List.getElem?_set_self k.wn) h1
theorem wB_told {hq : List Blk} {d : List Nat} (hF : Fit hq.length L H) (k : WkOk hq.length r q w L H A s t z kk ix x) {row told steps : Nat} :
    Lrun env (.func 38) [wkP w] ⟨put (hq.set w (wB r s t z ix kk x row told steps)) r q A, L, H, d⟩ = some (.int .i64 told, ⟨put (hq.set w (wB r s t z ix kk x row told steps)) r q A, L, H, d⟩) :=
  rtold_walk (d := d) (hp := hq.set w (wB r s t z ix kk x row told steps)) (by rw [List.length_set]; exact hF) (by rw [List.length_set]; exact k) (List.getElem?_set_self k.wn)
theorem wB_steps {hq : List Blk} {d : List Nat} (hF : Fit hq.length L H) (k : WkOk hq.length r q w L H A s t z kk ix x) {row told steps : Nat} :
    Lrun env (.func 36) [wkP w] ⟨put (hq.set w (wB r s t z ix kk x row told steps)) r q A, L, H, d⟩ = some (.int .i64 steps, ⟨put (hq.set w (wB r s t z ix kk x row told steps)) r q A, L, H, d⟩) :=
  rsteps_walk (d := d) (hp := hq.set w (wB r s t z ix kk x row told steps)) (by rw [List.length_set]; exact hF) (by rw [List.length_set]; exact k) (List.getElem?_set_self k.wn)
theorem wB_valid {hq : List Blk} {d : List Nat} (hF : Fit hq.length L H) (k : WkOk hq.length r q w L H A s t z kk ix x) (hk : kk ≤ 65536) {row told steps : Nat} (hs : steps + x.length * 65536 ≤ 1099511627776) :
    Lrun env (.func 35) [wkP w] ⟨put (hq.set w (wB r s t z ix kk x row told steps)) r q A, L, H, d⟩ = some (.bool (decide ((vw (fun _ => 0) x ix x.length 0 0).1 = some ix)), ⟨put (hq.set w (wB r s t z ix kk x row told (vw (fun a => a % kk) x ix x.length 0 steps).2)) r q A, L, H, d⟩) := by
  have h := rwvalid_walk (d := d) (hp := hq.set w (wB r s t z ix kk x row told steps)) (L := L) (H := H) (r := r) (q := q) (w := w) (A := A) (s := s) (t := t) (z := z) (kk := kk) (ix := ix) (x := x) (r0 := row) (told := told) (steps := steps) (by rw [List.length_set]; exact hF) (by rw [List.length_set]; exact k) (List.getElem?_set_self k.wn) hk hs
  rw [List.set_set, vw_fst (g := fun _ => 0) (st' := 0)] at h
  exact h
end
/-- A walk is made in the law's arena. -/
theorem made21 {hp : List Blk} {x : List Nat} (hb : By x) (hx1 : 1 ≤ x.length) (hx : x.length ≤ 100) {kk sz ix : Nat} (hk : 1 ≤ kk ∧ kk ≤ 100) (hsz : 4 * (256 * (x.length / kk)) = sz) (hix : 1 ≤ ix ∧ ix ≤ x.length) (L : Nat) (hL : L ≤ hp.length) (d0 : List Blk) (hd0 : d0.length = 2) : ∃ B,
    (∀ d, Lrun env (.func 34) [arP hp.length, .agg #[.int .i64 0, .int .i64 x.length], .int .i64 ix, .agg #[.int .i64 x.length, .int .i64 sz], .int .i64 kk] ⟨put (hp ++ [default, default] ++ d0) hp.length (hp.length + 1) (rl x sz), L, [], d⟩ =
      some (.tuple #[.pointer (some ⟨hp.length + 4, 0, some 0⟩), .int .i64 0], ⟨put (hp ++ [default, default] ++ d0 ++ [wB hp.length 0 x.length sz ix kk x 0 0 0]) hp.length (hp.length + 1) B, L, [], d⟩)) ∧
    WkOk (hp.length + 5) hp.length (hp.length + 1) (hp.length + 4) L [] B 0 x.length sz kk ix x := by
  have hdv : x.length / kk ≤ x.length := Nat.div_le_self _ _
  have hsz2 := rSize_nat (m := x.length) (k := kk) (by omega) (by omega)
  rw [hsz] at hsz2
  have k0 : ArOk (hp.length + 2) hp.length (hp.length + 1) [] (rl x sz) := rl_ok (by omega) (by omega) (by omega) rfl rfl hb (by omega)
  have hv0 : rValid (rl x sz) (0 : Nat) x.length x.length sz kk = true := rl_valid (by omega) (by omega) (by omega) hsz2
  have hlen : (hp ++ [default, default] ++ d0).length = hp.length + 4 := by simp [hd0]
  obtain ⟨B, n1, m1, rk1, h1, k1⟩ := rnew_walk (ix := ix) (hp := hp ++ [default, default] ++ d0) (L := L) (H := []) (r := hp.length) (q := hp.length + 1) ⟨by omega, Low.nil _⟩ (k0.mono (by omega)) (by omega) (rl_holds x sz) hv0 hix
  have v1 : rValid B (0 : Nat) x.length x.length sz kk = true := by rw [rValid_live m1.live]; exact hv0
  simp only [hlen, Int.natCast_zero] at n1
  refine ⟨B, fun d => n1 d, ?_⟩
  exact ⟨(m1.ok k0).mono (by omega), h1, v1, by omega, by omega, rk1, by omega, by omega, by omega, by omega, rfl, by omega, hb⟩
end ArA
end Go.Proofs.Ytlbdgbfblgjjgaa
