/-
  HEADERS: records of numbers as a law's arguments. Conditions: none.
-/
import Derived.Test.YtpjjkmfidghkjaaAArgs
set_option linter.all false
namespace Go.Proofs.Ytpjjkmfidghkjaa
namespace VarA
open Go Go.RowKit AM

section
variable {P : Program} {H : Type} {enc : TypeId × Value → H} {W : World}
def intsV (ks : List IntKind) (zs : List Int) : List Value := (ks.zip zs).map fun p => .int p.1 p.2
def toI : Value → Int
  | .int _ a => a
  | _ => 0
/-- A record of numbers, whatever their kinds. -/
theorem open_rec {t : TypeId} {fs : Array Field} {r : Reach} {b0 : Nat} {v : Value} {tys : List TypeId} {ks : List IntKind} (ht : P.underlying t = some (.struct fs)) (hc : P.cellTypes P.depth t = some tys) (hkl : ks.length = tys.length)
    (hk : ∀ (i : Nat) u k, tys[i]? = some u → ks[i]? = some k → P.underlying u = some (.int k)) (hn : P.cellsOf t = tys.length) (hval : Value.okWide P W r b0 t v) :
    ∃ zs : List Int, v = .agg (intsV ks zs).toArray ∧ zs.length = ks.length ∧ ∀ (i : Nat) k z, ks[i]? = some k → zs[i]? = some z → k.min ≤ z ∧ z ≤ k.max := by
  simp only [Value.okWide, ht] at hval
  obtain ⟨cs, rfl, hs, ts, hts, _, hcell⟩ := hval
  rw [hc] at hts
  have hts2 := Option.some.inj hts
  subst hts2
  rw [hn] at hs
  have each : ∀ (i : Nat) (k : IntKind), ks[i]? = some k → ∃ a : Int, cs[i]? = some (Value.int k a) ∧ k.min ≤ a ∧ a ≤ k.max := fun i k hik => by
    have hil : i < ks.length := (List.getElem?_eq_some_iff.1 hik).1
    have hilc : i < cs.size := by omega
    obtain ⟨u, hu, hku⟩ := hcell i cs[i] (Array.getElem?_eq_getElem hilc)
    rw [Nat.mod_eq_of_lt (by omega)] at hu
    obtain ⟨a, e, h1, h2⟩ := cell_int (hk i u k hu hik) hku
    exact ⟨a, by rw [Array.getElem?_eq_getElem hilc, e], h1, h2⟩
  refine ⟨cs.toList.map toI, ?_, by simp; omega, fun i k z hik hz => ?_⟩
  · congr 1
    apply Array.ext'
    apply List.ext_getElem?
    intro i
    rcases Nat.lt_or_ge i ks.length with hi | hi
    · obtain ⟨a, h1, _, _⟩ := each i ks[i] (List.getElem?_eq_getElem hi)
      have h1' : cs.toList[i]? = some (Value.int ks[i] a) := by rw [Array.getElem?_toList]; exact h1
      simp only [intsV, List.getElem?_map, List.getElem?_zip_eq_some, h1']
      have : (ks.zip (cs.toList.map toI))[i]? = some (ks[i], a) := by
        rw [List.getElem?_zip_eq_some]
        exact ⟨List.getElem?_eq_getElem hi, by rw [List.getElem?_map, h1']; rfl⟩
      rw [this]; rfl
    · rw [List.getElem?_eq_none (by simp; omega), List.getElem?_eq_none (by simp [intsV]; omega)]
  · obtain ⟨a, h1, h2, h3⟩ := each i k hik
    have h1' : cs.toList[i]? = some (Value.int k a) := by rw [Array.getElem?_toList]; exact h1
    rw [List.getElem?_map, h1'] at hz
    simp only [Option.map_some, Option.some.injEq] at hz
    subst hz
    exact ⟨h2, h3⟩
theorem i64_b {z : Int} (h : IntKind.i64.min ≤ z ∧ z ≤ IntKind.i64.max) : -9223372036854775808 ≤ z ∧ z ≤ 9223372036854775807 :=
  ⟨by simpa [IntKind.min, IntKind.signed, IntKind.bits] using h.1, by simpa [IntKind.max, IntKind.signed, IntKind.bits] using h.2⟩
theorem u32_b {z : Int} (h : IntKind.u32.min ≤ z ∧ z ≤ IntKind.u32.max) : 0 ≤ z ∧ z < 4294967296 :=
  ⟨by simpa [IntKind.min, IntKind.signed, IntKind.bits] using h.1, by have := h.2; simp [IntKind.max, IntKind.signed, IntKind.bits] at this; omega⟩
variable {t ti tu : TypeId} {fs : Array Field} {r : Reach} {b0 : Nat} {v : Value} {d : DataW H} {ps : List MemPlace} {base : Nat} {spare : Nat → Bool} {held : Bool}
theorem open_hdr (ht : P.underlying t = some (.struct fs)) (hc : P.cellTypes P.depth t = some [ti]) (hi : P.underlying ti = some (.int .i64)) (hn : P.cellsOf t = 1) (hval : Value.okWide P W r b0 t v) (_ : DataW.Trod enc P W base spare held t v d ps) :
    ∃ a : Int, v = .agg #[.int .i64 a] ∧ (-9223372036854775808 ≤ a ∧ a ≤ 9223372036854775807) := by
  obtain ⟨zs, h1, h2, h3⟩ := open_rec (ks := [.i64]) ht hc rfl (fun i u k h1 h2 => by
    match i, h1, h2 with
    | 0, h1, h2 => cases h1; cases h2; exact hi
    | i + 1, h1, h2 => simp at h1) hn hval
  match zs, h1, h2, h3 with
  | [a], h1, _, h3 => exact ⟨a, h1, i64_b (h3 0 _ _ rfl rfl)⟩
theorem open_blk (ht : P.underlying t = some (.struct fs)) (hc : P.cellTypes P.depth t = some [ti, ti, tu]) (hi : P.underlying ti = some (.int .i64)) (hu : P.underlying tu = some (.int .u32)) (hn : P.cellsOf t = 3) (hval : Value.okWide P W r b0 t v) (_ : DataW.Trod enc P W base spare held t v d ps) :
    ∃ (a b : Int) (c : Nat), v = .agg #[.int .i64 a, .int .i64 b, .int .u32 c] ∧ c < 4294967296 := by
  obtain ⟨zs, h1, h2, h3⟩ := open_rec (ks := [.i64, .i64, .u32]) ht hc rfl (fun i u k h1 h2 => by
    match i, h1, h2 with
    | 0, h1, h2 => cases h1; cases h2; exact hi
    | 1, h1, h2 => cases h1; cases h2; exact hi
    | 2, h1, h2 => cases h1; cases h2; exact hu
    | i + 3, h1, h2 => simp at h1) hn hval
  match zs, h1, h2, h3 with
  | [a, b, c], h1, _, h3 =>
    have hb := u32_b (h3 2 _ _ rfl rfl)
    refine ⟨a, b, c.toNat, ?_, by omega⟩
    rw [Int.toNat_of_nonneg hb.1]
    exact h1
theorem open_hst (ht : P.underlying t = some (.struct fs)) (hc : P.cellTypes P.depth t = some [ti, ti, ti, ti]) (hi : P.underlying ti = some (.int .i64)) (hn : P.cellsOf t = 4) (hval : Value.okWide P W r b0 t v) (_ : DataW.Trod enc P W base spare held t v d ps) :
    ∃ a b c e : Int, v = .agg #[.int .i64 a, .int .i64 b, .int .i64 c, .int .i64 e] ∧ b ≤ 9223372036854775807 := by
  obtain ⟨zs, h1, h2, h3⟩ := open_rec (ks := [.i64, .i64, .i64, .i64]) ht hc rfl (fun i u k h1 h2 => by
    match i, h1, h2 with
    | 0, h1, h2 => cases h1; cases h2; exact hi
    | 1, h1, h2 => cases h1; cases h2; exact hi
    | 2, h1, h2 => cases h1; cases h2; exact hi
    | 3, h1, h2 => cases h1; cases h2; exact hi
    | i + 4, h1, h2 => simp at h1) hn hval
  match zs, h1, h2, h3 with
  | [a, b, c, e], h1, _, h3 => exact ⟨a, b, c, e, h1, (i64_b (h3 1 _ _ rfl rfl)).2⟩
theorem open_mst (ht : P.underlying t = some (.struct fs)) (hc : P.cellTypes P.depth t = some [ti, ti, ti, ti, ti, tu, ti]) (hi : P.underlying ti = some (.int .i64)) (hu : P.underlying tu = some (.int .u32)) (hn : P.cellsOf t = 7) (hval : Value.okWide P W r b0 t v) (_ : DataW.Trod enc P W base spare held t v d ps) :
    ∃ (a b c e f : Int) (g : Nat) (h : Int), v = .agg #[.int .i64 a, .int .i64 b, .int .i64 c, .int .i64 e, .int .i64 f, .int .u32 g, .int .i64 h] ∧ (b ≤ 9223372036854775807 ∧ g < 4294967296) := by
  obtain ⟨zs, h1, h2, h3⟩ := open_rec (ks := [.i64, .i64, .i64, .i64, .i64, .u32, .i64]) ht hc rfl (fun i u k h1 h2 => by
    match i, h1, h2 with
    | 0, h1, h2 => cases h1; cases h2; exact hi
    | 1, h1, h2 => cases h1; cases h2; exact hi
    | 2, h1, h2 => cases h1; cases h2; exact hi
    | 3, h1, h2 => cases h1; cases h2; exact hi
    | 4, h1, h2 => cases h1; cases h2; exact hi
    | 5, h1, h2 => cases h1; cases h2; exact hu
    | 6, h1, h2 => cases h1; cases h2; exact hi
    | i + 7, h1, h2 => simp at h1) hn hval
  match zs, h1, h2, h3 with
  | [a, b, c, e, f, g, h], h1, _, h3 =>
    have hb := u32_b (h3 5 _ _ rfl rfl)
    refine ⟨a, b, c, e, f, g.toNat, h, ?_, (i64_b (h3 1 _ _ rfl rfl)).2, by omega⟩
    rw [Int.toNat_of_nonneg hb.1]
    exact h1
end
end VarA
end Go.Proofs.Ytpjjkmfidghkjaa
