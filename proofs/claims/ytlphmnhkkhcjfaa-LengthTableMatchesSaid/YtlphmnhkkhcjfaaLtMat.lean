/-
  LengthTableMatches: Valid, Step, Of, Put and Read return what the reference returns. Conditions: none.
-/
import Derived.Test.YtlphmnhkkhcjfaaLtJ
import Derived.Test.YtlphmnhkkhcjfaaARows
set_option linter.all false
namespace Go.Proofs.Ytlphmnhkkhcjfaa
namespace LtA
open Go Go.RowKit AM ArEnv Bt
theorem u8s_of : ∀ {l : List Value}, (∀ v ∈ l, ∃ n : Nat, v = .int .u8 (n : Int) ∧ n < 256) → ∃ ns : List Nat, l = u8s ns ∧ ∀ n ∈ ns, n < 256
  | [], _ => ⟨[], rfl, fun n h => by cases h⟩
  | v :: l, h => by
    obtain ⟨ns, h1, h2⟩ := u8s_of (l := l) fun w hw => h w (by simp [hw])
    obtain ⟨n, h3, h4⟩ := h v (by simp)
    refine ⟨n :: ns, by rw [h1, h3]; rfl, fun m hm => ?_⟩
    rcases List.mem_cons.1 hm with rfl | hm
    · exact h4
    · exact h2 m hm
theorem tsC_sc' (c : Ts) : ∀ v ∈ (tsC c).toArray.toList, AM.sc v = true := fun v hv => by
  have := tsC_sc c
  rw [List.all_eq_true] at this
  exact this v (by simpa using hv)
section
variable {P : Program} {H : Type} {enc : TypeId × Value → H} {W : World}
/-- A record of 258 bytes and four numbers. -/
theorem open_tstate {t t8 ti : TypeId} {fs : Array Field} {r : Reach} {b0 : Nat} {v : Value} {d : DataW H} {ps : List MemPlace} {base : Nat} {spare : Nat → Bool} {held : Bool} (ht : P.underlying t = some (.struct fs)) (hc : P.cellTypes P.depth t = some (List.replicate 258 t8 ++ [ti, ti, ti, ti])) (h8 : P.underlying t8 = some (.int .u8)) (hi : P.underlying ti = some (.int .i64)) (hn : P.cellsOf t = 262)
    (hval : Value.okWide P W r b0 t v) (_ : DataW.Trod enc P W base spare held t v d ps) :
    ∃ c : Ts, v = .agg (tsC c).toArray ∧ Gs c := by
  simp only [Value.okWide, ht] at hval
  obtain ⟨cs, rfl, hs, ts, hts, _, hcell⟩ := hval
  rw [hc] at hts
  have hts2 := Option.some.inj hts
  rw [hn] at hs
  have hTl : ts.length = 262 := by rw [← hts2, List.length_append, List.length_replicate]; rfl
  have eachI : ∀ i, 258 ≤ i → i < 262 → ∃ a : Int, cs[i]? = some (.int .i64 a) ∧ -9223372036854775808 ≤ a ∧ a ≤ 9223372036854775807 := fun i h1 h2 => by
    obtain ⟨u, hu, hk⟩ := hcell i cs[i] (Array.getElem?_eq_getElem (by omega))
    have hu2 : u = ti := by
      rw [hTl, Nat.mod_eq_of_lt h2, ← hts2, List.getElem?_append_right (by rw [List.length_replicate]; exact h1), List.length_replicate] at hu
      rcases (by omega : i = 258 ∨ i = 259 ∨ i = 260 ∨ i = 261) with rfl | rfl | rfl | rfl <;> exact (Option.some.inj hu).symm
    subst hu2
    obtain ⟨a, e, h3, h4⟩ := cell_i64 hi hk
    exact ⟨a, by rw [Array.getElem?_eq_getElem (by omega), e], h3, h4⟩
  have each8 : ∀ i, i < 258 → ∃ n : Nat, cs[i]? = some (.int .u8 (n : Int)) ∧ n < 256 := fun i h1 => by
    obtain ⟨u, hu, hk⟩ := hcell i cs[i] (Array.getElem?_eq_getElem (by omega))
    have hu2 : u = t8 := by
      rw [hTl, Nat.mod_eq_of_lt (by omega), ← hts2, List.getElem?_append_left (by rw [List.length_replicate]; exact h1), List.getElem?_replicate, if_pos h1] at hu
      exact (Option.some.inj hu).symm
    subst hu2
    obtain ⟨a, e, h3, h4⟩ := cell_int h8 hk
    have h3' : 0 ≤ a := by simpa [IntKind.min, IntKind.signed, IntKind.bits] using h3
    have h4' : a ≤ 255 := by simpa [IntKind.max, IntKind.signed, IntKind.bits] using h4
    exact ⟨a.toNat, by rw [Array.getElem?_eq_getElem (by omega), e, Int.toNat_of_nonneg h3'], by omega⟩
  obtain ⟨ns, hns, hb⟩ := u8s_of (l := cs.toList.take 258) fun v hv => by
    obtain ⟨i, hi2, rfl⟩ := List.mem_iff_getElem.1 hv
    have hi3 : i < 258 := by simp at hi2; omega
    obtain ⟨n, h1, h2⟩ := each8 i hi3
    refine ⟨n, ?_, h2⟩
    rw [List.getElem_take]
    have : cs.toList[i]? = some (.int .u8 (n : Int)) := by simpa using h1
    rw [List.getElem?_eq_getElem (by simp; omega)] at this
    exact Option.some.inj this
  have hnl : ns.length = 258 := by
    have := congrArg List.length hns
    rw [u8s_length, List.length_take] at this
    simp [hs] at this
    omega
  obtain ⟨a0, p0, l0, u0⟩ := eachI 258 (by omega) (by omega)
  obtain ⟨a1, p1, l1, u1⟩ := eachI 259 (by omega) (by omega)
  obtain ⟨a2, p2, l2, u2⟩ := eachI 260 (by omega) (by omega)
  obtain ⟨a3, p3, l3, u3⟩ := eachI 261 (by omega) (by omega)
  refine ⟨⟨ns, a0, a1, a2, a3⟩, ?_, ⟨hnl, hb, l0, u0, l1, u1, l2, u2, l3, u3⟩⟩
  congr 1
  apply Array.ext'
  have hd : cs.toList.drop 258 = [.int .i64 a0, .int .i64 a1, .int .i64 a2, .int .i64 a3] := by
    apply List.ext_getElem?
    intro j
    rw [List.getElem?_drop]
    rcases (by omega : j = 0 ∨ j = 1 ∨ j = 2 ∨ j = 3 ∨ 4 ≤ j) with rfl | rfl | rfl | rfl | h
    · simpa using p0
    · simpa using p1
    · simpa using p2
    · simpa using p3
    · rw [List.getElem?_eq_none (by simp [hs]; omega), List.getElem?_eq_none (by simpa using h)]
  have := List.take_append_drop 258 cs.toList
  rw [hns, hd] at this
  exact this.symm
end
theorem lmat_arg (c : Ts) (hG : Gs c) (bit : Int) (h0 : -9223372036854775808 ≤ bit) (h1 : bit ≤ 9223372036854775807) (x : List Nat) (hx : x.length = 258) (hx8 : ∀ b ∈ x, b < 256) (l : List Int) (v : Value) {bs bs' : List Blk} (h : (v = .slice none 0 0 ∧ l.length = 0 ∧ bs' = []) ∨ (v = .slice (some ⟨bs.length, 0, some 0⟩) l.length 0 ∧ bs' = [.cells 0 true (l.map (Value.int .i64))])) :
    ∃ σ', Lrun env (.func 6) [.agg (tsC c).toArray, .int .i64 bit, .agg (u8s x).toArray, v] ⟨bs ++ bs', (bs ++ bs').length, [], []⟩ = some (.bool true, σ') := by
  have R : RdI (bs ++ bs') [] v l := by
    rcases h with ⟨rfl, h, rfl⟩ | ⟨rfl, rfl⟩
    · exact .inl ⟨rfl, List.eq_nil_of_length_eq_zero h⟩
    · exact .inr ⟨_, _, _, _, _, _, rfl, rfl, get_new0 .., fun i hi => by simp [hi]⟩
  cases ht : kTable x with
  | false => exact lmat_false hG hx hx8 R ht
  | true => exact lmat_true hG hx hx8 R ht
end LtA
open Go Go.RowKit Go.ChangeShapes Go.WideShapes Go.ChangeAt Go.Deep AM LtA

theorem lengthTableMatches_reads : ∀ t ∈ Try.f6.params.toList, Try.prog.readableRec t = true ∧ t < Try.prog.types.size := by
  rw [Try.params6]
  simp only [List.forall_mem_cons, List.not_mem_nil, false_imp_iff, implies_true, and_true]
  exact ⟨⟨by kernel_rfl, by decide +kernel⟩, ⟨by kernel_rfl, by decide +kernel⟩, ⟨by kernel_rfl, by decide +kernel⟩, ⟨by kernel_rfl, by decide +kernel⟩⟩

set_option maxRecDepth 100000 in
theorem lengthTableMatches_lifted (os : Os) (started : os.Started) (H : Type) (enc : TypeId × Value → H) :
    ReturnsInHanded {} Try.checked os 6 .any (Rows.lengthTableMatchesSpec.pre6 enc Try.prog Try.f6 Rows.lengthTableMatchesRow.domain false) (Rows.lengthTableMatchesSpec.post enc Try.prog Try.f6 false true false false) := by
  refine returnsInHanded_of_change (C := Try.checked) own_knob started (by kernel_rfl) Try.func6
    (ChangeSpec.witness6 (enc := enc) (C := Try.checked) false ⟨#[], #[.agg (List.replicate 258 (Value.int .u8 0) ++ [Value.int .i64 0, Value.int .i64 0, Value.int .i64 0, Value.int .i64 0]).toArray, .int .i64 0, .agg (Array.replicate 258 (.int .u8 0)), .slice none 0 0], []⟩ 8 (by kernel_rfl) (by kernel_rfl) (by kernel_rfl) (by kernel_rfl)) ?_
  intro W base args ds gs before hval0 hW hcnd _
  have hval : ∀ (j : Nat) t v, Try.f6.params[j]? = some t → args[j]? = some v → Value.okWide Try.prog W .any base t v := hval0
  have hW' := hW
  obtain ⟨p, q, hA0, hV, rfl, hfz, hnd⟩ := hW
  have hA : DataW.TrodAll enc Try.prog W 0 (fun _ => true) true Try.f6.params.toList args.toList ds p := hA0
  rw [Try.params6] at hA hval
  obtain ⟨v0, vs0, d0, ds0, p0, q0, hargs, rfl, rfl, h0, r0⟩ := trodAll_cons hA
  obtain ⟨v1, vs1, d1, ds1, p1, q1, rfl, rfl, rfl, h1, r1⟩ := trodAll_cons r0
  obtain ⟨v2, vs2, d2, ds2, p2, q2, rfl, rfl, rfl, h2, r2⟩ := trodAll_cons r1
  obtain ⟨v3, vs3, d3, ds3, p3, q3, rfl, rfl, rfl, h3, r3⟩ := trodAll_cons r2
  obtain ⟨rfl, rfl, rfl⟩ := trodAll_nil r3
  obtain rfl : args = #[v0, v1, v2, v3] := by cases args; simp_all
  obtain ⟨rfl, rfl⟩ := trodVars_none hV
  have A0 := Argd.nil W
  obtain ⟨x0, rfl, y0⟩ := open_tstate Try.underlying33 (by kernel_rfl) Try.underlying5 Try.underlying3 (by kernel_rfl) (hval 0 33 v0 rfl rfl) h0
  have A1 := A0.agg (cs := (tsC x0).toArray) (by first | (simp [AM.sc]; done) | (simp [AM.sc, u8s]; done) | (simp [AM.sc, i64s]; done) | exact tsC_sc' _)
  obtain ⟨x1, rfl, hx1, hy1⟩ := open_i64 Try.underlying3 (hval 1 3 v1 rfl rfl) h1
  have A2 := A1.sc (v := .int .i64 x1) rfl
  obtain ⟨x2, rfl, y2, z2⟩ := open_arr8 Try.underlying23 Try.underlying5 (by kernel_rfl) (by kernel_rfl) (hval 2 23 v2 rfl rfl) h2
  have A3 := A2.agg (cs := (u8s x2).toArray) (by first | (simp [AM.sc]; done) | (simp [AM.sc, u8s]; done) | (simp [AM.sc, i64s]; done) | exact tsC_sc' _)
  obtain ⟨B3, l3, c3, rfl, ha3, hc3, hd3, he3, hf3⟩ := open_introws Try.underlying24 Try.underlying3 (by kernel_rfl) (hval 3 24 v3 rfl rfl) h3
  obtain ⟨X3, bs3, w3, A4, R3⟩ := A3.cells ha3 (ints_sc .i64 l3) hc3 hd3 he3 hf3
  refine (law_run ArEnv.env_or ArEnv.mixed A4 (lmat_arg x0 y0 x1 hx1 hy1 x2 y2 z2 l3 w3 R3)).mono fun e W' ⟨he, hb⟩ => ⟨_, he, ?_⟩
  exact law_post (tb := 4) hW' laid_out lengthTableMatches_reads rfl rfl Try.underlying4 rfl hb

/-- **THE STATEMENT.** -/
theorem lengthTableMatches_holds : Rows.LengthTableMatchesSaid :=
  OpenClaim.holds_of_wide 6 Try.f6 rfl rfl rfl rfl rfl rfl rfl ⟨rfl, rfl, rfl, rfl, rfl⟩ rfl rfl rfl rfl rfl (by kernel_rfl) Try.func6 (by kernel_rfl)
    (of_decide_eq_true (by kernel_rfl)) (by unfold Func.isWrapper; rw [if_neg (of_decide_eq_false (by kernel_rfl))]; exact ⟨rfl, rfl⟩)
    (fun os started H enc _ => lengthTableMatches_lifted os started H enc)

end Go.Proofs.Ytlphmnhkkhcjfaa
