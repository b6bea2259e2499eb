/-
  FROM A LAW's CONTRACT TO ITS ROW: the call returns true and below the heap's end nothing has turned: then the row's post holds. And: arguments opened to lists of bytes. Conditions: none.
-/
import Derived.Test.YtpjjkmfidghkjaaRows
import Derived.Test.YtpjjkmfidghkjaaMem
import Derived.ProofKit
import Derived.Deep.Slices
import Derived.OpenShut
namespace Go.Proofs.Ytpjjkmfidghkjaa
open Go Go.RowKit Go.ChangeShapes Go.WideShapes Go.ChangeAt Go.Deep

theorem own_knob : ownKnob Try.prog.godebug = none := by kernel_rfl
theorem laid_out : laidOutB Try.prog = true := by kernel_rfl

section
variable {H : Type} {enc : TypeId × Value → H} {P : Program}

/-- Readings of a list of arguments stay where nothing below the heap's end has turned. -/
theorem all_stays (hl : laidOutB P = true) {W W' : World} (hb : Below W.heap.size W W') : ∀ {ts : List TypeId} {vs : List Value} {ds : List (DataW H)} {ps : List MemPlace},
    (∀ t ∈ ts, P.readableRec t = true ∧ t < P.types.size) → DataW.TrodAll enc P W 0 (fun _ => true) true ts vs ds ps → (∀ x ∈ ps, x.block < W.heap.size) →
    DataW.TrodAll enc P W' 0 (fun b => decide (b < W.heap.size)) true ts vs ds ps
  | [], vs, ds, ps, _, h, _ => by
    obtain ⟨rfl, rfl, rfl⟩ := trodAll_nil h
    exact trodAll_mk0
  | t :: ts, vs, ds, ps, hr, h, hlt => by
    obtain ⟨v, vs', d, ds', p, q, rfl, rfl, rfl, h1, h2⟩ := trodAll_cons h
    exact ⟨p, q, Below.trod hl (hr t (by simp)).1 (hr t (by simp)).2 h1 hb (fun x hx => hlt x (by simp [hx])), all_stays hl hb (fun t' ht' => hr t' (by simp [ht'])) h2 (fun x hx => hlt x (by simp [hx])), rfl⟩

/-- A law's post. -/
theorem law_post {f : Func} {s : ChangeSpec} {W W' : World} {args : Array Value} {ds gs : List (DataW H)} {before : List MemPlace} {tb : TypeId}
    (hW : DataW.Whole enc P f.params.toList s.vars false W args.toList ds gs before) (hl : laidOutB P = true) (hr : ∀ t ∈ f.params.toList, P.readableRec t = true ∧ t < P.types.size)
    (hv : s.vars = []) (ht : f.resultTypes = #[tb]) (hb0 : P.underlying tb = some .bool) (hf : s.fn H (ds ++ gs) = { results := [.lit (.bool true)], args := ds })
    (hb : Below W.heap.size W W') : s.post enc P f false true false false W args (.bool true) W' := by
  have hlt : ∀ p ∈ before, p.block < W.heap.size := fun p hp => hW.lt p hp
  have hW2 := hW
  obtain ⟨p, q, hA, hV, rfl, _, _⟩ := hW2
  rw [hv] at hV
  obtain ⟨rfl, rfl⟩ := trodVars_none hV
  refine ⟨ds, [], p ++ [], [], p, [], hW, ?_, ?_, ?_, ?_, fun h => by cases h⟩
  · rw [hf, ht]
    exact trodAll_mk1 (shut_bool hb0 true)
  · rw [hf]
    exact all_stays hl hb hr hA (fun x hx => hlt x (by simp [hx]))
  · rw [hf, hv]
    exact rfl
  · exact World.keptBut_mono (fun x hx => ⟨hx, .inr (.inl (by simpa using hx))⟩) (hb.frame (· ∈ p ++ []))

/-- A number of the kind u8, u32, .. as a natural number. -/
theorem open_nat {r : Reach} {b0 : Nat} {t : TypeId} {k : IntKind} {W : World} {v : Value} {d : DataW H} {ps : List MemPlace} {base : Nat} {spare : Nat → Bool} {held : Bool} (ht : P.underlying t = some (.int k)) (hk : k.signed = false)
    (hval : Value.okWide P W r b0 t v) (hd : DataW.Trod enc P W base spare held t v d ps) : ∃ n : Nat, v = .int k (n : Int) ∧ (n : Int) ≤ k.max := by
  obtain ⟨n, rfl, _, _, hw⟩ := open_int ht hval hd
  simp only [Lit.wf, Bool.and_eq_true, decide_eq_true_eq] at hw
  have h0 : 0 ≤ n := by
    have := hw.1
    cases k <;> simp_all [IntKind.min, IntKind.signed]
  exact ⟨n.toNat, by rw [Int.toNat_of_nonneg h0], by rw [Int.toNat_of_nonneg h0]; exact hw.2⟩

/-- An int. -/
theorem open_i64 {r : Reach} {b0 : Nat} {t : TypeId} {W : World} {v : Value} {d : DataW H} {ps : List MemPlace} {base : Nat} {spare : Nat → Bool} {held : Bool} (ht : P.underlying t = some (.int .i64))
    (hval : Value.okWide P W r b0 t v) (hd : DataW.Trod enc P W base spare held t v d ps) : ∃ n : Int, v = .int .i64 n ∧ -9223372036854775808 ≤ n ∧ n ≤ 9223372036854775807 := by
  obtain ⟨n, rfl, _, _, hw⟩ := open_int ht hval hd
  simp only [Lit.wf, Bool.and_eq_true, decide_eq_true_eq] at hw
  exact ⟨n, rfl, by simpa [IntKind.min, IntKind.max, IntKind.signed, IntKind.bits] using hw⟩

/-- A slice of bytes, nil or not. -/
theorem open_bytes_trod {W : World} {t e : TypeId} {fuel : Nat} {cs : List Value} {x : DataW H × List MemPlace} {base : Nat} {spare : Nat → Bool} {held : Bool} (ht : P.underlying t = some (.slice e)) (he : P.underlying e = some (.int .u8)) (hc : P.cellsOf e = 1)
    (h : DataW.trod enc P W base spare held fuel t cs = some x) :
    ∃ (A : Option Addr) (l : List Nat) (cap : Nat), cs = [.slice A l.length cap] ∧ At W A (u8s l) ∧ (∀ b ∈ l, b < 256) ∧ l.length ≤ cap ∧ cap ≤ maxLen := by
  rcases open_ints ht he hc h with ⟨rfl, _⟩ | ⟨a, len, cap, zs, rfl, _, hl, hm, hz, _, hcell, hwf⟩
  · exact ⟨none, [], 0, rfl, At.nil, by simp, by simp, by simp [maxLen]⟩
  · have hle : len ≤ zs.length := by rw [hz]; split <;> omega
    have hnn : ∀ n ∈ zs, 0 ≤ n ∧ n ≤ 255 := fun n hn => by
      have := hwf n hn
      simp only [Lit.wf, Bool.and_eq_true, decide_eq_true_eq] at this
      simpa [IntKind.min, IntKind.max, IntKind.signed, IntKind.bits] using this
    have hlen : ((zs.take len).map Int.toNat).length = len := by simp; omega
    refine ⟨some a, (zs.take len).map Int.toNat, cap, by rw [hlen], fun j u hu => ⟨a, rfl, ?_⟩, fun b hb => ?_, by omega, hm⟩
    · rw [u8s_get, List.getElem?_map, List.getElem?_take] at hu
      split at hu
      · rename_i hj
        have hjl : j < zs.length := by omega
        rw [hcell j hjl]
        rw [List.getElem?_eq_getElem hjl] at hu
        simp only [Option.map_some, Option.some.injEq] at hu
        subst hu
        rw [Int.toNat_of_nonneg (hnn _ (List.getElem_mem hjl)).1]
        simp [List.getD, List.getElem?_eq_getElem hjl]
      · cases hu
    · obtain ⟨n, hn, rfl⟩ := List.mem_map.1 hb
      have := hnn n (List.mem_of_mem_take hn)
      omega
theorem open_bytes {W : World} {t e : TypeId} {r : Reach} {b0 : Nat} {v : Value} {d : DataW H} {ps : List MemPlace} {base : Nat} {spare : Nat → Bool} {held : Bool} (ht : P.underlying t = some (.slice e)) (he : P.underlying e = some (.int .u8)) (hc : P.cellsOf e = 1)
    (hval : Value.okWide P W r b0 t v) (hd : DataW.Trod enc P W base spare held t v d ps) :
    ∃ (A : Option Addr) (l : List Nat) (cap : Nat), v = .slice A l.length cap ∧ At W A (u8s l) ∧ (∀ b ∈ l, b < 256) ∧ l.length ≤ cap ∧ cap ≤ maxLen := by
  obtain ⟨a0, len, cap, rfl⟩ := okWide_slice ht hval
  obtain ⟨fuel, hf⟩ := hd
  obtain ⟨A, l, c, h1, h2⟩ := open_bytes_trod ht he hc hf
  simp only [Value.cells, List.cons.injEq, and_true] at h1
  exact ⟨A, l, c, h1, h2⟩

/-- An array of numbers of a kind, by value. -/
theorem open_arr {W : World} {t e : TypeId} {k : IntKind} {n : Nat} {r : Reach} {b0 : Nat} {v : Value} {d : DataW H} {ps : List MemPlace} {base : Nat} {spare : Nat → Bool} {held : Bool} (ht : P.underlying t = some (.array n e)) (he : P.underlying e = some (.int k)) (hc : P.cellsOf e = 1) (hct : P.cellsOf t = n)
    (hval : Value.okWide P W r b0 t v) (hd : DataW.Trod enc P W base spare held t v d ps) :
    ∃ zs : List Int, v = .agg (zs.map (Value.int k)).toArray ∧ zs.length = n ∧ ∀ z ∈ zs, (Lit.int k z).wf = true := by
  obtain ⟨cs, rfl, hsz⟩ : ∃ cs, v = .agg cs ∧ cs.size = P.cellsOf t := by
    simp only [Value.okWide, ht] at hval
    obtain ⟨cs, h1, h2, _⟩ := hval
    exact ⟨cs, h1, h2⟩
  obtain ⟨fuel, hf⟩ := hd
  obtain ⟨xs, m, rfl, _, hlen, hxl, hat⟩ := DataW.trod_array ht hf
  simp only [Value.cells, hc, Nat.mul_one] at hlen hat
  have hn : cs.size = n := by
    rw [hsz, hct]
  have each : ∀ i, i < n → ∃ z, cs[i]? = some (.int k z) ∧ (Lit.int k z).wf = true := by
    intro i hi
    have h := hat i hi
    have hil : i < cs.toList.length := by simpa [hn] using hi
    rw [List.drop_eq_getElem_cons hil, List.take_succ_cons, List.take_zero, List.getElem?_eq_getElem (by omega)] at h
    obtain ⟨z, h1, _, h3⟩ := DataW.trod_int he h
    simp only [List.cons.injEq, and_true] at h1
    exact ⟨z, by rw [← h1]; simp [hn, hi], h3⟩
  have build : ∀ j, j ≤ n → ∃ zs : List Int, zs.length = j ∧ cs.toList.take j = zs.map (Value.int k) ∧ ∀ z ∈ zs, (Lit.int k z).wf = true := by
    intro j
    induction j with
    | zero => exact fun _ => ⟨[], rfl, by simp, by simp⟩
    | succ j ih =>
      intro hj
      obtain ⟨zs, h1, h2, h3⟩ := ih (by omega)
      obtain ⟨z, hz, hw⟩ := each j (by omega)
      refine ⟨zs ++ [z], by simp [h1], ?_, fun x hx => ?_⟩
      · have hjl : j < cs.toList.length := by simp [hn]; omega
        have hz' : cs.toList[j] = .int k z := by
          have : cs.toList[j]? = some (.int k z) := by simpa using hz
          rw [List.getElem?_eq_getElem hjl] at this
          injection this
        rw [List.take_succ_eq_append_getElem hjl, h2, hz']
        simp
      · rcases List.mem_append.1 hx with hx | hx
        · exact h3 x hx
        · simp at hx; subst hx; exact hw
  obtain ⟨zs, h1, h2, h3⟩ := build n (Nat.le_refl _)
  refine ⟨zs, ?_, h1, h3⟩
  rw [← h2, List.take_of_length_le (by simp [hn])]
theorem open_arr8 {W : World} {t e : TypeId} {n : Nat} {r : Reach} {b0 : Nat} {v : Value} {d : DataW H} {ps : List MemPlace} {base : Nat} {spare : Nat → Bool} {held : Bool} (ht : P.underlying t = some (.array n e)) (he : P.underlying e = some (.int .u8)) (hc : P.cellsOf e = 1) (hct : P.cellsOf t = n)
    (hval : Value.okWide P W r b0 t v) (hd : DataW.Trod enc P W base spare held t v d ps) :
    ∃ l : List Nat, v = .agg (u8s l).toArray ∧ l.length = n ∧ ∀ x ∈ l, x < 256 := by
  obtain ⟨zs, rfl, hl, hw⟩ := open_arr ht he hc hct hval hd
  have hnn : ∀ z ∈ zs, 0 ≤ z ∧ z ≤ 255 := fun z hz => by
    have := hw z hz
    simp only [Lit.wf, Bool.and_eq_true, decide_eq_true_eq] at this
    simpa [IntKind.min, IntKind.max, IntKind.signed, IntKind.bits] using this
  refine ⟨zs.map Int.toNat, ?_, by simpa using hl, fun x hx => ?_⟩
  · congr 2
    rw [u8s_ints, List.map_map, List.map_map]
    refine List.map_congr_left fun z hz => ?_
    simp only [Function.comp]
    rw [Int.toNat_of_nonneg (hnn z hz).1]
  · obtain ⟨z, hz, rfl⟩ := List.mem_map.1 hx
    have := hnn z hz
    omega

/-- A slice of slices of bytes, nil or not. -/
theorem open_pieces {W : World} {t e q : TypeId} {r : Reach} {b0 : Nat} {v : Value} {d : DataW H} {ps : List MemPlace} {base : Nat} {spare : Nat → Bool} {held : Bool} (ht : P.underlying t = some (.slice e)) (he : P.underlying e = some (.slice q)) (hq : P.underlying q = some (.int .u8)) (ce : P.cellsOf e = 1) (cq : P.cellsOf q = 1)
    (hval : Value.okWide P W r b0 t v) (hd : DataW.Trod enc P W base spare held t v d ps) :
    ∃ (A : Option Addr) (pc : List (List Nat)) (cap : Nat), v = .slice A pc.length cap ∧ Pieces W A pc ∧ pc.length ≤ cap ∧ cap ≤ maxLen := by
  obtain ⟨a0, len, cap, rfl⟩ := okWide_slice ht hval
  obtain ⟨fuel, hf⟩ := hd
  rcases open_slice ht hf with ⟨h1, _⟩ | ⟨a, len', cap', m, n, D, Pl, h1, _, hl, hm, hmm, _, hi⟩
  · simp only [Value.cells, List.cons.injEq, and_true] at h1
    exact ⟨none, [], 0, h1, fun i p hp => by simp at hp, by simp, by simp [maxLen]⟩
  · simp only [Value.cells, List.cons.injEq, and_true] at h1
    have hle : len' ≤ m := by rw [hmm]; split <;> omega
    have each : ∀ i, i < len' → ∃ p : List Nat, ∃ B c, W.cell? (a.add i) = some (.slice B p.length c) ∧ At W B (u8s p) ∧ p.length ≤ c ∧ c ≤ maxLen ∧ ∀ b ∈ p, b < 256 := by
      intro i hil
      obtain ⟨cs', hc, ht'⟩ := hi i (by omega)
      obtain ⟨B, l, c, rfl, hA, h8, hlc, hcm⟩ := open_bytes_trod he hq cq ht'
      rw [ce, Nat.mul_one] at hc
      obtain ⟨_, _, hat⟩ := World.cells?_some hc
      have := hat 0 (by omega)
      exact ⟨l, B, c, by simpa [add0] using this, hA, hlc, hcm, h8⟩
    have build : ∀ k, k ≤ len' → ∃ pc : List (List Nat), pc.length = k ∧ ∀ i p, pc[i]? = some p → ∃ B c, W.cell? (a.add i) = some (.slice B p.length c) ∧ At W B (u8s p) ∧ p.length ≤ c ∧ c ≤ maxLen ∧ ∀ b ∈ p, b < 256 := by
      intro k
      induction k with
      | zero => exact fun _ => ⟨[], rfl, fun i p hp => by simp at hp⟩
      | succ k ih =>
        intro hk
        obtain ⟨pc, hpl, hpc⟩ := ih (by omega)
        obtain ⟨p, B, c, h⟩ := each k (by omega)
        refine ⟨pc ++ [p], by simp [hpl], fun i p' hp => ?_⟩
        rcases Nat.lt_or_ge i pc.length with hlt | hge
        · rw [List.getElem?_append_left hlt] at hp
          exact hpc i p' hp
        · rw [List.getElem?_append_right hge] at hp
          have hi0 : i - pc.length = 0 := by
            rcases Nat.eq_zero_or_pos (i - pc.length) with h0 | h0
            · exact h0
            · rw [List.getElem?_eq_none (by simp only [List.length_cons, List.length_nil]; omega)] at hp; cases hp
          rw [hi0] at hp
          simp at hp
          subst hp
          obtain rfl : i = k := by omega
          exact ⟨B, c, h⟩
    obtain ⟨pc, hpl, hpc⟩ := build len' (Nat.le_refl _)
    exact ⟨some a, pc, cap', by rw [hpl]; exact h1, fun i p hp => by
      obtain ⟨B, c, h⟩ := hpc i p hp
      exact ⟨a, B, c, rfl, h⟩, by omega, hm⟩
end
end Go.Proofs.Ytpjjkmfidghkjaa
