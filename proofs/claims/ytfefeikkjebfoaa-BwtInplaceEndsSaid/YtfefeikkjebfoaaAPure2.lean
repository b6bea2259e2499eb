/-
  THE ABSTRACT MACHINE's PURE OPERATIONS, one by one. Conditions: none.
-/
import Derived.Test.YtfefeikkjebfoaaAPure
namespace Go.Proofs.Ytfefeikkjebfoaa
namespace AM
open Go Go.RowKit

section
variable {P : Program} {X : Emb} {fr : Fr} {a : Act} {o : Oper} {v : Value}

theorem mv_gives {x : Operand} (ho : o.op = .move x ∨ o.op = .assign x) (hx : ∀ v, ev fr x = some v → relV X v (a.eval x)) (h : pval (.mv x) fr = some v) (w : World) : Gives P o a w X v := by
  rcases ho with ho | ho <;> exact ⟨a.eval x, by simp [execOp, ho], hx v h⟩
theorem pick_gives {c x y : Operand} (ho : o.op = .pick c x y) (hc : ∀ v, ev fr c = some v → relV X v (a.eval c)) (hx : ∀ v, ev fr x = some v → relV X v (a.eval x)) (hy : ∀ v, ev fr y = some v → relV X v (a.eval y))
    (h : pval (.pick c x y) fr = some v) (w : World) : Gives P o a w X v := by
  simp only [pval] at h
  split at h
  · rename_i e
    have := relV_bool (hc _ e)
    exact ⟨a.eval x, by simp [execOp, ho, this, asBool], hx v h⟩
  · rename_i e
    have := relV_bool (hc _ e)
    exact ⟨a.eval y, by simp [execOp, ho, this, asBool], hy v h⟩
  · cases h
theorem relV_ptr {b : Addr} {u : Value} (h : relV X (.pointer (some b)) u) : ∃ ra, u = .pointer (some ra) ∧ relA X b ra := h
theorem relV_slice {b : Addr} {n e : Nat} {u : Value} (h : relV X (.slice (some b) n e) u) : ∃ ra c, u = .slice (some ra) n c ∧ relSl X b n e ra c := h
theorem relV_func {g : Fn} {fi ca : Array Value} {u : Value} (h : relV X (.func g fi ca) u) : ∃ rf rc, u = .func g rf rc ∧ rel2 (relC X) fi.toList rf.toList ∧ rel2 (relC X) ca.toList rc.toList := h
theorem relV_agg {cs : Array Value} {u : Value} (h : relV X (.agg cs) u) : ∃ rs, u = .agg rs ∧ rel2 (relC X) cs.toList rs.toList := h
theorem relV_tuple {cs : Array Value} {u : Value} (h : relV X (.tuple cs) u) : ∃ rs, u = .tuple rs ∧ rel2 (relF X) cs.toList rs.toList := h
theorem relV_nilslice {u : Value} (h : relV X (.slice none 0 0) u) : u = .slice none 0 0 := (relV_sc rfl).1 h
theorem nilck_gives {x : Operand} (ho : o.op = .nilCheck x) (hx : ∀ v, ev fr x = some v → relV X v (a.eval x)) (h : pval (.nilck x) fr = some v) (w : World) : Gives P o a w X v := by
  simp only [pval] at h
  split at h
  · rename_i b e
    cases h
    have hr := hx _ e
    obtain ⟨ra, h1, h2⟩ := relV_ptr hr
    exact ⟨a.eval x, by simp [execOp, ho, h1], hr⟩
  · rename_i f fi ca e
    cases h
    have hr := hx _ e
    obtain ⟨rf, rc, h1, h2⟩ := relV_func hr
    exact ⟨a.eval x, by simp [execOp, ho, h1], hr⟩
  · cases h
theorem ext_gives {x : Operand} {i : Nat} (ho : o.op = .extract x i) (hx : ∀ v, ev fr x = some v → relV X v (a.eval x)) (h : pval (.ext x i) fr = some v) (w : World) : Gives P o a w X v := by
  simp only [pval] at h
  split at h
  · rename_i vs e
    obtain ⟨rs, h1, h2⟩ := relV_tuple (hx _ e)
    obtain ⟨u, hu, hr⟩ := h2.get h
    have hu' : rs[i]? = some u := by simpa using hu
    exact ⟨u, by simp [execOp, ho, h1, Instr.extract, hu'], relV_of_relF hr⟩
  · cases h
theorem conv_gives {x : Operand} {s d : TypeId} {k k0 : IntKind} (ho : o.op = .convert s d x) (hs : P.underlying s = some (.int k0)) (hd : P.underlying d = some (.int k)) (hx : ∀ v, ev fr x = some v → relV X v (a.eval x)) (h : pval (.conv k x) fr = some v) (w : World) : Gives P o a w X v := by
  simp only [pval] at h
  split at h
  · rename_i k' n e
    cases h
    have := relV_int (hx _ e)
    refine ⟨.int k (k.wrap n), ?_, relV_int_mk _ _⟩
    simp [execOp, ho, this, convert, run_under hs, run_under hd, Conv.intToInt]
  · cases h
theorem evs_rel : ∀ {xs : List Operand} {vs : List Value}, (∀ x ∈ xs, ∀ v, ev fr x = some v → relV X v (a.eval x)) → evs fr xs = some vs → rel2 (relV X) vs (xs.map a.eval)
  | [], vs, _, h => by simp only [evs] at h; cases h; exact rel2.nil
  | x :: xs, vs, hx, h => by
    simp only [evs, Option.bind_eq_some_iff, Option.map_eq_some_iff] at h
    obtain ⟨p, hp, q, hq, rfl⟩ := h
    exact (evs_rel (fun y hy => hx y (by simp [hy])) hq).cons (hx x (by simp) p hp)
theorem rel2_cells {vs us : List Value} (h : rel2 (relV X) vs us) (hc : vs.all cellv = true) : rel2 (relC X) vs us :=
  h.mono fun v hv _ hr => relC_of_relV hr (List.all_eq_true.1 hc v hv)
theorem mkfn_gives {f : FuncId} {fi ca : Array Operand} (ho : o.op = .makeFunc (.func f) fi ca) (h1 : ∀ x ∈ fi.toList, ∀ v, ev fr x = some v → relV X v (a.eval x)) (h2 : ∀ x ∈ ca.toList, ∀ v, ev fr x = some v → relV X v (a.eval x))
    (h : pval (.mkfn f fi.toList ca.toList) fr = some v) (w : World) : Gives P o a w X v := by
  simp only [pval, Option.bind_eq_some_iff] at h
  obtain ⟨p, hp, q, hq, h⟩ := h
  split at h
  · rename_i hc
    cases h
    simp only [Bool.and_eq_true] at hc
    refine ⟨.func (.func f) (fi.map a.eval) (ca.map a.eval), by simp [execOp, ho, Instr.makeFunc], ?_⟩
    simp only [relV, relF]
    exact ⟨_, _, rfl, by simpa using rel2_cells (evs_rel h1 hp) hc.1, by simpa using rel2_cells (evs_rel h2 hq) hc.2⟩
  · cases h
theorem relA.add {b ra : Addr} (h : relA X b ra) (k : Nat) : relA X { b with off := b.off + k } (ra.add k) := by
  obtain ⟨bx, hx, s, hs, hl, hr⟩ := h
  refine ⟨bx, hx, s, hs, hl, fun e => ?_⟩
  rw [hr e]
  unfold Addr.add
  split <;> simp_all [Nat.add_assoc]
theorem relV_ptr_mk {b ra : Addr} (h : relA X b ra) : relV X (.pointer (some b)) (.pointer (some ra)) := ⟨ra, rfl, h⟩
theorem faddr_gives {x : Operand} {t : TypeId} {i s : Nat} {fs : Array Field} {f : Field} (ho : o.op = .fieldAddr t x i) (ht : P.underlying t = some (.struct fs)) (hf : fs[i]? = some f) (hs : sizeTy P f.type = some s) (h0 : 0 < s)
    (hx : ∀ v, ev fr x = some v → relV X v (a.eval x)) (h : pval (.faddr f.offset x) fr = some v) (w : World) : Gives P o a w X v := by
  simp only [pval] at h
  split at h
  · rename_i b e
    cases h
    obtain ⟨ra, h1, h2⟩ := relV_ptr (hx _ e)
    refine ⟨.pointer (some (ra.add f.offset)), ?_, relV_ptr_mk (h2.add _)⟩
    have hn : ¬ s = 0 := by omega
    simp [execOp, ho, h1, Instr.fieldAt, run_under ht, hf, Instr.sureAddr, fieldPlace, run_size hs, hn]
  · cases h
theorem field_gives {x : Operand} {t : TypeId} {i : Nat} {n : Option Nat} {fs : Array Field} {f : Field} (ho : o.op = .field t x i) (ht : P.underlying t = some (.struct fs)) (hf : fs[i]? = some f) (hs : spanTy P f.type = some n)
    (hx : ∀ v, ev fr x = some v → relV X v (a.eval x)) (h : pval (.field f.offset n x) fr = some v) (w : World) : Gives P o a w X v := by
  simp only [pval] at h
  split at h
  · rename_i cs e
    obtain ⟨rs, h1, h2⟩ := relV_agg (hx _ e)
    obtain ⟨u, hu, hr⟩ := run_part (P := P) hs h h2 w
    have hu' : (part f.type rs f.offset).run P w = .ok u w := by simpa using hu
    exact ⟨u, by simp [execOp, ho, h1, Instr.field, run_under ht, hf, asAgg, hu'], relV_of_relF hr⟩
  · cases h
theorem idxv_int {n : Nat} {q : Value} {i : Nat} (h : idxv n q = some i) : ∃ k z, q = .int k z ∧ 0 ≤ z ∧ z < n ∧ z.toNat = i := by
  cases q <;> simp only [idxv] at h <;> try cases h
  split at h
  · rename_i hc; cases h; exact ⟨_, _, rfl, hc.1, hc.2, rfl⟩
  · cases h
theorem iaddr_gives {x y : Operand} {t e : TypeId} {s : Nat} (ho : o.op = .indexAddr t x y) (ht : P.underlying t = some (.slice e)) (hs : sizeTy P e = some s)
    (hx : ∀ v, ev fr x = some v → relV X v (a.eval x)) (hy : ∀ v, ev fr y = some v → relV X v (a.eval y)) (h : pval (.iaddr s x y) fr = some v) (w : World) : Gives P o a w X v := by
  simp only [pval, Option.bind_eq_some_iff] at h
  obtain ⟨p, hp, q, hq, h⟩ := h
  split at h
  · rename_i b n e'
    simp only [Option.map_eq_some_iff] at h
    obtain ⟨i, hi, rfl⟩ := h
    obtain ⟨k, z, rfl, hz0, hzn, rfl⟩ := idxv_int hi
    have h2 := relV_int (hy _ hq)
    obtain ⟨ra, c, h1, h3⟩ := relV_slice (hx _ hp)
    refine ⟨.pointer (some (ra.add (z.toNat * s))), ?_, ?_⟩
    · simp [execOp, ho, h1, h2, Instr.indexAt, asIntOf, run_under ht, hz0, hzn, run_size hs]
    · obtain ⟨_, _, bx, hx', s', hs', hl, hr⟩ := h3
      refine relV_ptr_mk (relA.add (b := b) ⟨bx, hx', s', hs', hl, fun e => (hr e).1 (.inl (by omega))⟩ _)
  · cases h
theorem iaddra_gives {x y : Operand} {t e : TypeId} {s n : Nat} (ho : o.op = .indexAddr t x y) (ht : P.underlying t = some (.array n e)) (hs : sizeTy P e = some s)
    (hx : ∀ v, ev fr x = some v → relV X v (a.eval x)) (hy : ∀ v, ev fr y = some v → relV X v (a.eval y)) (h : pval (.iaddra s n x y) fr = some v) (w : World) : Gives P o a w X v := by
  simp only [pval, Option.bind_eq_some_iff] at h
  obtain ⟨p, hp, q, hq, h⟩ := h
  split at h
  · rename_i b
    simp only [Option.map_eq_some_iff] at h
    obtain ⟨i, hi, rfl⟩ := h
    obtain ⟨k, z, rfl, hz0, hzn, rfl⟩ := idxv_int hi
    have h2 := relV_int (hy _ hq)
    obtain ⟨ra, h1, h3⟩ := relV_ptr (hx _ hp)
    refine ⟨.pointer (some (ra.add (z.toNat * s))), ?_, relV_ptr_mk (h3.add _)⟩
    simp [execOp, ho, h1, h2, Instr.indexAt, asIntOf, run_under ht, hz0, hzn, run_size hs, Instr.sureAddr]
  · cases h
theorem idx_gives {x y : Operand} {t e : TypeId} {s n : Nat} {m : Option Nat} (ho : o.op = .index t x y) (ht : P.underlying t = some (.array n e)) (hs : sizeTy P e = some s) (hm : spanTy P e = some m)
    (hx : ∀ v, ev fr x = some v → relV X v (a.eval x)) (hy : ∀ v, ev fr y = some v → relV X v (a.eval y)) (h : pval (.idx s n m x y) fr = some v) (w : World) : Gives P o a w X v := by
  simp only [pval, Option.bind_eq_some_iff] at h
  obtain ⟨p, hp, q, hq, h⟩ := h
  split at h
  · rename_i cs
    simp only [Option.bind_eq_some_iff] at h
    obtain ⟨i, hi, h⟩ := h
    obtain ⟨k, z, rfl, hz0, hzn, rfl⟩ := idxv_int hi
    have h2 := relV_int (hy _ hq)
    obtain ⟨rs, h1, h3⟩ := relV_agg (hx _ hp)
    obtain ⟨u, hu, hr⟩ := run_part (P := P) hm h h3 w
    refine ⟨u, ?_, relV_of_relF hr⟩
    have hu' : (part e rs (z.toNat * s)).run P w = .ok u w := by simpa using hu
    simp [execOp, ho, h1, h2, Instr.index, asIntOf, run_under ht, hz0, hzn, run_size hs, hu']
  · cases h
theorem idxs_gives {x y : Operand} {t : TypeId} (ho : o.op = .index t x y) (ht : P.underlying t = some .string)
    (hx : ∀ v, ev fr x = some v → relV X v (a.eval x)) (hy : ∀ v, ev fr y = some v → relV X v (a.eval y)) (h : pval (.idxs x y) fr = some v) (w : World) : Gives P o a w X v := by
  simp only [pval, Option.bind_eq_some_iff] at h
  obtain ⟨p, hp, q, hq, h⟩ := h
  split at h
  · rename_i s
    simp only [Option.bind_eq_some_iff, Option.map_eq_some_iff] at h
    obtain ⟨i, hi, b, hb, rfl⟩ := h
    obtain ⟨k, z, rfl, hz0, hzn, rfl⟩ := idxv_int hi
    have h2 := relV_int (hy _ hq)
    have h1 := relV_string (hx _ hp)
    refine ⟨.int .u8 b.toNat, ?_, relV_int_mk _ _⟩
    have hlt : z.toNat < s.size := by omega
    have hb' : s[z.toNat]? = some b := by
      rw [getElem?_pos s z.toNat hlt]
      have : z.toNat < s.data.toList.length := (List.getElem?_eq_some_iff.1 hb).1
      rw [List.getElem?_eq_getElem this] at hb
      simp at hb
      exact congrArg some hb
    simp [execOp, ho, h1, h2, Instr.index, asIntOf, run_under ht, hz0, hb']
  · cases h
theorem slices_gives {x : Operand} {lo hi : Option Operand} {t : TypeId} (ho : o.op = .slice t x lo hi none) (ht : P.underlying t = some .string)
    (hx : ∀ v, ev fr x = some v → relV X v (a.eval x)) (hl : ∀ y, lo = some y → ∀ v, ev fr y = some v → relV X v (a.eval y)) (hh : ∀ y, hi = some y → ∀ v, ev fr y = some v → relV X v (a.eval y))
    (h : pval (.slices x lo hi) fr = some v) (w : World) : Gives P o a w X v := by
  simp only [pval, Option.bind_eq_some_iff] at h
  obtain ⟨p, hp, l, hl', r, hr', h⟩ := h
  split at h
  · rename_i s
    simp only [Option.map_eq_some_iff] at h
    obtain ⟨⟨l1, h1, m⟩, hc, rfl⟩ := h
    obtain ⟨c1, c2, _⟩ := cuts_ints hc
    have e1 := evo_same hl hl' c1
    have e2 := evo_same hh hr' c2
    have e0 := relV_string (hx _ hp)
    have hcut := run_cuts (P := P) (isS := false) (Nat.le_refl s.size) hc w
    refine ⟨.string (s.extract l1 h1), ?_, ?_⟩
    · simp [execOp, ho, e0, e1, e2, Instr.sliceAt, run_under ht, Instr.slice, hcut.1]
    · have : s.extract l1 h1 = ⟨((s.data.toList.drop l1).take (h1 - l1)).toArray⟩ := by
        apply ByteArray.ext
        apply Array.toList_inj.1
        rw [ByteArray.data_extract, Array.toList_extract]
      rw [this]
      exact relV_string_mk _
  · cases h
theorem slice_gives {x : Operand} {lo hi mx : Option Operand} {t e : TypeId} {s : Nat} (ho : o.op = .slice t x lo hi mx) (ht : P.underlying t = some (.slice e)) (hs : sizeTy P e = some s) (h0 : 0 < s)
    (hx : ∀ v, ev fr x = some v → relV X v (a.eval x)) (hl : ∀ y, lo = some y → ∀ v, ev fr y = some v → relV X v (a.eval y)) (hh : ∀ y, hi = some y → ∀ v, ev fr y = some v → relV X v (a.eval y)) (hm : ∀ y, mx = some y → ∀ v, ev fr y = some v → relV X v (a.eval y))
    (h : pval (.slice s x lo hi mx) fr = some v) (w : World) : Gives P o a w X v := by
  simp only [pval, Option.bind_eq_some_iff] at h
  obtain ⟨p, hp, l, hl', r, hr', q, hq', h⟩ := h
  split at h
  · simp only [Option.map_eq_some_iff] at h
    obtain ⟨⟨l1, h1, m⟩, hc, rfl⟩ := h
    obtain ⟨c1, c2, c3⟩ := cuts_ints hc
    have e1 := evo_same hl hl' c1
    have e2 := evo_same hh hr' c2
    have e3 := evo_same hm hq' c3
    have e0 := relV_nilslice (hx _ hp)
    have hcut := run_cuts (P := P) (isS := true) (Nat.le_refl 0) hc w
    refine ⟨.slice none 0 0, ?_, (relV_sc rfl).2 rfl⟩
    have z1 : h1 = 0 := by omega
    have z2 : l1 = 0 := by omega
    have z3 : m.getD 0 = 0 := by
      cases m with
      | none => rfl
      | some k => have := hcut.2.2.2 k rfl; simp; omega
    subst z1; subst z2
    simp [execOp, ho, e0, e1, e2, e3, Instr.sliceAt, run_under ht, Instr.slice, hcut.1, run_size hs, z3]
  · rename_i b n e'
    split at h
    · rename_i he'
      simp only [Option.map_eq_some_iff] at h
      obtain ⟨⟨l1, h1, m⟩, hc, rfl⟩ := h
      obtain ⟨c1, c2, c3⟩ := cuts_ints hc
      have e1 := evo_same hl hl' c1
      have e2 := evo_same hh hr' c2
      have e3 := evo_same hm hq' c3
      obtain ⟨ra, c, e0, hsl⟩ := relV_slice (hx _ hp)
      have hcut := run_cuts (P := P) (isS := true) hsl.1 hc w
      refine ⟨.slice (some (if m.getD c = l1 then ra else ra.add (l1 * s))) (h1 - l1) (m.getD c - l1), ?_, ⟨_, _, rfl, hsl.cut hcut.2.1 hcut.2.2.1 rfl hcut.2.2.2 he' h0⟩⟩
      simp only [execOp, ho, Sem.run_bind, Instr.sliceAt, run_under ht, Result.andThen_ok, e0, e1, e2, e3, Instr.slice, hcut.1, run_size hs, Sem.run_pure]
      split <;> simp
    · cases h
  · cases h
theorem slicea_gives {x : Operand} {lo hi mx : Option Operand} {t e : TypeId} {s n : Nat} (ho : o.op = .slice t x lo hi mx) (ht : P.underlying t = some (.array n e)) (hs : sizeTy P e = some s) (hn : n ≤ 1048576)
    (hx : ∀ v, ev fr x = some v → relV X v (a.eval x)) (hl : ∀ y, lo = some y → ∀ v, ev fr y = some v → relV X v (a.eval y)) (hh : ∀ y, hi = some y → ∀ v, ev fr y = some v → relV X v (a.eval y)) (hm : ∀ y, mx = some y → ∀ v, ev fr y = some v → relV X v (a.eval y))
    (h : pval (.slicea s n x lo hi mx) fr = some v) (w : World) : Gives P o a w X v := by
  simp only [pval, Option.bind_eq_some_iff] at h
  obtain ⟨p, hp, l, hl', r, hr', q, hq', h⟩ := h
  split at h
  · rename_i b
    simp only [Option.map_eq_some_iff] at h
    obtain ⟨⟨l1, h1, m⟩, hc, rfl⟩ := h
    obtain ⟨c1, c2, c3⟩ := cuts_ints hc
    have e1 := evo_same hl hl' c1
    have e2 := evo_same hh hr' c2
    have e3 := evo_same hm hq' c3
    obtain ⟨ra, e0, hra⟩ := relV_ptr (hx _ hp)
    have hcut := run_cuts (P := P) (isS := false) (Nat.le_refl n) hc w
    have hmn : h1 ≤ m.getD n ∧ m.getD n ≤ n := by
      cases m with
      | none => simp; omega
      | some k => have := hcut.2.2.2 k rfl; simp; omega
    refine ⟨.slice (some (if m.getD n = l1 then ra else ra.add (l1 * s))) (h1 - l1) (m.getD n - l1), ?_, ?_⟩
    · simp [execOp, ho, e0, e1, e2, e3, Instr.sliceAt, run_under ht, Instr.sureAddr, hcut.1, run_size hs]
    · obtain ⟨bx, hx', s', hs', hl2, hr⟩ := hra
      refine ⟨_, _, rfl, ?_⟩
      dsimp only
      refine ⟨by omega, by simp only [maxLen]; omega, ?_⟩
      refine ⟨bx, hx', s', hs', hl2, fun e => ⟨fun hpos => ?_, fun h' => absurd h' (Nat.lt_irrefl _)⟩⟩
      have hr := hr e
      split
      · rename_i hml
        rcases hpos with hpos | hpos
        · omega
        · simp at hpos
          rw [hr]; simp; omega
      · rw [hr]; unfold Addr.add; split <;> simp_all [Nat.add_assoc]
  · cases h
end
end AM
end Go.Proofs.Ytfefeikkjebfoaa
