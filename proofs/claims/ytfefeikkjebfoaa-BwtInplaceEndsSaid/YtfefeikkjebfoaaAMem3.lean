/-
  THE ABSTRACT MACHINE's MEMORY OPERATIONS: literals of slices, make, append, copy, clear, strings and bytes. Conditions: none.
-/
import Derived.Test.YtfefeikkjebfoaaAMem2
import Derived.Great.BuildSlice
set_option linter.all false
namespace Go.Proofs.Ytfefeikkjebfoaa
namespace AM
open Go Go.RowKit

section
variable {P : Program} {X : Emb} {fr : Fr} {a : Act} {o : Oper} {v : Value} {w0 w : World} {σ σ' : St}

theorem zero_info {e : TypeId} {zs : List Value} (h : zeroTy P e = some zs) : ∃ i z, P.info? e = some i ∧ i.zero = some z ∧ z.cells.toList = zs ∧ i.size = zs.length ∧ z.cells.size = i.size ∧ ∀ v ∈ zs, sc v = true := by
  unfold zeroTy at h
  cases hi : P.info? e with
  | none => rw [hi] at h; cases h
  | some i =>
    rw [hi] at h
    cases hz : i.zero with
    | none => simp [hz] at h
    | some z =>
      simp only [hz] at h
      split at h
      · rename_i hc
        cases h
        simp only [Bool.and_eq_true, decide_eq_true_eq] at hc
        exact ⟨i, z, rfl, hz, rfl, by rw [← hc.1]; simp, hc.1, fun v hv => List.all_eq_true.1 hc.2 v hv⟩
      · cases h
theorem range_flat (z : Array Value) (hz : 0 < z.size) : ∀ (n k : Nat), (List.range' (k * z.size) (n * z.size)).map (fun i => z[i % z.size]!) = (List.replicate n z.toList).flatten
  | 0, k => by simp
  | n + 1, k => by
    have e : (n + 1) * z.size = z.size + n * z.size := by rw [Nat.add_mul]; omega
    have e2 : k * z.size + 1 * z.size = (k + 1) * z.size := by rw [Nat.add_mul]
    rw [e, ← List.range'_append, List.map_append, List.replicate_succ, List.flatten_cons, e2, range_flat z hz n (k + 1)]
    congr 1
    apply List.ext_getElem
    · simp
    · intro i h1 h2
      have hi : i < z.size := by simpa using h1
      simp [Nat.mul_comm k, Nat.mod_eq_of_lt hi, hi]
theorem made_flat (z : Array Value) (n : Nat) (hz : 0 < z.size) : ((Array.range (n * z.size)).map fun i => z[i % z.size]!).toList = (List.replicate n z.toList).flatten := by
  have := range_flat z hz n 0
  simpa [List.range_eq_range'] using this
theorem sc_flat {zs : List Value} (h : ∀ v ∈ zs, sc v = true) (n : Nat) : ∀ v ∈ (List.replicate n zs).flatten, sc v = true := fun v hv => by
  simp only [List.mem_flatten, List.mem_replicate] at hv
  obtain ⟨l, ⟨_, rfl⟩, hv⟩ := hv
  exact h v hv
theorem flat_length (n : Nat) (zs : List Value) : (List.replicate n zs).flatten.length = n * zs.length := by simp
theorem elemTy_eq {t e : TypeId} (h : elemTy P t = some e) : P.underlying t = some (.slice e) := by
  unfold elemTy at h
  split at h
  · rename_i q; cases h; exact q
  · cases h

theorem bslice_does {t e : TypeId} {n s : Nat} {ps : Array (Nat × Operand)} {ps' : List (Nat × Nat × Operand)} {zs : List Value} {pl : Bool} {callf : CallF} (ho : o.op = .buildSlice t n ps) (he : elemTy P t = some e) (hs : sizeTy P e = some s) (hz : zeroTy P e = some zs) (h0 : 0 < s) (hn : n * s ≤ 1048576)
    (hps : compPs (fun i => some (i * s, s)) ps.toList = some ps') (S : Sim w0 X σ w) (hx : ∀ q ∈ ps.toList, ∀ v, ev fr q.2 = some v → relV X v (a.eval q.2))
    (h : aop callf (.bslice pl s n (List.replicate n zs).flatten ps') fr σ = some (v, σ')) : Does P w0 o a X σ w v σ' := by
  simp only [aop, Option.bind_eq_some_iff] at h
  obtain ⟨vals, hv, cs, hc, h⟩ := h
  split at h
  · rename_i hk
    simp only [Option.some.injEq, Prod.mk.injEq] at h
    obtain ⟨rfl, rfl⟩ := h
    simp only [Bool.and_eq_true, decide_eq_true_eq, Bool.or_eq_true, Bool.not_eq_true', small] at hk
    obtain ⟨i, z, hi, hz1, hz2, hz3, hz4, hz5⟩ := zero_info hz
    have hss : s = zs.length := by simp [sizeTy, hi] at hs; omega
    have hu := elemTy_eq he
    have hnm : n ≤ n * s := Nat.le_mul_of_pos_right n h0
    have hinit : rel2 (relC X) (List.replicate n zs).flatten ((Array.range (n * s)).map fun i => z.cells[i % z.cells.size]!).toList := by
      have := made_flat z.cells n (by omega)
      rw [hz4, hz3, ← hss] at this
      rw [hz4, hz3, ← hss, this, hz2]
      exact rel2_sc_refl (sc_flat hz5 n)
    obtain ⟨rs, e1, e2⟩ := fill_rel (X := X) (a := a) (place := fun i => some (i * s, s)) (fun i q hq => hq) ps.toList ps' vals _ cs _ hx hps hv hc hinit
    obtain ⟨g1, g2, g3⟩ := newcells_does (ty := e) (rcs := rs) (pl := pl) (cs := cs) S e2 (fun e => hk.2.resolve_left (by simp [e]))
    have hrl : rs.size = n * s := by rw [← hk.1.1, e2.1]; simp
    refine ⟨g3, .value (.slice (some ⟨w.heap.size, 0, none⟩) n n), _, _, _, ?_, .inl rfl, ⟨_, _, rfl, new_slice (if_pos rfl) (Nat.le_refl _) (by simp only [maxLen]; omega) (fun _ => by omega)⟩, g1, g2⟩
    have e1' : Instr.fill (fun i => some (i * s, s)) ((Array.range (n * s)).map fun i => z.cells[i % z.cells.size]!) (ps.map fun x => (x.1, a.eval x.2)).toList = some rs := by simpa using e1
    have n24 : ¬ 16777216 < n * s := by omega
    have his : i.size = s := by omega
    have hrun : (Instr.buildSlice t n (ps.map fun x => (x.1, a.eval x.2))).run P w = .ok (.slice (some ⟨w.heap.size, 0, none⟩) n n) (w.alloc (.cells rs e)) := by
      by_cases hn0 : n * s = 0
      · have h' : Instr.fill (fun i => some (i * s, s)) #[] (ps.map fun x => (x.1, a.eval x.2)).toList = some rs := by
          rw [hn0] at e1'
          rw [← e1', Array.range_zero', Array.map_empty]
        have h2 : ¬ n * i.size > 2 ^ 24 := by rw [his]; omega
        have h3 : n * i.size = 0 := by rw [his]; exact hn0
        rw [← his] at h'
        simp only [Instr.buildSlice, Sem.run_bind, run_underlying hu, Result.andThen_ok, sizeOf, typeInfo, run_program, hi, Sem.run_pure]
        rw [if_neg h2, if_pos h3]
        simp only [Sem.run_bind, Sem.run_pure, Result.andThen_ok, h3, Array.range_zero', Array.map_empty]
        rw [h']
        simp [newRow]
      · rw [← his] at e1' n24 hn0
        exact run_buildSlice w t e n _ rs i z hu hi hz1 (by omega) hn0 e1'
    simp [execOp, ho, hrun]
  · cases h
theorem mkslice_does {t e : TypeId} {s : Nat} {x y : Operand} {zs : List Value} {pl : Bool} {callf : CallF} (ho : o.op = .makeSlice t x y) (he : elemTy P t = some e) (hs : sizeTy P e = some s) (hz : zeroTy P e = some zs) (h0 : 0 < s) (hb : smallBytes P e = true)
    (S : Sim w0 X σ w) (hx : ∀ v, ev fr x = some v → relV X v (a.eval x)) (hy : ∀ v, ev fr y = some v → relV X v (a.eval y))
    (h : aop callf (.mkslice pl s zs x y) fr σ = some (v, σ')) : Does P w0 o a X σ w v σ' := by
  simp only [aop, Option.bind_eq_some_iff] at h
  obtain ⟨lv, hlv, cv, hcv, l, hl, c, hc, h⟩ := h
  split at h
  · rename_i hk
    simp only [Option.some.injEq, Prod.mk.injEq] at h
    obtain ⟨rfl, rfl⟩ := h
    simp only [Bool.and_eq_true, decide_eq_true_eq] at hk
    obtain ⟨i, z, hi, hz1, hz2, hz3, hz4, hz5⟩ := zero_info hz
    have hss : s = zs.length := by simp [sizeTy, hi] at hs; omega
    obtain ⟨k1, rfl⟩ : ∃ k, lv = .int k l := by cases lv <;> simp [intv] at hl; exact ⟨_, by rw [hl]⟩
    obtain ⟨k2, rfl⟩ : ∃ k, cv = .int k c := by cases cv <;> simp [intv] at hc; exact ⟨_, by rw [hc]⟩
    have h1 := relV_int (hx _ hlv)
    have h2 := relV_int (hy _ hcv)
    have hu := elemTy_eq he
    have hby : i.bytes ≤ 4194304 := by simpa [smallBytes, bytesTy, hi] using hb
    have hle : (i.bytes : Int) * c ≤ 281474976710656 := by
      have : (i.bytes : Int) * c ≤ 4194304 * 1048576 := Int.mul_le_mul (by omega) (by omega) (by omega) (by omega)
      omega
    have hrun := run_make (P := P) (w := w) t e i z hu hi hz1 k1 k2 l c (by omega) (by omega) hle (by omega)
    have hflat : (madeCells z.cells (c.toNat * i.size)).toList = (List.replicate c.toNat zs).flatten := by
      have := made_flat z.cells c.toNat (by omega)
      rw [hz4] at this
      rw [← hz2, ← this]
      unfold madeCells
      rw [hz4]
    have hcl : c.toNat = l.toNat + (c.toNat - l.toNat) := by omega
    have hsim := sim_new (w' := w.alloc (.cells (madeCells z.cells (c.toNat * i.size)) e)) (g := 0) (pl := pl) (cs := (List.replicate l.toNat zs).flatten) S (heap_alloc w _) rfl rfl rfl (.inl rfl) (Nat.zero_le _)
      (by rw [flat_length, size_madeCells, hz3]; exact Nat.mul_le_mul_right _ (by omega)) (fun _ => List.all_eq_true.2 (sc_flat hz5 _)) (fun j p hp => by
        refine ⟨p, ?_, (relC_sc (sc_flat hz5 _ p (List.mem_of_getElem? hp))).2 rfl⟩
        have hjl := (List.getElem?_eq_some_iff.1 hp).1
        rw [← Array.getElem?_toList, hflat, hcl, ← List.replicate_append_replicate, List.flatten_append, List.getElem?_append_left hjl]
        exact hp) (fun h0 => by
        rw [flat_length] at h0
        rw [size_madeCells, hz3]
        have hc0 : l.toNat = 0 := by
          rcases Nat.mul_eq_zero.1 h0 with h | h
          · exact h
          · omega
        have : c.toNat = 0 := by
          have hk2 := hk.2
          simp only [Bool.or_eq_true, decide_eq_true_eq, ne_eq, decide_not, Bool.not_eq_true', decide_eq_false_iff_not] at hk2
          omega
        rw [this]; simp)
    obtain ⟨g1, g2, g3⟩ := hsim
    refine ⟨g3, .value (.slice (some ⟨w.heap.size, 0, none⟩) l.toNat c.toNat), _, _, _, ?_, .inl rfl, ⟨_, _, rfl, new_slice (if_pos rfl) (by omega) (by simp only [maxLen]; omega) (fun _ => ?_)⟩, g1, g2⟩
    · simp [execOp, ho, h1, h2, hrun]
    · rw [flat_length, size_madeCells, hz3, ← hss]
      exact ⟨Nat.mul_le_mul_right _ (by omega), Nat.le_refl _⟩
  · cases h

theorem isBytes_eq {e : TypeId} (h : isBytes P e = true) : P.underlying e = some (.int .u8) ∧ sizeTy P e = some 1 := by
  unfold isBytes at h
  split at h
  · rename_i q; exact ⟨q, by simpa using h⟩
  · cases h
theorem run_strb (w : World) (e : TypeId) (st : ByteArray) :
    ∃ w', (Conv.stringToBytes e st).run P w = .ok (.slice (some ⟨w.heap.size, 0, none⟩) st.size (grownCap w st.size 0 e)) w' ∧
      w'.heap = w.heap.push (.cells (st.data.map (fun b => Value.int .u8 b.toNat) ++ Array.replicate (grownCap w st.size 0 e - st.size) (.int .u8 0)) e
        ((st.data.map (fun b => Value.int .u8 b.toNat) ++ Array.replicate (grownCap w st.size 0 e - st.size) (Value.int .u8 0)).size, (st.data.map (fun b => Value.int .u8 b.toNat) ++ Array.replicate (grownCap w st.size 0 e - st.size) (Value.int .u8 0)).size + 1)) ∧ w'.os = w.os ∧ w'.tape = w.tape ∧ w'.output = w.output := by
  have hsh : ∀ (w : World) (r : Nat), (shape r).run P w = .ok (w.shape? r) w := fun _ _ => rfl
  have hfr : ∀ (w : World) (a : Addr) (n : Nat), (freeze a n).run P w = .ok () (w.freeze a n) := fun _ _ _ => rfl
  have hch : (choose (.appendCap st.size 0 e)).run P w = .ok (grownCap w st.size 0 e) w.drew := rfl
  simp only [Conv.stringToBytes, Sem.run_bind, hch, Result.andThen_ok, newRow, run_newObj, Sem.run_pure, markStringish, hsh]
  generalize st.data.map (fun b => Value.int .u8 b.toNat) ++ Array.replicate (grownCap w st.size 0 e - st.size) (Value.int .u8 0) = R
  have hs2 : ({ w.drew with heap := w.drew.heap.push (.cells R e) } : World).shape? w.drew.heap.size = some (e, R.size) := by
    unfold World.shape?
    show (match (w.drew.heap.push (Obj.cells R e))[w.drew.heap.size]? with | some (Obj.cells c elem _) => some (elem, c.size) | _ => none) = _
    rw [Array.getElem?_push_size]
  simp only [hs2, hfr, Result.andThen_ok]
  refine ⟨_, rfl, ?_, rfl, rfl, rfl⟩
  show (if (1 : Nat) = 0 then _ else _ : World).heap = _
  rw [if_neg (by omega)]
  change Array.modify (w.heap.push (Obj.cells R e)) w.heap.size (fun x => match x with | Obj.cells c elem (lo, hi) => Obj.cells c elem (if (lo == hi) = true then (R.size, R.size + 1) else (min lo R.size, max hi (R.size + 1))) | o => o) = _
  apply Array.ext_getElem?
  intro i
  rw [Array.getElem?_modify]
  by_cases hi : w.heap.size = i
  · subst hi
    rw [if_pos rfl, Array.getElem?_push_size, Array.getElem?_push_size]
    simp
  · rw [if_neg hi, Array.getElem?_push, Array.getElem?_push, if_neg (fun e => hi e.symm), if_neg (fun e => hi e.symm)]
theorem strCells_length (s : ByteArray) : (strCells s).length = s.size := by simp [strCells]
theorem strCells_sc (s : ByteArray) : ∀ v ∈ strCells s, sc v = true := fun v hv => by
  simp only [strCells, List.mem_map] at hv
  obtain ⟨b, _, rfl⟩ := hv
  rfl
theorem strb_does {s d e : TypeId} {x : Operand} {callf : CallF} (ho : o.op = .convert s d x) (hs : P.underlying s = some .string) (hd : P.underlying d = some (.slice e)) (he : isBytes P e = true)
    (S : Sim w0 X σ w) (hx : ∀ v, ev fr x = some v → relV X v (a.eval x)) (h : aop callf (.strb x) fr σ = some (v, σ')) : Does P w0 o a X σ w v σ' := by
  simp only [aop] at h
  split at h
  · rename_i st hst
    split at h
    · rename_i hsm
      simp only [Option.some.injEq, Prod.mk.injEq] at h
      obtain ⟨rfl, rfl⟩ := h
      simp only [small, decide_eq_true_eq, Bool.and_eq_true] at hsm
      obtain ⟨hsm, hpos⟩ := hsm
      obtain ⟨hu, hsz⟩ := isBytes_eq he
      have h1 := relV_string (hx _ hst)
      have hcap : st.size ≤ grownCap w st.size 0 e ∧ grownCap w st.size 0 e ≤ maxLen := ⟨grownCap_ge w _ _ _, grownCap_le_maxLen w _ _ _ (by simp only [maxLen]; omega)⟩
      obtain ⟨w', hrun, hheap, q1, q2, q3⟩ := run_strb (P := P) w e st
      have hR : (st.data.map (fun b => Value.int .u8 b.toNat) ++ Array.replicate (grownCap w st.size 0 e - st.size) (Value.int .u8 0)).size = grownCap w st.size 0 e := by
        have hd : st.data.size = st.size := rfl
        simp only [Array.size_append, Array.size_map, Array.size_replicate, hd]
        omega
      generalize grownCap w st.size 0 e = cap at *
      have hpre : ∀ (j : Nat) (p : Value), (strCells st)[j]? = some p → (st.data.map (fun b => Value.int .u8 b.toNat) ++ Array.replicate (cap - st.size) (Value.int .u8 0))[j]? = some p := fun j p hp => by
        have hjl : j < st.data.size := by have := (List.getElem?_eq_some_iff.1 hp).1; rw [strCells_length] at this; exact this
        rw [Array.getElem?_append_left (by simpa using hjl), ← Array.getElem?_toList, Array.toList_map]
        exact hp
      generalize st.data.map (fun b => Value.int .u8 b.toNat) ++ Array.replicate (cap - st.size) (Value.int .u8 0) = R at *
      obtain ⟨g1, g2, g3⟩ := sim_new (w' := w') (g := 0) (pl := true) (cs := strCells st) S hheap q1 q2 q3 (.inr (Nat.le_refl _)) (Nat.zero_le _) (by rw [hR, strCells_length]; exact hcap.1) (fun _ => List.all_eq_true.2 (strCells_sc st))
        (fun j p hp => ⟨p, hpre j p hp, (relC_sc (strCells_sc st p (List.mem_of_getElem? hp))).2 rfl⟩) (fun h0 => by
          rw [strCells_length] at h0; omega)
      refine ⟨g3, .value (.slice (some ⟨w.heap.size, 0, none⟩) st.size cap), _, w', _, ?_, .inl rfl, ⟨_, _, rfl, new_slice (if_pos rfl) hcap.1 hcap.2 (fun _ => ?_)⟩, g1, g2⟩
      · simp only [execOp, ho, h1, convert, Sem.run_bind, run_under hs, run_under hd, run_under hu, Result.andThen_ok, hrun, Sem.run_pure]
      · rw [hR, strCells_length]
        omega
    · cases h
  · cases h
theorem bytesv_ints : ∀ {l : List Value} {m : List UInt8}, bytesv l = some m → ∃ ns : List Int, l = ns.map (Value.int .u8) ∧ m = ns.map fun n => UInt8.ofNat n.toNat
  | [], m, h => by simp only [bytesv, Option.some.injEq] at h; exact ⟨[], rfl, by simp [← h]⟩
  | x :: l, m, h => by
    cases x with
    | int k n =>
      cases k with
      | u8 =>
        simp only [bytesv, Option.map_eq_some_iff] at h
        obtain ⟨m', h1, rfl⟩ := h
        obtain ⟨ns, rfl, rfl⟩ := bytesv_ints h1
        exact ⟨n :: ns, rfl, rfl⟩
      | _ => simp [bytesv] at h
    | _ => simp [bytesv] at h
theorem bstr_does {s d e : TypeId} {x : Operand} {callf : CallF} (ho : o.op = .convert s d x) (hs : P.underlying s = some (.slice e)) (hd : P.underlying d = some .string) (he : isBytes P e = true)
    (S : Sim w0 X σ w) (hx : ∀ v, ev fr x = some v → relV X v (a.eval x)) (h : aop callf (.bstr x) fr σ = some (v, σ')) : Does P w0 o a X σ w v σ' := by
  obtain ⟨hu, hsz⟩ := isBytes_eq he
  simp only [aop] at h
  split at h
  · rename_i hnil
    cases h
    have h1 := relV_nilslice (hx _ hnil)
    refine Gives.does S ⟨.string ⟨#[]⟩, ?_, relV_string_mk _⟩
    simp only [execOp, ho, h1, convert, Sem.run_bind, run_under hs, run_under hd, run_under hu, Result.andThen_ok, Conv.bytesToString, Sem.run_pure]
    rfl
  · rename_i ad n e' hsl
    simp only [Option.bind_eq_some_iff] at h
    obtain ⟨⟨pl, cs⟩, hb, h⟩ := h
    simp only at h
    split at h
    · rename_i hle
      simp only [Option.map_eq_some_iff] at h
      obtain ⟨l, hl, h⟩ := h
      cases h
      obtain ⟨ra, c, h1, h2⟩ := relV_slice (hx _ hsl)
      obtain ⟨ns, e1, rfl⟩ := bytesv_ints hl
      refine Gives.does S ⟨.string ⟨(ns.map fun n => UInt8.ofNat n.toNat).toArray⟩, ?_, relV_string_mk _⟩
      have hload : (loadCells ra n).run P w = .ok (ns.map (Value.int .u8)).toArray w := by
        rcases Nat.eq_zero_or_pos n with rfl | hn
        · have : ns = [] := by simpa using e1
          subst this
          rfl
        · obtain ⟨hn', hm, bx, hx', s', hs', hl', hr⟩ := h2
          obtain ⟨rs, r1, r2⟩ := S.readCells (ra := ra) hb ⟨bx, hx', s', hs', hl', fun e => (hr e).1 (.inl hn)⟩ hle
          have hrs : rs = ns.map (Value.int .u8) := by
            rw [e1] at r1
            exact rel2_sc r1 (fun v hv => by simp only [List.mem_map] at hv; obtain ⟨_, _, rfl⟩ := hv; rfl)
          have hrl : rs.length = n := by rw [← r1.1]; simp; omega
          have := run_loadCells_list (P := P) w ra rs r2
          rw [hrl, hrs] at this
          exact this
      simp only [execOp, ho, h1, convert, Sem.run_bind, run_under hs, run_under hd, run_under hu, Result.andThen_ok, run_bytesToString w ra n c ns hload, Sem.run_pure, foldl_push_bytes]
      congr 3
      simp [ByteArray.empty, ByteArray.emptyWithCapacity]
      rfl
    · cases h
  · cases h

/-- A byte slice converted to its own type: its block is marked behind its end. -/
theorem mark_does {s d e e' : TypeId} {x : Operand} {callf : CallF} (ho : o.op = .convert s d x) (hs : P.underlying s = some (.slice e')) (hd : P.underlying d = some (.slice e)) (he : isBytes P e = true) (hsd : (s == d) = true)
    (S : Sim w0 X σ w) (hx : ∀ v, ev fr x = some v → relV X v (a.eval x)) (h : aop callf (.mark x) fr σ = some (v, σ')) : Does P w0 o a X σ w v σ' := by
  obtain ⟨hu, hsz⟩ := isBytes_eq he
  simp only [aop] at h
  split at h
  · rename_i ad n e'' hsl
    split at h
    · cases h
    · rename_i hc
      simp only [Bool.or_eq_true, decide_eq_true_eq, not_or] at hc
      simp only [Option.map_eq_some_iff] at h
      obtain ⟨⟨pl, cs⟩, hb, h⟩ := h
      cases h
      obtain ⟨ra, c, h1, h2⟩ := relV_slice (hx _ hsl)
      have hR := hx _ hsl
      obtain ⟨hn', hm, bx, hx', s', hs', hl', hr⟩ := h2
      have hrA : relA X ad ra := ⟨bx, hx', s', hs', hl', fun e => (hr e).1 (.inl (by omega))⟩
      obtain ⟨hhid, g, hg, hsp⟩ := blk_inv hb
      obtain ⟨bx2, hx2, hs2, hra, hcell⟩ := S.read hb hrA
      have hown := S.lock _ bx2 hx2 (by omega)
      obtain ⟨c1, c2, c3, c4, c5, c6⟩ := S.cell _ bx2 g pl cs hx2 hhid hg
      obtain ⟨o1, rs, ty, lo, hi, o2, o3, o4, o5⟩ := c6 hown
      subst hra
      have hshape : w.shape? bx2.b = some (ty, rs.size) := by simp [World.shape?, o2]
      have hrun : (markStringish ⟨bx2.b, bx2.o + ad.off, none⟩).run P w = .ok () (w.freeze ⟨bx2.b, rs.size, none⟩ 1) := by
        have hsh : ∀ (w : World) (r : Nat), (shape r).run P w = .ok (w.shape? r) w := fun _ _ => rfl
        have hfr : ∀ (w : World) (a : Addr) (n : Nat), (freeze a n).run P w = .ok () (w.freeze a n) := fun _ _ _ => rfl
        simp only [markStringish, Sem.run_bind, hsh, hshape, Result.andThen_ok, hfr]
      have hbl : bx2.b < w.heap.size := (Array.getElem?_eq_some_iff.1 o2).1
      have hheap : (w.freeze ⟨bx2.b, rs.size, none⟩ 1).heap = w.heap.modify bx2.b (fun x => match x with | Obj.cells c elem (lo, hi) => Obj.cells c elem (if (lo == hi) = true then (rs.size, rs.size + 1) else (min lo rs.size, max hi (rs.size + 1))) | o => o) := rfl
      have hnew : (w.freeze ⟨bx2.b, rs.size, none⟩ 1).heap[bx2.b]? = some (.cells rs ty (if (lo == hi) = true then (rs.size, rs.size + 1) else (min lo rs.size, max hi (rs.size + 1)))) := by
        rw [hheap, Array.getElem?_modify, if_pos rfl, o2]; rfl
      obtain ⟨lo', hi', hlh, hf⟩ : ∃ lo' hi', (if (lo == hi) = true then (rs.size, rs.size + 1) else (min lo rs.size, max hi (rs.size + 1))) = (lo', hi') ∧ (hi' = lo' ∨ rs.size ≤ lo') := by
        split
        · exact ⟨_, _, rfl, .inr (Nat.le_refl _)⟩
        · rename_i hne
          simp only [beq_iff_eq] at hne
          refine ⟨_, _, rfl, .inr ?_⟩
          omega
      rw [hlh] at hnew
      obtain ⟨g1, g2⟩ := sim_mark (w' := w.freeze ⟨bx2.b, rs.size, none⟩ 1) S hx2 (by omega) hhid o2 hnew hf (by rw [hheap, Array.size_modify]) (fun k hk => by rw [hheap, Array.getElem?_modify, if_neg (fun e => hk e.symm)]) rfl rfl rfl
      refine ⟨Ast.refl _, _, _, _, X, ?_, .inl rfl, hR, g1, g2⟩
      simp only [execOp, ho, h1, convert, Sem.run_bind, run_under hs, run_under hd, run_under hu, Result.andThen_ok, hsd, hrun, Sem.run_pure]
  · cases h

end
end AM
end Go.Proofs.Ytfefeikkjebfoaa
