/-
  kraft.Different: how many different rows there are.
-/
import Derived.Test.YteaapmfpojeibaaKraftMap
namespace Go.Proofs.Yteaapmfpojeibaa
open Go Go.RowKit

def zeros (n : Nat) : List Nat := List.replicate n 0
theorem zero_lens (w : World) : (zeroValue 45).run Try.prog w = .ok (.agg (u8s (zeros 258)).toArray) w := by kernel_rfl
theorem u8a_all (l : List Nat) : (u8s l).toArray.all (·.oneCell') = true := by
  rw [List.all_toArray, List.all_eq_true]; exact u8s_one l
theorem zeros_size {l : List Nat} (h : l.length = 258) : (u8s (zeros 258)).toArray.size = (u8s l).toArray.size := by rw [u8a_size, u8a_size, h, zeros, List.length_replicate]
theorem lens_size {l : List Nat} (h : l.length = 258) : (Try.prog.info? 45).map (·.size) = some (u8s l).toArray.size := by rw [u8a_size, h]; exact size_lens
/-- A slice of rows of bytes. -/
def Rows (w : World) (A : Option Addr) (ls : List (List Nat)) : Prop := ∀ i l, ls[i]? = some l → ∃ ad, A = some ad ∧ ∀ j v, (u8s l)[j]? = some v → w.cell? ((ad.add (i * 258)).add j) = some v
theorem Rows.below {w w' : World} {A : Option Addr} {ls : List (List Nat)} (h : Rows w A ls) (hb : Below w.heap.size w w') : Rows w' A ls := fun i l hl => by
  obtain ⟨ad, e, hc⟩ := h i l hl
  exact ⟨ad, e, fun j v hv => by rw [hb.cell (block_lt_of_cell (hc j v hv))]; exact hc j v hv⟩

theorem run_loadVar_at {P : Program} (w : World) (ty : TypeId) (ad : Addr) (cs : List Value) (hc : ∀ j v, cs[j]? = some v → w.cell? (ad.add j) = some v) {n : Nat} {e : TypeId} (hu : P.underlying ty = some (.array n e)) (hi : (P.info? ty).map (·.size) = some cs.length) :
    (loadVar ty ad).run P w = .ok (.agg cs.toArray) w := by
  have hl : (loadCells ad cs.length).run P w = .ok cs.toArray w := run_loadCells_list (P := P) w ad cs hc
  cases hq : P.info? ty with
  | none => simp [hq] at hi
  | some i =>
    have hs : i.size = cs.length := by simpa [hq] using hi
    have hagg : (isAgg ty).run P w = .ok true w := by
      unfold isAgg
      rw [Sem.run_bind, run_underlying hu w]; rfl
    simp [loadVar, Sem.run_bind, hagg, sizeOf, typeInfo, hq, hs, hl]
/-- A whole array, wherever it lies. -/
theorem wpList_load_at {P : Program} {ops : Array Oper} {rest : List Oper} {o : Oper} {a : Act} {w : World} {Q : Exit → Act → World → Prop} (hw : Region.wanted o (yielded ops a.tmps) = true) (ty : TypeId) (x : Operand) (ho : o.op = .load ty x)
    (ad : Addr) (hx : a.eval x = .pointer (some ad)) (cs : List Value) (hc : ∀ j v, cs[j]? = some v → w.cell? (ad.add j) = some v) {n : Nat} {e : TypeId} (hu : P.underlying ty = some (.array n e)) (hi : (P.info? ty).map (·.size) = some cs.length)
    (h : wpList P ops Q rest (a.put o.dst (.agg cs.toArray)) w) : wpList P ops Q (o :: rest) a w :=
  BigFrame.wpList_want hw fun _ hK => by
    unfold Oper.wp execOp
    simp only [ho, hx, Instr.loadAt, Instr.sureAddr, Sem.run_bind, Sem.run_pure, Result.andThen_ok, run_loadVar_at w ty ad cs hc hu hi]
    exact hK _ _ h

theorem gives_load_at {P : Program} {o : Oper} {a : Act} {w : World} {T : Value → World → Prop} (ty : TypeId) (x : Operand) (ho : o.op = .load ty x) (ad : Addr) (hx : a.eval x = .pointer (some ad)) (cs : List Value) (hc : ∀ j v, cs[j]? = some v → w.cell? (ad.add j) = some v)
    {n : Nat} {e : TypeId} (hu : P.underlying ty = some (.array n e)) (hi : (P.info? ty).map (·.size) = some cs.length) (h : T (.agg cs.toArray) w) : Mono.gives P o a w T := by
  unfold Mono.gives execOp
  simp only [ho, hx, Instr.loadAt, Instr.sureAddr, Sem.run_bind, Sem.run_pure, Result.andThen_ok, run_loadVar_at w ty ad cs hc hu hi]
  exact h
theorem gives_run {P : Program} {o : Oper} {a : Act} {w w' : World} {T : Value → World → Prop} {v : Value} (hr : (execOp a.eval o).run P w = .ok (.value v) w') (h : T v w') : Mono.gives P o a w T := by
  unfold Mono.gives; rw [hr]; exact h
theorem gives_lookup {P : Program} {o : Oper} {a : Act} {w w' : World} {T : Value → World → Prop} {v : Value} (t : TypeId) (m x : Operand) (mv xv : Value) (ho : o.op = .lookup t m x false) (hm : a.eval m = mv) (hx : a.eval x = xv)
    (hr : (Instr.lookup t mv xv false).run P w = .ok v w') (h : T v w') : Mono.gives P o a w T := by
  unfold Mono.gives execOp
  simp only [ho, hm, hx, Sem.run_bind, Sem.run_pure, Result.andThen_ok, hr]
  exact h
theorem gives_mapEntry {P : Program} {o : Oper} {a : Act} {w w' : World} {T : Value → World → Prop} {v : Value} (t : TypeId) (m x : Operand) (mv xv : Value) (ho : o.op = .mapEntry t m x) (hm : a.eval m = mv) (hx : a.eval x = xv)
    (hr : (Instr.mapEntry t mv xv).run P w = .ok v w') (h : T v w') : Mono.gives P o a w T := by
  unfold Mono.gives execOp
  simp only [ho, hm, hx, Sem.run_bind, Sem.run_pure, Result.andThen_ok, hr]
  exact h
theorem gives_entryStore {P : Program} {o : Oper} {a : Act} {w w' : World} {T : Value → World → Prop} (t : TypeId) (m x y : Operand) (mv xv yv : Value) (ho : o.op = .entryStore t m x y) (hm : a.eval m = mv) (hx : a.eval x = xv) (hy : a.eval y = yv)
    (hr : (Instr.entryStore t mv xv yv).run P w = .ok () w') (h : T undef w') : Mono.gives P o a w T := by
  unfold Mono.gives execOp
  simp only [ho, hm, hx, hy, Sem.run_bind, Sem.run_pure, Result.andThen_ok, hr]
  exact h
/-- One operation with no guard. -/
theorem regOk_free {P : Program} {ops : Array Oper} {R : World → World → Prop} {w0 : World} {Q : Act → World → Prop} {j : Nat} {o : Oper} {rest : List Oper} {a : (Nat → Value) → Act} {F : Nat → Value → World → Prop} (Φ : Value → World → Prop)
    (hg : o.guard = none) (hΦ : ∀ v w w', Φ v w → R w w' → Φ v w')
    (hob : ∀ vs w, R w0 w → Mono.facts F vs w o.after.toList → Mono.gives P o (a vs) w (fun u w' => Φ u w' ∧ R w w'))
    (h : Mono.regOk P ops R w0 Q (j + 1) rest (fun vs => (a vs).put o.dst (vs j)) (Mono.upd F j Φ)) : Mono.regOk P ops R w0 Q j (o :: rest) a F :=
  ⟨Φ, hΦ, fun vs w r f => by rw [if_pos (by unfold Region.wanted; rw [hg])]; exact hob vs w r f, h⟩

theorem Box.cells {w : World} {g : Nat} {t : TypeId} {l : List Value} (h : Box w g t l.toArray) (j : Nat) (v : Value) (hv : l[j]? = some v) : w.cell? ((⟨g, 0, none⟩ : Addr).add j) = some v := by
  rw [add_lit, Nat.zero_add, h.cell]; simpa using hv

def kDiff (ls : List (List Nat)) : Nat := (ls.foldl addKey []).length
theorem kDiff_take {ls : List (List Nat)} {k : Nat} (h : k < ls.length) : (ls.take (k + 1)).foldl addKey [] = addKey ((ls.take k).foldl addKey []) ls[k] := by
  rw [List.take_succ_eq_append_getElem h, List.foldl_append]; rfl
theorem mem_foldl_addKey : ∀ (ls acc : List (List Nat)) (x : List Nat), x ∈ ls.foldl addKey acc → x ∈ acc ∨ x ∈ ls
  | [], acc, x, h => .inl h
  | l :: ls, acc, x, h => by
    rcases mem_foldl_addKey ls _ x h with h | h
    · unfold addKey at h
      split at h
      · exact .inl h
      · rcases List.mem_append.1 h with h | h
        · exact .inl h
        · exact .inr (by rw [List.mem_singleton.1 h]; exact List.mem_cons_self ..)
    · exact .inr (List.mem_cons_of_mem _ h)
theorem kDiff_le (ls acc : List (List Nat)) : (ls.foldl addKey acc).length ≤ acc.length + ls.length := by
  induction ls generalizing acc with
  | nil => simp
  | cons l ls ih =>
    have := ih (addKey acc l)
    have h2 : (addKey acc l).length ≤ acc.length + 1 := by unfold addKey; split <;> simp
    simp only [List.foldl_cons, List.length_cons]; omega

theorem mem_addKey (ls : List (List Nat)) (l : List Nat) : l ∈ addKey ls l := by
  unfold addKey; split
  · assumption
  · simp
theorem MapB.mem_of {w : World} {b : Nat} {ls ls' : List (List Nat)} {l : List Nat} (h : MapB w b ls) (h' : MapB w b ls') (e : addKey ls l = ls') : l ∈ ls := by
  obtain ⟨es, c, h1, _, _, h4⟩ := h
  obtain ⟨es', c', h1', _, _, h4'⟩ := h'
  rw [h1] at h1'
  obtain ⟨rfl, rfl⟩ : es = es' ∧ c = c' := by simpa using h1'
  have hln := congrArg List.length (h4.symm.trans h4')
  rw [List.length_map, List.length_map, ← e] at hln
  unfold addKey at hln
  split at hln
  · assumption
  · simp at hln
theorem MapE.of_heap {w w' : World} {b : Nat} {ls : List (List Nat)} {st : Nat} (h : MapE w b ls st) (e : w'.heap[b]? = w.heap[b]?) : MapE w' b ls st := by
  obtain ⟨es, c, h1, r⟩ := h; exact ⟨es, c, e.trans h1, r⟩
/-- What the round's region keeps: the map in block b with the keys ls, or with l as well; else nothing of the heap is written. -/
def MapRel (b : Nat) (ls ls' : List (List Nat)) (w w' : World) : Prop :=
  w.grownBy w' (some b) ∧ (MapB w b ls ∨ MapB w b ls' → MapB w' b ls ∨ MapB w' b ls') ∧ ∀ st, MapE w b ls' st → MapE w' b ls' st
theorem MapRel.out {b : Nat} {ls ls' : List (List Nat)} {w w' : World} (h : MapRel b ls ls' w w') : MapRel b ls ls' w w' := h
theorem MapRel.refl (b : Nat) (ls ls' : List (List Nat)) (w : World) : MapRel b ls ls' w w := ⟨⟨rfl, rfl, rfl, Nat.le_refl _, fun _ _ _ => rfl⟩, id, fun _ => id⟩
theorem MapRel.trans (b : Nat) (ls ls' : List (List Nat)) (x y z : World) (h : MapRel b ls ls' x y) (k : MapRel b ls ls' y z) : MapRel b ls ls' x z :=
  ⟨h.1.trans k.1, fun q => k.2.1 (h.2.1 q), fun st q => k.2.2 st (h.2.2 st q)⟩

set_option maxRecDepth 100000 in
set_option maxHeartbeats 400000 in
theorem diff_any (A : Option Addr) (ls : List (List Nat)) (cap : Nat) (w : World) (hR : Rows w A ls) (hl : ∀ l ∈ ls, l.length = 258 ∧ ∀ b ∈ l, b < 256) (hn : ls.length ≤ maxLen) :
    Calls Try.prog 37 #[.slice A ls.length cap] w fun e w' => e = .returned (.int .i64 (kDiff ls)) ∧ Below w.heap.size w w' := by
  unfold maxLen at hn
  have hmm := @run_makeMap Try.prog
  go_enter Try.func37, Try.ntmps37
  go_wp2_with fail
  have hb0 := below_new w (.map #[] 0)
  have hm0 := MapB.new w
  clear hmm
  generalize w.alloc (.map #[] 0) = w0 at *
  generalize hg : w.heap.size = g at *
  have Hg := hide hg
  clear hg
  go_loopw [9] (fun i wr => ∃ k : Nat, k ≤ ls.length ∧ i = .int .i64 k ∧ MapB wr g ((ls.take k).foldl addKey []) ∧ Below g w wr) (fun i _ => ls.length - (intOf i).toNat)
  case atStart => exact ⟨0, by omega, rfl, hm0, hb0⟩
  case round =>
    obtain ⟨k, hk, rfl, hm, hb⟩ := hrel
    clear hm0 hb0
    by_cases hlt : k < ls.length
    · obtain ⟨ad, rfl, hc⟩ := hR.below (show Below w.heap.size w wr by rw [Hg.out]; exact hb) k ls[k] (List.getElem?_eq_getElem hlt)
      have hst := hide (kDiff_take hlt)
      obtain ⟨hl258, h8⟩ := hl _ (List.getElem_mem hlt)
      generalize ls[k] = l at *
      have hi := hide (show (Try.prog.info? 45).map (·.size) = some (u8s l).length by rw [u8s_length, hl258]; exact size_lens)
      have hz := zero_lens
      go_wp2_with (first
        | (refine wpList_load_at rfl 45 _ rfl _ rfl (u8s l) hc Try.underlying45 hi.out ?_)
        | (refine wpList_store_box rfl 45 _ _ rfl wr.heap.size rfl (u8s l).toArray rfl 45 _ (Box.new _ _ _) (lens_size hl258) (zeros_size hl258) (u8a_all l) ?_))
      clear hz hi
      have hx : Box ((wr.alloc (.cells (u8s (zeros 258)).toArray 45)).setRow wr.heap.size (u8s l).toArray) wr.heap.size 45 (u8s l).toArray := (Box.new _ _ _).row _
      have hgl := hm.lt
      have hbs : Below wr.heap.size wr ((wr.alloc (.cells (u8s (zeros 258)).toArray 45)).setRow wr.heap.size (u8s l).toArray) := below_row (below_new _ _) (Nat.le_refl _) _
      have hb := hb.trans (hbs.mono (Nat.le_of_lt hgl))
      have hm := hm.of_heap (hbs.block g hgl)
      clear hbs hc
      have hne : wr.heap.size ≠ g := by omega
      generalize (wr.alloc (.cells (u8s (zeros 258)).toArray 45)).setRow wr.heap.size (u8s l).toArray = ws at *
      generalize wr.heap.size = h at *
      have hacc : ∀ x ∈ (ls.take k).foldl addKey [], Keyed' Try.prog 45 x := fun x hx => by
        rcases mem_foldl_addKey _ _ _ hx with h | h
        · simp at h
        · obtain ⟨a, b⟩ := hl x (List.mem_of_mem_take h); exact keyed_lens a b
      have hacc' : ∀ x ∈ addKey ((ls.take k).foldl addKey []) l, Keyed' Try.prog 45 x := fun x hx => by
        unfold addKey at hx
        split at hx
        · exact hacc x hx
        · rcases List.mem_append.1 hx with h | h
          · exact hacc x h
          · rw [List.mem_singleton.1 h]; exact keyed_lens hl258 h8
      obtain ⟨kl, hkl⟩ := keyed_lens hl258 h8
      generalize hac : (ls.take k).foldl addKey [] = acc at *
      have Hac := hide hac
      clear hac
      generalize hac' : addKey acc l = acc' at *
      have Hac' := hide hac'
      clear hac'
      have hwb : ∀ w', MapRel g acc acc' ws.drew w' → Box w' h 45 (u8s l).toArray := fun w' q => (q.1.block h hx.lt (by simpa using hne)).trans hx
      have hwm : ∀ w', MapRel g acc acc' ws.drew w' → MapB w' g acc ∨ MapB w' g acc' := fun w' q => q.2.1 (.inl hm)
      have hlook : ∀ w', MapRel g acc acc' ws.drew w' → ∃ c, (Instr.lookup 61 (.map (some g)) (.agg (u8s l).toArray) false).run Try.prog w' = .ok (.int .i64 c) w' := fun w' q => by
        rcases hwm w' q with hq | hq
        · exact run_look mapTy hq hacc hkl
        · exact run_look mapTy hq hacc' hkl
      simp only [Act.put]
      refine Mono.wp_region_mono 22 rfl (by kernel_rfl) (by kernel_rfl) (MapRel g acc acc') (MapRel.refl _ _ _) (MapRel.trans _ _ _) ?_
      refine Mono.regOk_val (.map (some g)) (fun vs w' hR hF => ?_) ?_
      · unfold Mono.gives; go_simp; exact ⟨rfl, MapRel.refl _ _ _ _⟩
      simp only [Act.put, List.setIfInBounds_toArray, List.set_cons_zero, List.set_cons_succ]
      refine regOk_free (fun v _ => v = .agg (u8s l).toArray) rfl (fun v _ _ hv _ => hv) (fun vs w' hR hF => ?_) ?_
      · exact gives_load_at 45 _ rfl ⟨h, 0, none⟩ rfl (u8s l) (hwb w' hR).cells Try.underlying45 (by rw [u8s_length, hl258]; exact size_lens) ⟨rfl, MapRel.refl _ _ _ _⟩
      simp only [Act.put, List.setIfInBounds_toArray, List.set_cons_zero, List.set_cons_succ]
      refine regOk_free (fun v _ => ∃ c, v = .int .i64 c) rfl (fun v _ _ hv _ => hv) (fun vs w' hR hF => ?_) ?_
      · simp at hF
        obtain ⟨c, hc⟩ := hlook w' hR
        exact gives_lookup 61 _ _ (.map (some g)) (.agg (u8s l).toArray) rfl hF.1 hF.2 hc ⟨⟨c, rfl⟩, MapRel.refl _ _ _ _⟩
      simp only [Act.put, List.setIfInBounds_toArray, List.set_cons_zero, List.set_cons_succ]
      refine regOk_free (fun v _ => ∃ c, v = .int .i64 c) rfl (fun v _ _ hv _ => hv) (fun vs w' hR hF => ?_) ?_
      · simp at hF
        obtain ⟨c, hc⟩ := hF
        unfold Mono.gives
        go_simp
        exact ⟨⟨_, rfl⟩, MapRel.refl _ _ _ _⟩
      simp only [Act.put, List.setIfInBounds_toArray, List.set_cons_zero, List.set_cons_succ]
      refine regOk_free (fun v w' => ∃ (c : Int) (st : Nat), v = .tuple #[.int .i64 c, goInt st] ∧ MapE w' g acc' st) rfl (fun v _ _ ⟨c, st, hv, hm⟩ hr => ⟨c, st, hv, hr.2.2 st hm⟩) (fun vs w' hR hF => ?_) ?_
      · simp at hF
        obtain ⟨c, st, w2, hrun, hE, hgr, hsame⟩ : ∃ (c : Int) (st : Nat) (w2 : World), (Instr.mapEntry 61 (.map (some g)) (keyV l)).run Try.prog w' = .ok (.tuple #[.int .i64 c, goInt st]) w2 ∧ MapE w2 g acc' st ∧ w'.grownBy w2 (some g) ∧ (MapB w' g acc' → w2.heap[g]? = w'.heap[g]?) := by
          rcases hwm w' hR with hq | hq
          · obtain ⟨c, st, w2, h1, h2, h3, h4⟩ := run_entry mapTy hq hacc hkl
            rw [Hac'.out] at h2
            exact ⟨c, st, w2, h1, h2, h3, fun hb => h4 (hq.mem_of hb Hac'.out)⟩
          · obtain ⟨c, st, w2, h1, h2, h3, h4⟩ := run_entry mapTy hq hacc' hkl
            rw [← Hac'.out, addKey_again, Hac'.out] at h2
            exact ⟨c, st, w2, h1, h2, h3, fun _ => h4 (by rw [← Hac'.out]; exact mem_addKey _ _)⟩
        exact gives_mapEntry 61 _ _ (.map (some g)) (.agg (u8s l).toArray) rfl hF.1 hF.2.1 hrun ⟨⟨c, st, rfl, hE⟩, hgr, fun _ => .inr hE.toB, fun st' h' => h'.of_heap (hsame h'.toB)⟩
      simp only [Act.put, List.setIfInBounds_toArray, List.set_cons_zero, List.set_cons_succ]
      refine regOk_free (fun v w' => ∃ st : Nat, v = goInt st ∧ MapE w' g acc' st) rfl (fun v _ _ ⟨st, hv, hm⟩ hr => ⟨st, hv, hr.2.2 st hm⟩) (fun vs w' hR hF => ?_) ?_
      · simp at hF
        obtain ⟨c, st, hv, hE⟩ := hF
        unfold Mono.gives
        go_simp
        exact ⟨⟨st, rfl, hE⟩, MapRel.refl _ _ _ _⟩
      simp only [Act.put, List.setIfInBounds_toArray, List.set_cons_zero, List.set_cons_succ]
      refine regOk_free (fun v w' => ∃ st : Nat, MapE w' g acc' st) rfl (fun v _ _ ⟨st, hm⟩ hr => ⟨st, hr.2.2 st hm⟩) (fun vs w' hR hF => ?_) ?_
      · simp at hF
        obtain ⟨e0, ⟨st, e5, hE⟩, ⟨c, e3⟩, _⟩ := hF
        obtain ⟨w2, hrun, hE2, hgr, hk⟩ := run_entryStore (P := Try.prog) (t := 61) hE c
        exact gives_entryStore 61 _ _ _ (.map (some g)) (goInt st) (.int .i64 c) rfl e0 e5 e3 hrun ⟨⟨st, hE2⟩, hgr, fun _ => .inr hE2.toB, fun st' h' => hk _ _ h'⟩
      simp only [Act.put]
      refine Mono.regOk_nil fun vs w' hR hF => ?_
      simp at hF
      obtain ⟨_, st, hE⟩ := hF
      have hbe : Below g w w' := hb.trans ⟨hR.1.os, hR.1.tape, hR.1.output, hR.1.size, fun k hk => hR.1.block k (by have := hm.lt; exact Nat.lt_trans hk this) (by simp; omega)⟩
      go_wp2_with fail
      go_roundw
      case rel => exact ⟨k + 1, by omega, by go_num, by rw [hst.out]; exact hE.toB, hbe⟩
      case measure => simp [intOf]; omega
    · obtain rfl : k = ls.length := by omega
      rw [List.take_length] at hm
      have hlen := map_len (P := Try.prog) hm mapTy.ht
      go_wp2_with fail
      go_ret
      exact ⟨rfl, by rw [Hg.out]; exact hb⟩
end Go.Proofs.Yteaapmfpojeibaa
