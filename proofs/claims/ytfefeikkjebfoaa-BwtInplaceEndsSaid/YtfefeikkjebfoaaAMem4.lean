/-
  THE ABSTRACT MACHINE's MEMORY OPERATIONS: append, copy, clear. Conditions: none.
-/
import Derived.Test.YtfefeikkjebfoaaAMem3
namespace Go.Proofs.Ytfefeikkjebfoaa
namespace AM
open Go Go.RowKit

section
variable {P : Program} {X : Emb} {fr : Fr} {a : Act} {o : Oper} {v : Value} {w0 w : World} {σ σ' : St}

/-- What an append or a copy reads. -/
theorem news_src {esz m : Nat} {y u : Value} {vs : List Value} (S : Sim w0 X σ w) (hr : relV X y u) (h : σ.news esz y = some (m, vs)) (h0 : 0 < esz) :
    ∃ us : List Value, rel2 (relC X) vs us ∧ vs.length = m * esz ∧ (∀ w', (Builtin.lenOf u).run P w' = .ok m w') ∧ ∀ k, k ≤ m → ∀ w' : World, w'.heap = w.heap → (Builtin.firstCells esz k u).run P w' = .ok (us.take (k * esz)).toArray w' := by
  unfold St.news at h
  split at h
  · cases h
    have := relV_nilslice hr
    subst this
    exact ⟨[], rel2.nil, by simp, fun w' => rfl, fun k _ w' _ => by simp [Builtin.firstCells]⟩
  · rename_i b n e
    simp only [Option.bind_eq_some_iff] at h
    obtain ⟨⟨pl, cs⟩, hb, h⟩ := h
    simp only at h
    split at h
    · rename_i hle
      cases h
      obtain ⟨ra, c, rfl, h2⟩ := relV_slice hr
      have hlen : ((cs.drop b.off).take (m * esz)).length = m * esz := by simp; omega
      rcases Nat.eq_zero_or_pos m with rfl | hm
      · refine ⟨[], by simpa using rel2.nil, hlen, fun w' => rfl, fun k hk w' _ => ?_⟩
        obtain rfl : k = 0 := by omega
        simp [Builtin.firstCells, loadCells, loadCellsFrom]
      · obtain ⟨hn', hmx, bx, hx', s', hs', hl', hr'⟩ := h2
        obtain ⟨rs, r1, r2⟩ := S.readCells (ra := ra) hb ⟨bx, hx', s', hs', hl', fun e => (hr' e).1 (.inl hm)⟩ hle
        refine ⟨rs, r1, hlen, fun w' => rfl, fun k hk w' hw => ?_⟩
        have hkm : k * esz ≤ m * esz := Nat.mul_le_mul_right _ hk
        have hl2 : (rs.take (k * esz)).length = k * esz := by rw [List.length_take, ← r1.1, hlen]; omega
        have := run_loadCells_list (P := P) w' ra (rs.take (k * esz)) (fun j v hv => by
          have hj : j < k * esz := by rw [← hl2]; exact (List.getElem?_eq_some_iff.1 hv).1
          rw [List.getElem?_take_of_lt hj] at hv
          rw [World.cell?_of_block (w := w) (by rw [hw])]
          exact r2 j v hv)
        rw [hl2] at this
        simpa [Builtin.firstCells] using this
    · cases h
  · rename_i s
    split at h
    · rename_i he
      subst he
      cases h
      have := relV_string hr
      subst this
      refine ⟨strCells s, rel2_sc_refl (strCells_sc s), by rw [strCells_length]; omega, fun w' => rfl, fun k hk w' _ => ?_⟩
      have : (Array.map (fun b : UInt8 => Value.int .u8 b.toNat) (s.extract 0 k).data) = ((strCells s).take (k * 1)).toArray := by
        apply Array.toList_inj.1
        rw [Array.toList_map, ByteArray.data_extract, Array.toList_extract]
        simp [strCells, List.map_take]
      simp only [Builtin.firstCells, this, Sem.run_pure]
    · cases h
  · cases h

theorem run_append_more {t u ty e : TypeId} {q : TypeDesc} {i : TypeInfo} {z : Value} (ht : P.underlying t = some (.slice e)) (hu : P.underlying u = some q) (hq : ∀ k, q ≠ .int k) (hi : P.info? e = some i) (hz : i.zero = some z) (base : Option Addr) (n c m : Nat) (y : Value) (olds news : List Value)
    (hlen : ∀ w', (Builtin.lenOf y).run P w' = .ok m w') (hnew : ∀ w' : World, w'.heap = w.heap → (Builtin.firstCells i.size m y).run P w' = .ok news.toArray w') (hold : ∀ w' : World, w'.heap = w.heap → (Builtin.firstCells i.size n (.slice base n c)).run P w' = .ok olds.toArray w')
    (hg : c < n + m) (h63 : n + m ≤ 1048576) (hby : i.bytes ≤ 4194304) :
    (Builtin.append_ #[t, u] ty #[.slice base n c, y]).run P w = .ok (.slice (some ⟨w.heap.size, 0, none⟩) (n + m) (grownCap w (n + m) c e))
      (w.drew.alloc (.cells (olds.toArray ++ news.toArray ++ Builtin.zeroCells z.cells (grownCap w (n + m) c e - (n + m))) e)) := by
  have hn : ¬ (n + m ≤ c) := by omega
  have h63' : ¬ (9223372036854775807 < ((n : Int) + (m : Int))) := by omega
  have hfit : Builtin.nextslicecap (n + m) c * i.bytes ≤ 281474976710656 := growslice_fits hg (Nat.le_trans (Nat.mul_le_mul h63 hby) (by omega))
  have h48' : ¬ (281474976710656 < Builtin.nextslicecap (n + m) c * i.bytes) := by omega
  have hnew1 := hnew w.drew rfl
  have hold1 := hold w.drew rfl
  simp [Builtin.append_, run_underlying ht, run_underlying hu, sizeOf, typeInfo, zeroValue, hi, hz, hlen, hn, h63', h48', Question.forced, hnew1, hold1, newRow, grownCap]
  congr 2
  apply Array.ext'
  simp [List.append_assoc]
theorem run_append_fits {t u ty e : TypeId} {q : TypeDesc} {i : TypeInfo} (ht : P.underlying t = some (.slice e)) (hu : P.underlying u = some q) (hq : ∀ k, q ≠ .int k) (hi : P.info? e = some i) (base : Option Addr) (n c m : Nat) (y : Value) (news : List Value) {w' : World}
    (hlen : ∀ w', (Builtin.lenOf y).run P w' = .ok m w') (hnew : (Builtin.firstCells i.size m y).run P w = .ok news.toArray w) (hst : match base with | some b => (storeCells (b.add (n * i.size)) news).run P w = .ok () w' | none => w' = w)
    (hg : n + m ≤ c) : (Builtin.append_ #[t, u] ty #[.slice base n c, y]).run P w = .ok (.slice base (n + m) c) w' := by
  cases base with
  | none => simp only at hst; subst hst; simp [Builtin.append_, run_underlying ht, run_underlying hu, sizeOf, typeInfo, hi, hlen, hg, hnew]
  | some b => simp only at hst; simp [Builtin.append_, run_underlying ht, run_underlying hu, sizeOf, typeInfo, hi, hlen, hg, hnew, hst]
theorem zeroCells_size (z : Array Value) (n : Nat) : (Builtin.zeroCells z n).size = n * z.size := size_zeroCells z n
theorem putAt_get : ∀ (us l : List Value) (off j : Nat), off + us.length ≤ l.length → (putAt l off us)[j]? = if off ≤ j ∧ j < off + us.length then us[j - off]? else l[j]?
  | [], l, off, j, _ => by simp [putAt]; omega
  | u :: us, l, off, j, h => by
    simp only [List.length_cons] at h
    rw [putAt, putAt_get us (l.set off u) (off + 1) j (by simp; omega)]
    simp only [List.length_cons]
    by_cases h1 : off + 1 ≤ j ∧ j < off + 1 + us.length
    · rw [if_pos h1, if_pos (by omega), show j - off = (j - (off + 1)) + 1 by omega, List.getElem?_cons_succ]
    · rw [if_neg h1]
      by_cases h2 : j = off
      · subst h2
        rw [if_pos (by omega), List.getElem?_set_self (by omega), Nat.sub_self, List.getElem?_cons_zero]
      · rw [if_neg (by omega), List.getElem?_set_ne (fun e => h2 e.symm)]
theorem relV_slice_mk {b ra : Addr} {n e c : Nat} (h : relSl X b n e ra c) : relV X (.slice (some b) n e) (.slice (some ra) n c) := ⟨ra, c, rfl, h⟩

set_option maxHeartbeats 1000000 in
theorem append_does {c : Call} {x y : Operand} {t u e : TypeId} {q : TypeDesc} {s : Nat} {zs : List Value} {pl : Bool} {callf : CallF} (ho : o.op = .call c) (hb : c.callee = .builtin .append) (hc : c.args.toList = [x, y]) (hct : c.argTypes.toList = [t, u]) (ht : P.underlying t = some (.slice e)) (hu : P.underlying u = some q) (hq : ∀ k, q ≠ .int k)
    (hs : sizeTy P e = some s) (hz : zeroTy P e = some zs) (h0 : 0 < s) (hsb : smallBytes P e = true) (S : Sim w0 X σ w) (hx : ∀ v, ev fr x = some v → relV X v (a.eval x)) (hy : ∀ v, ev fr y = some v → relV X v (a.eval y))
    (h : aop callf (.append pl s x y) fr σ = some (v, σ')) : Does P w0 o a X σ w v σ' := by
  simp only [aop, Option.bind_eq_some_iff] at h
  obtain ⟨x0, hx0, y0, hy0, ⟨m, vs⟩, hn, h⟩ := h
  simp only at h
  obtain ⟨i, z, hi, hz1, hz2, hz3, hz4, hz5⟩ := zero_info hz
  have his : i.size = s := by simp [sizeTy, hi] at hs; exact hs
  have hzsz : z.cells.size = s := by omega
  have hby : i.bytes ≤ 4194304 := by simpa [smallBytes, bytesTy, hi] using hsb
  obtain ⟨us, r1, r2, r3, r4⟩ := news_src (P := P) S (hy y0 hy0) hn h0
  have hul : us.length = m * s := by rw [← r1.1, r2]
  have hfirst : ∀ w' : World, w'.heap = w.heap → (Builtin.firstCells i.size m (a.eval y)).run P w' = .ok us.toArray w' := fun w' hw => by
    have := r4 m (Nat.le_refl _) w' hw
    rw [his, this, List.take_of_length_le (by omega)]
  obtain ⟨ks, hks⟩ := run_builtin (P := P) (a := a) ho hb w
  rw [args_two hc, types_two hct] at hks
  simp only [List.map_toArray, List.map_cons, List.map_nil, builtin] at hks
  have fin : ∀ {r : Value} {w' : World}, (Builtin.append_ #[t, u] o.type #[a.eval x, a.eval y]).run P w = .ok r w' → (execOp a.eval o).run P w = .ok (.value r) w' := fun hr => by
    rw [hks]; simp only [Sem.run_bind, hr, Result.andThen_ok, Sem.run_pure]
  have hsum : ∀ k, k * s ≤ 1048576 → k ≤ 1048576 := fun k hk => Nat.le_trans (Nat.le_mul_of_pos_right k h0) hk
  have newblk : ∀ (A0 : Option Addr), a.eval x = .slice A0 0 0 → ¬ m = 0 → (small (m * s) && vs.all cellv && (!pl || vs.all sc)) = true → (v, σ') = (Value.slice (some ⟨σ.heap.length, 0, some (m * s)⟩) m s, { σ with heap := σ.heap ++ [.cells (m * s) pl vs] }) → Does P w0 o a X σ w v σ' := by
    intro A0 e1 hm hk heq
    cases heq
    simp only [Bool.and_eq_true, decide_eq_true_eq, Bool.or_eq_true, Bool.not_eq_true', small] at hk
    have hm1 := hsum m hk.1.1
    have hrun := run_append_more (P := P) (w := w) (ty := o.type) ht hu hq hi hz1 A0 0 0 m (a.eval y) [] us r3 hfirst (fun w' _ => by
      cases A0 with
      | none => simp [Builtin.firstCells]
      | some ra =>
        have := run_loadCells_list (P := P) w' ra [] (fun j v hv => by simp at hv)
        simpa [Builtin.firstCells] using this) (by omega) (by omega) hby
    simp only [Nat.zero_add] at hrun
    have hcap : m ≤ grownCap w m 0 e ∧ grownCap w m 0 e ≤ maxLen := ⟨grownCap_ge w _ _ _, grownCap_le_maxLen w _ _ _ (by simp only [maxLen]; omega)⟩
    generalize grownCap w m 0 e = cap at *
    have hsz : (([] : List Value).toArray ++ us.toArray ++ Builtin.zeroCells z.cells (cap - m)).size = cap * s := by
      simp only [Array.size_append, List.size_toArray, List.length_nil, zeroCells_size, hzsz, hul]
      rw [Nat.zero_add, ← Nat.add_mul]
      congr 1
      omega
    have hpos : 0 < m * s := Nat.mul_pos (by omega) h0
    obtain ⟨g1, g2, g3⟩ := sim_new (w' := w.drew.alloc (.cells (([] : List Value).toArray ++ us.toArray ++ Builtin.zeroCells z.cells (cap - m)) e)) (g := m * s) (pl := pl) (cs := vs) S (heap_alloc w.drew _) rfl rfl rfl (.inl rfl) (by rw [r2]; exact Nat.le_refl _)
      (by rw [hsz, r2]; exact Nat.mul_le_mul_right _ hcap.1) (fun e => hk.2.resolve_left (by simp [e])) (fun j p hp => by
        obtain ⟨q', hq', hr⟩ := r1.get hp
        refine ⟨q', ?_, hr⟩
        have hj := (List.getElem?_eq_some_iff.1 hq').1
        rw [Array.getElem?_append_left (by simp; exact hj)]
        simpa using hq') (fun h0' => by omega)
    refine ⟨g3, _, _, _, _, fin (by rw [e1]; exact hrun), .inl rfl, relV_slice_mk (new_slice (if_pos rfl) hcap.1 hcap.2 (fun _ => ?_)), g1, g2⟩
    rw [hsz, r2]
    exact ⟨Nat.mul_le_mul_right _ hcap.1, Nat.le_refl _⟩
  unfold St.append at h
  split at h
  · have e1 := relV_nilslice (hx _ hx0)
    split at h
    · rename_i hm
      subst hm
      cases h
      refine ⟨Ast.refl _, _, .slice none 0 0, w, X, fin (by rw [e1]; exact run_append_fits ht hu hq hi none 0 0 0 _ us r3 (hfirst w rfl) rfl (Nat.le_refl _)), .inl rfl, (relV_sc rfl).2 rfl, S, Stp.refl _ _ _⟩
    · rename_i hm
      split at h
      · rename_i hk
        exact newblk none e1 hm hk (by cases h; rfl)
      · cases h
  · rename_i ad n e'
    obtain ⟨ra, c', e1, hsl⟩ := relV_slice (hx _ hx0)
    split at h
    · rename_i hm
      subst hm
      cases h
      have hus : us = [] := List.eq_nil_of_length_eq_zero (by omega)
      subst hus
      have := run_append_fits (P := P) (w := w) (ty := o.type) ht hu hq hi (some ra) n c' 0 (a.eval y) [] r3 (hfirst w rfl) (w' := w) rfl (by simpa using hsl.1)
      refine ⟨Ast.refl _, _, .slice (some ra) n c', w, X, fin (by rw [e1]; exact this), .inl rfl, relV_slice_mk hsl, S, Stp.refl _ _ _⟩
    · rename_i hm
      split at h
      · split at h
        · rename_i hbare
          simp only [Bool.and_eq_true, decide_eq_true_eq] at hbare
          obtain ⟨hbare, rfl⟩ := hbare
          obtain ⟨pl', hblk⟩ : ∃ pl', σ.blk ad = some (pl', []) := by
            unfold St.bare at hbare
            split at hbare
            · rename_i hb; exact ⟨_, hb⟩
            · cases hbare
          obtain ⟨hhid, g, hg, hsp⟩ := blk_inv hblk
          obtain ⟨hnc, hcm, bx, hbx, s', hs', hle, hsr⟩ := hsl
          obtain ⟨c1, c2, _⟩ := S.cell _ bx g pl' [] hbx hhid hg
          rw [hsp] at hs'
          cases hs'
          obtain ⟨_, k3⟩ := (hsr c1).2 h0
          have hz0 := S.zero _ bx hbx c2.symm
          have hc0 : c' = 0 := by
            rcases Nat.eq_zero_or_pos c' with h | h
            · exact h
            · have := Nat.mul_pos h h0; omega
          have hn0 : n = 0 := by omega
          subst hc0; subst hn0
          split at h
          · rename_i hk
            exact newblk (some ra) e1 hm hk (by cases h; rfl)
          · cases h
        · cases h
      · rename_i hlk
        simp only [Bool.or_eq_true, decide_eq_true_eq, not_or, ne_eq, Decidable.not_not] at hlk
        obtain ⟨hlk, rfl⟩ := hlk
        simp only [Option.bind_eq_some_iff] at h
        obtain ⟨⟨pl', cs⟩, hblk, h⟩ := h
        simp only at h
        split at h
        · rename_i hck
          simp only [Bool.and_eq_true, Bool.or_eq_true, Bool.not_eq_true'] at hck
          obtain ⟨hhid, g, hg, hsp⟩ := blk_inv hblk
          have hsl' := hsl
          obtain ⟨hnc, hcm, bx, hbx, s', hs', hle, hsr⟩ := hsl'
          obtain ⟨c1, c2, c3, c4, c5, c6⟩ := S.cell _ bx g pl' cs hbx hhid hg
          rw [hsp] at hs'
          cases hs'
          have hown := S.lock _ bx hbx (by omega)
          obtain ⟨o1, rs, ty, lo, hi', o2, o3, o4, o5⟩ := c6 hown
          obtain ⟨k1, k2⟩ := hsr c1
          obtain ⟨k2, k3⟩ := k2 h0
          split at h
          · rename_i hend
            split at h
            · rename_i hoff
              cases h
              simp only [Bool.and_eq_true, decide_eq_true_eq, small] at hoff
              obtain ⟨hoff, hsm⟩ := hoff
              have hra := k1 (.inr hoff)
              rw [hoff, o1, Nat.zero_add] at hra
              rw [hoff, Nat.zero_add] at hend k2 k3
              have hnm := hsum _ hsm
              have hgl : (cs ++ vs).length = (n + m) * e' := by rw [List.length_append, r2, ← hend, Nat.add_mul]
              have hpos : 0 < m * e' := Nat.mul_pos (by omega) h0
              have hcs : rel2 (relC X) cs (rs.toList.take cs.length) := by
                refine ⟨by simp; omega, fun i p q hp hq => ?_⟩
                obtain ⟨u, hu, hr'⟩ := c5 i p hp
                have hil : i < cs.length := (List.getElem?_eq_some_iff.1 hp).1
                simp only [World.cell?, o2, o1, Nat.zero_add] at hu
                rw [List.getElem?_take_of_lt hil] at hq
                simp at hu hq
                rw [hq] at hu
                cases hu
                exact hr'
              by_cases hroom : n + m ≤ c'
              · have hfit : (n + m) * e' ≤ c' * e' := Nat.mul_le_mul_right _ hroom
                have hnme : (n + m) * e' = n * e' + m * e' := Nat.add_mul _ _ _
                obtain ⟨w', f1, f2, f3, f4, f5, f6, f7⟩ := run_storeCells_fr (P := P) bx.b (n * e') ty lo hi' us 0 rs w o2 (by omega) (by omega) (fun u hu => by
                  obtain ⟨i, hi⟩ := List.mem_iff_getElem?.1 hu
                  have hil : i < vs.length := by rw [r1.1]; exact (List.getElem?_eq_some_iff.1 hi).1
                  exact relC_one (r1.2 i _ u (List.getElem?_eq_getElem hil) hi))
                have hadd : ra.add (n * i.size) = ⟨bx.b, n * e', none⟩ := by rw [hra, his, add_lit, Nat.zero_add]
                have hrun := run_append_fits (P := P) (w := w) (ty := o.type) ht hu hq hi (some ra) n c' m (a.eval y) us r3 (hfirst w rfl) (w' := w') (by simp only; rw [hadd]; exact f1) hroom
                have hsim := sim_grow (g' := (n + m) * e') (vs := vs) (d := addDirty σ ad.block vs) S hbx (by omega) hhid hg (b' := bx.b) f2 (by omega) (.inl rfl) (fun k _ hk => f4 k hk) f5 f6 f7 (by omega) (by omega) (by simp [putAt_length]; omega) (by simp [putAt_length]; omega) (fun e => hck.2.resolve_left (by simp [e]))
                  (fun j p hp => by
                    have hjl : j < (n + m) * e' := by rw [← hgl]; exact (List.getElem?_eq_some_iff.1 hp).1
                    have hput : (putAt rs.toList (n * e' + 0) us).toArray[j]? = if n * e' ≤ j ∧ j < n * e' + us.length then us[j - n * e']? else rs.toList[j]? := by
                      have := putAt_get us rs.toList (n * e') j (by simp; omega)
                      simpa using this
                    rw [hput]
                    by_cases hj : j < cs.length
                    · rw [List.getElem?_append_left hj] at hp
                      rw [if_neg (by omega)]
                      obtain ⟨u, hu, hr⟩ := hcs.get hp
                      rw [List.getElem?_take_of_lt hj] at hu
                      exact ⟨u, hu, hr⟩
                    · rw [List.getElem?_append_right (by omega)] at hp
                      rw [if_pos (by omega), ← hend] at *
                      exact r1.get hp)
                  dirty_ok.1 dirty_ok.2.1 (fun hnd => flat_sc (dirty_ok.2.2 hnd))
                obtain ⟨g1, g2, g3⟩ := hsim
                refine ⟨g3, _, .slice (some ra) (n + m) c', w', _, fin (by rw [e1]; exact hrun), .inl rfl, relV_slice_mk ?_, g1, g2⟩
                rw [hra]
                refine new_slice (if_pos rfl) hroom hcm (fun _ => ?_)
                rw [hgl]
                exact ⟨hfit, by simp [putAt_length]; omega⟩
              · have hrd := S.readCells (a := ad) (ra := ra) (n := n * e') hblk ⟨bx, hbx, g, hsp, hle, fun _ => by rw [hra, o1, hoff]⟩ (by rw [hoff]; omega)
                obtain ⟨olds, p1, p2⟩ := hrd
                rw [hoff, List.drop_zero, List.take_of_length_le (by omega)] at p1
                have hol : olds.length = n * e' := by rw [← p1.1]; omega
                have hrun := run_append_more (P := P) (w := w) (ty := o.type) ht hu hq hi hz1 (some ra) n c' m (a.eval y) olds us r3 hfirst (fun w' hw => by
                  have := run_loadCells_list (P := P) w' ra olds (fun j v hv => by rw [World.cell?_of_block (w := w) (by rw [hw])]; exact p2 j v hv)
                  rw [hol] at this
                  simpa [Builtin.firstCells, his] using this) (by omega) hnm hby
                have hcap : n + m ≤ grownCap w (n + m) c' e ∧ grownCap w (n + m) c' e ≤ maxLen := ⟨grownCap_ge w _ _ _, grownCap_le_maxLen w _ _ _ (by simp only [maxLen]; omega)⟩
                generalize grownCap w (n + m) c' e = cap at *
                have hsz : (olds.toArray ++ us.toArray ++ Builtin.zeroCells z.cells (cap - (n + m))).size = cap * e' := by
                  simp only [Array.size_append, List.size_toArray, zeroCells_size, hzsz, hul, hol]
                  rw [← Nat.add_mul, ← Nat.add_mul]
                  congr 1
                  omega
                have hrl := p1.append r1
                have hsim := sim_grow (w' := w.drew.alloc (.cells (olds.toArray ++ us.toArray ++ Builtin.zeroCells z.cells (cap - (n + m))) e)) (g' := (n + m) * e') (vs := vs) (d := addDirty σ ad.block vs) S hbx (by omega) hhid hg (b' := w.heap.size) (rs' := olds.toArray ++ us.toArray ++ Builtin.zeroCells z.cells (cap - (n + m))) (ty := e) (lo := 0) (hi := 0)
                  (by rw [heap_alloc]; exact Array.getElem?_push_size) (by rw [heap_alloc]; simp) (.inr (Nat.le_refl _)) (fun k hk _ => by rw [heap_alloc, Array.getElem?_push, if_neg (by show ¬ k = w.heap.size; omega)]; rfl) rfl rfl rfl (by have := Nat.add_mul n m e'; omega) (by omega) (.inl rfl) (by rw [hsz, hgl]; exact Nat.mul_le_mul_right _ hcap.1) (fun e => hck.2.resolve_left (by simp [e]))
                  (fun j p hp => by
                    obtain ⟨u, hu, hr⟩ := hrl.get hp
                    refine ⟨u, ?_, hr⟩
                    have hj := (List.getElem?_eq_some_iff.1 hu).1
                    rw [Array.getElem?_append_left (by simpa using hj)]
                    simpa using hu)
                  dirty_ok.1 dirty_ok.2.1 (fun hnd => flat_sc (dirty_ok.2.2 hnd))
                obtain ⟨g1, g2, g3⟩ := hsim
                refine ⟨g3, _, _, _, _, fin (by rw [e1]; exact hrun), .inl rfl, relV_slice_mk (new_slice (if_pos rfl) hcap.1 hcap.2 (fun _ => ?_)), g1, g2⟩
                rw [hsz, hgl]
                exact ⟨Nat.mul_le_mul_right _ hcap.1, Nat.le_refl _⟩
            · cases h
          · split at h
            · rename_i hov
              simp only [Bool.and_eq_true, decide_eq_true_eq, Bool.or_eq_true] at hov
              simp only [Option.map_eq_some_iff] at h
              obtain ⟨σ1, hw1, h⟩ := h
              cases h
              have hra := k1 hov.2
              have hnme : (n + m) * e' = n * e' + m * e' := Nat.add_mul _ _ _
              have hroom : n + m ≤ c' := by
                have : (n + m) * e' ≤ c' * e' := by omega
                exact Nat.le_of_mul_le_mul_right this h0
              have hrelA : relA X { ad with off := ad.off + n * e' } (ra.add (n * e')) := relA.add ⟨bx, hbx, g, hsp, hle, fun _ => hra⟩ _
              obtain ⟨ha, w', f1, f2, f3⟩ := write_does (P := P) S hrelA r1 hw1
              have hrun := run_append_fits (P := P) (w := w) (ty := o.type) ht hu hq hi (some ra) n c' m (a.eval y) us r3 (hfirst w rfl) (w' := w') (by simp only; rw [his]; exact f1) hroom
              refine ⟨ha, _, .slice (some ra) (n + m) c', w', X, fin (by rw [e1]; exact hrun), .inl rfl, relV_slice_mk ⟨hroom, hcm, bx, hbx, g, hsp, hle, fun h => ⟨fun _ => hra, fun _ => ⟨k2, k3⟩⟩⟩, f2, f3⟩
            · cases h
        · cases h
  · cases h

end
end AM
end Go.Proofs.Ytfefeikkjebfoaa
