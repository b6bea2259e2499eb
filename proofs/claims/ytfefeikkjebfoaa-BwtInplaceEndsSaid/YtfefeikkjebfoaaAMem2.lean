/-
  THE ABSTRACT MACHINE's MEMORY OPERATIONS, one by one. Conditions: none.
-/
import Derived.Test.YtfefeikkjebfoaaAMem
import Derived.Laws.MakeOwn
import Derived.Laws.AppendOwn
import Derived.Laws.BytesArg
namespace Go.Proofs.Ytfefeikkjebfoaa
namespace AM
open Go Go.RowKit

section
variable {P : Program} {X : Emb} {fr : Fr} {a : Act} {o : Oper} {v : Value} {w0 w : World} {σ σ' : St}

/-- What an operation does: its result stands for the abstract one's. -/
def Does (P : Program) (w0 : World) (o : Oper) (a : Act) (X : Emb) (σ : St) (w : World) (v : Value) (σ' : St) : Prop :=
  Ast σ σ' ∧ ∃ n u w' X', (execOp a.eval o).run P w = .ok n w' ∧ (n = .value u ∨ (n = .skip ∧ u = undef)) ∧ relV X' v u ∧ Sim w0 X' σ' w' ∧ Stp X σ w X' w'
theorem Gives.does (S : Sim w0 X σ w) (h : Gives P o a w X v) : Does P w0 o a X σ w v σ := by
  obtain ⟨u, h1, h2⟩ := h
  exact ⟨Ast.refl _, _, u, w, X, h1, .inl rfl, h2, S, Stp.refl _ _ _⟩

theorem run_storeCells_fr (b off : Nat) (ty : TypeId) (lo hi : Nat) : ∀ (us : List Value) (i : Nat) (rs : Array Value) (w : World), w.heap[b]? = some (.cells rs ty (lo, hi)) → (hi = lo ∨ rs.size ≤ lo) → off + i + us.length ≤ rs.size → (∀ u ∈ us, u.oneCell' = true) →
    ∃ w', (storeCells ⟨b, off, none⟩ us i).run P w = .ok () w' ∧ w'.heap[b]? = some (.cells (putAt rs.toList (off + i) us).toArray ty (lo, hi)) ∧ w'.heap.size = w.heap.size ∧ (∀ k, k ≠ b → w'.heap[k]? = w.heap[k]?) ∧ w'.os = w.os ∧ w'.tape = w.tape ∧ w'.output = w.output
  | [], i, rs, w, hg, _, _, _ => ⟨w, rfl, by simpa [putAt] using hg, rfl, fun _ _ => rfl, rfl, rfl, rfl⟩
  | u :: us, i, rs, w, hg, hf, hl, h1 => by
    have hi' : off + i < rs.size := by simp at hl; omega
    have hadd : (⟨b, off, none⟩ : Addr).add i = ⟨b, off + i, none⟩ := add_lit b off i
    have hcell : w.cell? ⟨b, off + i, none⟩ = some rs[off + i] := by simp [World.cell?, hg, hi']
    have hfro : w.frozen? ⟨b, off + i, none⟩ = false := by
      simp only [World.frozen?, hg, Bool.and_eq_false_iff, decide_eq_false_iff_not]
      omega
    have hst : (store ((⟨b, off, none⟩ : Addr).add i) u).run P w = .ok () (w.setCell ⟨b, off + i, none⟩ u) := by
      rw [hadd, run_store P w _ u _ (h1 u (by simp)), hcell]
      simp [hfro]
    have hset : (w.setCell ⟨b, off + i, none⟩ u).heap[b]? = some (.cells (rs.setIfInBounds (off + i) u) ty (lo, hi)) := by
      simp [World.setCell, Array.getElem?_modify, hg]
    obtain ⟨w', e1, e2, e3, e4, e5, e6, e7⟩ := run_storeCells_fr b off ty lo hi us (i + 1) (rs.setIfInBounds (off + i) u) (w.setCell ⟨b, off + i, none⟩ u) hset (by simpa using hf) (by simp at hl ⊢; omega) (fun x hx => h1 x (by simp [hx]))
    refine ⟨w', by simp only [storeCells, Sem.run_bind, hst, Result.andThen_ok, e1], ?_, by rw [e3]; simp [World.setCell], fun k hk => ?_, e5, e6, e7⟩
    · rw [e2]
      simp [putAt, Nat.add_assoc]
    · rw [e4 k hk, Below.heap_setCell _ _ _ _ hk]

theorem run_loadVar_rel {t : TypeId} {n : Option Nat} {ad ra : Addr} {pl : Bool} {cs : List Value} (ht : spanTy P t = some n) (S : Sim w0 X σ w) (hb : σ.blk ad = some (pl, cs)) (hr : relA X ad ra) (h : rdCells cs ad.off n = some v) :
    ∃ u, (loadVar t ra).run P w = .ok u w ∧ relF X v u := by
  cases n with
  | none =>
    obtain ⟨h1, h2⟩ := spanTy_one ht
    obtain ⟨bx, hx, hs, rfl, hc⟩ := S.read hb hr
    simp only [rdCells] at h
    obtain ⟨u, hu, hv⟩ := hc _ _ h
    exact ⟨u, by simp [loadVar, run_isAgg h1, hu], relF_of_relC hv⟩
  | some n =>
    obtain ⟨h1, h2⟩ := spanTy_agg ht
    simp only [rdCells] at h
    split at h
    · rename_i hle
      cases h
      obtain ⟨rs, h3, h4⟩ := S.readCells hb hr hle
      have hl : rs.length = n := by rw [← h3.1]; simp; omega
      have := run_loadCells_list (P := P) w ra rs h4
      rw [hl] at this
      refine ⟨.agg rs.toArray, by simp [loadVar, run_isAgg h1, run_size h2, this], ?_⟩
      simp only [relF]
      exact ⟨_, rfl, h3⟩
    · cases h
theorem load_does {t : TypeId} {n : Option Nat} {x : Operand} {callf : CallF} (ho : o.op = .load t x) (ht : spanTy P t = some n) (S : Sim w0 X σ w) (hx : ∀ v, ev fr x = some v → relV X v (a.eval x)) (h : aop callf (.load n x) fr σ = some (v, σ')) : Does P w0 o a X σ w v σ' := by
  simp only [aop] at h
  split at h
  · rename_i ad e
    simp only [Option.bind_eq_some_iff, Option.map_eq_some_iff] at h
    obtain ⟨⟨pl, cs⟩, hb, q, hq, h⟩ := h
    cases h
    obtain ⟨ra, h1, h2⟩ := relV_ptr (hx _ e)
    obtain ⟨u, hu, hr⟩ := run_loadVar_rel (P := P) ht S hb h2 hq
    exact Gives.does S ⟨u, by simp [execOp, ho, h1, Instr.loadAt, Instr.sureAddr, hu], relV_of_relF hr⟩
  · cases h

theorem dirty_ok {σ : St} {b : Nat} {vs : List Value} : (∀ t, t ∈ σ.dirty → t ∈ addDirty σ b vs) ∧ (∀ t, t ∈ addDirty σ b vs → t ∈ σ.dirty ∨ t = b) ∧ (b ∉ addDirty σ b vs → vs.all sc = true) := by
  unfold addDirty
  split
  · rename_i hc
    refine ⟨fun _ h => h, fun _ h => .inl h, fun h => ?_⟩
    simp only [Bool.or_eq_true] at hc
    rcases hc with hc | hc
    · exact hc
    · exact absurd (by simpa using hc) h
  · exact ⟨fun t h => by simp [h], fun t h => by simp at h; exact h.symm, fun h => by simp at h⟩
theorem refs_sc {v : Value} (h : sc v = true) : refsC v = [] := by
  unfold refsC
  split <;> first | rfl | simp [sc] at h
theorem flat_sc {vs : List Value} (h : vs.all sc = true) : vs.flatMap refsC = [] := by
  rw [List.flatMap_eq_nil_iff]
  intro v hv
  exact refs_sc (List.all_eq_true.1 h v hv)
theorem mem_set {l : List Value} {i : Nat} {v x : Value} (h : x ∈ l.set i v) : x ∈ l ∨ x = v := by
  rcases List.mem_or_eq_of_mem_set h with h | h
  · exact .inl h
  · exact .inr h
theorem mem_putAt : ∀ {vs l : List Value} {off : Nat} {x : Value}, x ∈ putAt l off vs → x ∈ l ∨ x ∈ vs
  | [], l, off, x, h => .inl h
  | v :: vs, l, off, x, h => by
    have h' : x ∈ putAt (l.set off v) (off + 1) vs := h
    rcases mem_putAt h' with h | h
    · rcases mem_set h with h | h
      · exact .inl h
      · exact .inr (by simp [h])
    · exact .inr (by simp [h])
/-- A write through an address. -/
theorem write_does {ad ra : Addr} {vs us : List Value} (S : Sim w0 X σ w) (hr : relA X ad ra) (hrel : rel2 (relC X) vs us) (h : σ.write ad vs = some σ') :
    Ast σ σ' ∧ ∃ w', (storeCells ra us).run P w = .ok () w' ∧ Sim w0 X σ' w' ∧ Stp X σ w X w' := by
  unfold St.write at h
  split at h
  · cases h
  · rename_i hlk
    simp only [Option.bind_eq_some_iff] at h
    obtain ⟨⟨pl, cs⟩, hb, h⟩ := h
    simp only at h
    split at h
    · rename_i hc
      simp only [Bool.and_eq_true, decide_eq_true_eq, Bool.or_eq_true, Bool.not_eq_true'] at hc
      split at h
      · rename_i g pl' cs' hg
        cases h
        obtain ⟨hhid, g0, hg0, hsp⟩ := blk_inv hb
        rw [hg] at hg0
        cases hg0
        obtain ⟨bx, hx, hs, rfl, hcell⟩ := S.read hb hr
        have hown := S.lock _ bx hx (by omega)
        obtain ⟨c1, c2, c3, c4, c5, c6⟩ := S.cell _ bx g pl cs hx hhid hg
        obtain ⟨o1, rs, ty, lo, hi, o2, o3, o4, o5⟩ := c6 hown
        rw [o1, Nat.zero_add]
        have hlen : us.length = vs.length := hrel.1.symm
        obtain ⟨w', e1, e2, e3, e4, e5, e6, e7⟩ := run_storeCells_fr (P := P) bx.b ad.off ty lo hi us 0 rs w o2 (by omega) (by omega) (fun u hu => by
          obtain ⟨i, hi⟩ := List.mem_iff_getElem?.1 hu
          have hil : i < vs.length := by rw [← hlen]; exact (List.getElem?_eq_some_iff.1 hi).1
          exact relC_one (hrel.2 i _ u (List.getElem?_eq_getElem hil) hi))
        have hcs : rel2 (relC X) cs (rs.toList.take cs.length) := by
          refine ⟨by simp; omega, fun i p q hp hq => ?_⟩
          obtain ⟨u, hu, hr'⟩ := c5 i p hp
          have hil : i < cs.length := (List.getElem?_eq_some_iff.1 hp).1
          simp only [World.cell?, o2, o1, Nat.zero_add] at hu
          rw [List.getElem?_take_of_lt hil] at hq
          simp at hu hq
          rw [hq] at hu
          cases hu
          exact hr'
        have hput := hcs.putAt ad.off hrel
        have hsim := sim_write S (cs' := putAt cs ad.off vs) (d := addDirty σ ad.block vs) hx (by omega) hhid hg o2 e2 e3 e4 e5 e6 e7 (putAt_length _ _ _) (by simp [putAt_length]) (fun e => by
            rw [List.all_eq_true]
            intro x hx'
            rcases mem_putAt hx' with h' | h'
            · exact List.all_eq_true.1 (c4 e) x h'
            · exact List.all_eq_true.1 (hc.2.resolve_left (by simp [e])) x h')
          (fun j p hp => by
            obtain ⟨u, hu, hr'⟩ := hput.get hp
            refine ⟨u, ?_, hr'⟩
            have hjl : j < cs.length := by rw [← putAt_length vs cs ad.off]; exact (List.getElem?_eq_some_iff.1 hp).1
            have : ∀ (us l : List Value) (off m : Nat), off + us.length ≤ m → (putAt (l.take m) off us) = (putAt l off us).take m := by
              intro us
              induction us with
              | nil => intro l off m _; rfl
              | cons y us ih =>
                intro l off m hm
                simp only [putAt]
                rw [← ih _ _ _ (by simp at hm; omega), List.take_set]
            rw [this us rs.toList ad.off cs.length (by omega), List.getElem?_take_of_lt hjl] at hu
            simpa using hu)
          dirty_ok.1 dirty_ok.2.1 (fun hnd r hr' => by
            have hsc := dirty_ok.2.2 hnd
            cases pl with
            | true => simp [refsB] at hr'
            | false =>
              simp only [refsB, List.mem_flatMap] at hr' ⊢
              obtain ⟨x, hx', hr'⟩ := hr'
              rcases mem_putAt hx' with h' | h'
              · exact ⟨x, h', hr'⟩
              · rw [refs_sc (List.all_eq_true.1 hsc x h')] at hr'; cases hr')
        exact ⟨hsim.2.2, w', e1, hsim.1, hsim.2.1⟩
      · cases h
    · cases h
theorem relV_undef {X : Emb} : relV X (.tuple #[]) undef := ⟨#[], rfl, rel2.nil⟩
theorem store_does {t : TypeId} {n : Nat} {x y : Operand} {callf : CallF} (ho : o.op = .store t x y) (ht : sizeTy P t = some n) (S : Sim w0 X σ w) (hx : ∀ v, ev fr x = some v → relV X v (a.eval x)) (hy : ∀ v, ev fr y = some v → relV X v (a.eval y))
    (h : aop callf (.store n x y) fr σ = some (v, σ')) : Does P w0 o a X σ w v σ' := by
  simp only [aop, Option.bind_eq_some_iff] at h
  obtain ⟨p, hp, h⟩ := h
  split at h
  · rename_i ad e
    split at h
    · rename_i hn
      simp only [Option.map_eq_some_iff] at h
      obtain ⟨σ1, hw, h⟩ := h
      cases h
      obtain ⟨ra, h1, h2⟩ := relV_ptr (hx _ e)
      have hall : (cellsOf p).all cellv = true := by
        unfold St.write at hw
        split at hw
        · cases hw
        · simp only [Option.bind_eq_some_iff] at hw
          obtain ⟨⟨pl, cs⟩, hb, hw⟩ := hw
          simp only at hw
          split at hw
          · rename_i hc; simp only [Bool.and_eq_true] at hc; exact hc.1.2
          · cases hw
      have hcells := rel_cells (hy p hp) hall
      obtain ⟨ha, w', e1, e2, e3⟩ := write_does (P := P) S h2 hcells hw
      refine ⟨ha, .skip, undef, w', X, ?_, .inr ⟨rfl, rfl⟩, relV_undef, e2, e3⟩
      have hsz : (a.eval y).cells.size = n := by rw [← hn, hcells.1]; simp
      simp [execOp, ho, h1, Instr.storeAt, Instr.sureAddr, storeVar, run_size ht, hsz, e1]
    · cases h
  · cases h

/-- A new block's address, its slice. -/
theorem new_ptr {X : Emb} {n g k s : Nat} {b : Nat} (h : X n = some ⟨b, 0, true, g, k, s⟩) : relA X ⟨n, 0, some g⟩ ⟨b, 0, none⟩ := ⟨_, h, g, rfl, Nat.le_refl _, fun _ => rfl⟩
theorem new_slice {X : Emb} {id n e g k s b c : Nat} (h : X id = some ⟨b, 0, true, g, k, s⟩) (h1 : n ≤ c) (h2 : c ≤ maxLen) (h3 : 0 < e → k ≤ c * e ∧ c * e ≤ s) : relSl X ⟨id, 0, some g⟩ n e ⟨b, 0, none⟩ c :=
  ⟨h1, h2, _, h, g, rfl, Nat.le_refl _, fun _ => ⟨fun _ => rfl, fun he => by simpa using h3 he⟩⟩
theorem heap_alloc (w : World) (ob : Obj) : (w.alloc ob).heap = w.heap.push ob := rfl
/-- New cells, all the same as the abstract ones. -/
theorem rel_get {cs us : List Value} (h : rel2 (relC X) cs us) : ∀ (j : Nat) (v : Value), cs[j]? = some v → ∃ u, us.toArray[j]? = some u ∧ relC X v u := fun j v hv => by
  obtain ⟨u, hu, hr⟩ := h.get hv
  exact ⟨u, by simpa using hu, hr⟩
theorem newcells_does {rcs : Array Value} {ty : TypeId} {pl : Bool} {cs : List Value} (S : Sim w0 X σ w) (hrel : rel2 (relC X) cs rcs.toList) (hp : pl = true → cs.all sc = true) :
    let X' : Emb := fun id => if id = σ.heap.length then some ⟨w.heap.size, 0, true, 0, cs.length, rcs.size⟩ else X id
    Sim w0 X' (σ.new (.cells 0 pl cs)).2 (w.alloc (.cells rcs ty)) ∧ Stp X σ w X' (w.alloc (.cells rcs ty)) ∧ Ast σ (σ.new (.cells 0 pl cs)).2 :=
  sim_new S (heap_alloc w _) rfl rfl rfl (.inl rfl) (Nat.zero_le _) (by rw [hrel.1]; simp) hp (fun j v hv => by
    obtain ⟨u, hu, hr⟩ := hrel.get hv
    exact ⟨u, by simpa using hu, hr⟩) (fun h0 => by
    have := hrel.1
    simp only [Array.length_toList] at this
    omega)
theorem alloc_does {e : TypeId} {zs : List Value} {callf : CallF} (ho : o.op = .alloc e) (hz : zeroTy P e = some zs) (S : Sim w0 X σ w) (h : aop callf (.alloc (plainTy P 8 e) zs) fr σ = some (v, σ')) : Does P w0 o a X σ w v σ' := by
  simp only [aop, Option.some.injEq, Prod.mk.injEq] at h
  obtain ⟨rfl, rfl⟩ := h
  obtain ⟨z, hz1, hz2, hz3, _⟩ := run_zero hz w
  obtain ⟨e1, e2, e3⟩ := newcells_does (ty := e) (rcs := z.cells) (pl := plainTy P 8 e) (cs := zs) S (by rw [hz2]; exact rel2_sc_refl hz3) (fun _ => List.all_eq_true.2 hz3)
  refine ⟨e3, .value (.pointer (some ⟨w.heap.size, 0, none⟩)), _, _, _, ?_, .inl rfl, ⟨_, rfl, new_ptr (if_pos rfl)⟩, e1, e2⟩
  simp [execOp, ho, Instr.alloc, hz1, newVar, newRow]
theorem box_does {e : TypeId} {x : Operand} {pl : Bool} {callf : CallF} (ho : o.op = .box e x) (S : Sim w0 X σ w) (hx : ∀ v, ev fr x = some v → relV X v (a.eval x)) (h : aop callf (.box pl x) fr σ = some (v, σ')) : Does P w0 o a X σ w v σ' := by
  simp only [aop, Option.bind_eq_some_iff] at h
  obtain ⟨p, hp, h⟩ := h
  split at h
  · rename_i hc
    simp only [Option.some.injEq, Prod.mk.injEq] at h
    obtain ⟨rfl, rfl⟩ := h
    simp only [Bool.and_eq_true, Bool.or_eq_true, Bool.not_eq_true'] at hc
    obtain ⟨e1, e2, e3⟩ := newcells_does (ty := e) (rcs := (a.eval x).cells) (pl := pl) (cs := cellsOf p) S (rel_cells (hx p hp) hc.1) (fun e => hc.2.resolve_left (by simp [e]))
    refine ⟨e3, .value (.pointer (some ⟨w.heap.size, 0, none⟩)), _, _, _, ?_, .inl rfl, ⟨_, rfl, new_ptr (if_pos rfl)⟩, e1, e2⟩
    simp [execOp, ho, Instr.box, newVar, newRow]
  · cases h
end
end AM
end Go.Proofs.Ytfefeikkjebfoaa
