/-
  THE ABSTRACT MACHINE's MEMORY OPERATIONS: copy, clear. Conditions: none.
-/
import Derived.Test.YtfefeikkjebfoaaAMem4
namespace Go.Proofs.Ytfefeikkjebfoaa
namespace AM
open Go Go.RowKit

section
variable {P : Program} {X : Emb} {fr : Fr} {a : Act} {o : Oper} {v : Value} {w0 w : World} {σ σ' : St}

/-- Where a write goes through a slice that is not empty. -/
theorem relSl.ptr {b ra : Addr} {n e c : Nat} (h : relSl X b n e ra c) (hn : 0 < n) : relA X b ra := by
  obtain ⟨_, _, bx, hx, s, hs, hl, hr⟩ := h
  exact ⟨bx, hx, s, hs, hl, fun e => (hr e).1 (.inl hn)⟩
theorem copy_does {c : Call} {x y : Operand} {t u e : TypeId} {s : Nat} {callf : CallF} (ho : o.op = .call c) (hb : c.callee = .builtin .copy) (hc : c.args.toList = [x, y]) (hct : c.argTypes.toList = [t, u]) (ht : P.underlying t = some (.slice e))
    (hs : sizeTy P e = some s) (h0 : 0 < s) (S : Sim w0 X σ w) (hx : ∀ v, ev fr x = some v → relV X v (a.eval x)) (hy : ∀ v, ev fr y = some v → relV X v (a.eval y))
    (h : aop callf (.copy s x y) fr σ = some (v, σ')) : Does P w0 o a X σ w v σ' := by
  simp only [aop, Option.bind_eq_some_iff] at h
  obtain ⟨x0, hx0, y0, hy0, ⟨m, vs⟩, hn, h⟩ := h
  simp only at h
  obtain ⟨us, r1, r2, r3, r4⟩ := news_src (P := P) S (hy y0 hy0) hn h0
  have hul : us.length = m * s := by rw [← r1.1, r2]
  obtain ⟨ks, hks⟩ := run_builtin (P := P) (a := a) ho hb w
  rw [args_two hc, types_two hct] at hks
  simp only [List.map_toArray, List.map_cons, List.map_nil, builtin] at hks
  have fin : ∀ {r : Value} {w' : World}, (Builtin.copy_ #[t, u] o.type #[a.eval x, a.eval y]).run P w = .ok r w' → (execOp a.eval o).run P w = .ok (.value r) w' := fun hr => by
    rw [hks]; simp only [Sem.run_bind, hr, Result.andThen_ok, Sem.run_pure]
  have run : ∀ (base : Option Addr) (n c' : Nat) (w' : World), a.eval x = .slice base n c' → (match base with | some b => (storeCells b (us.take (min m n * s))).run P w = .ok () w' | none => w' = w) → (Builtin.copy_ #[t, u] o.type #[a.eval x, a.eval y]).run P w = .ok (.int .i64 (min m n : Nat)) w' := by
    intro base n c' w' hbs hst
    have hf := r4 (min m n) (Nat.min_le_left _ _) w rfl
    have hmin : Nat.min m n = min m n := rfl
    rw [hbs]
    cases base with
    | none => simp only at hst; subst hst; simp [Builtin.copy_, run_under ht, run_size hs, r3, hmin, hf, goInt]
    | some b => simp only at hst; simp [Builtin.copy_, run_under ht, run_size hs, r3, hmin, hf, hst, goInt]
  split at h
  · cases h
    have e1 := relV_nilslice (hx _ hx0)
    have := run none 0 0 w e1 rfl
    simp only [Nat.min_zero] at this
    exact ⟨Ast.refl _, _, _, w, X, fin this, .inl rfl, relV_int_mk _ _, S, Stp.refl _ _ _⟩
  · rename_i ad n e'
    obtain ⟨ra, c', e1, hsl⟩ := relV_slice (hx _ hx0)
    split at h
    · rename_i hm
      cases h
      have := run (some ra) n c' w e1 (by simp only [hm, Nat.zero_mul, List.take_zero]; rfl)
      rw [hm] at this
      exact ⟨Ast.refl _, _, _, w, X, fin this, .inl rfl, relV_int_mk _ _, S, Stp.refl _ _ _⟩
    · rename_i hm
      simp only [Option.map_eq_some_iff] at h
      obtain ⟨σ1, hw, h⟩ := h
      cases h
      obtain ⟨ha, w', f1, f2, f3⟩ := write_does (P := P) S (hsl.ptr (by omega)) (r1.take (min m n * s)) hw
      exact ⟨ha, _, _, w', X, fin (run (some ra) n c' w' e1 f1), .inl rfl, relV_int_mk _ _, f2, f3⟩
  · cases h
theorem zeroCells_flat (z : Array Value) (n : Nat) (hz : 0 < z.size) : (Builtin.zeroCells z n).toList = (List.replicate n z.toList).flatten := made_flat z n hz
theorem clear_does {c : Call} {x : Operand} {t e : TypeId} {s : Nat} {zs : List Value} {callf : CallF} (ho : o.op = .call c) (hb : c.callee = .builtin .clear) (hc : c.args.toList = [x]) (hct : c.argTypes.toList = [t]) (ht : P.underlying t = some (.slice e))
    (hs : sizeTy P e = some s) (hz : zeroTy P e = some zs) (h0 : 0 < s) (S : Sim w0 X σ w) (hx : ∀ v, ev fr x = some v → relV X v (a.eval x))
    (h : aop callf (.clear s zs x) fr σ = some (v, σ')) : Does P w0 o a X σ w v σ' := by
  simp only [aop] at h
  obtain ⟨i, z, hi, hz1, hz2, hz3, hz4, hz5⟩ := zero_info hz
  have his : i.size = s := by simp [sizeTy, hi] at hs; exact hs
  obtain ⟨ks, hks⟩ := run_builtin (P := P) (a := a) ho hb w
  rw [args_one hc, types_one hct] at hks
  simp only [List.map_toArray, List.map_cons, List.map_nil, builtin] at hks
  have fin : ∀ {r : Value} {w' : World}, (Builtin.clear_ #[t] o.type #[a.eval x]).run P w = .ok r w' → (execOp a.eval o).run P w = .ok (.value r) w' := fun hr => by
    rw [hks]; simp only [Sem.run_bind, hr, Result.andThen_ok, Sem.run_pure]
  split at h
  · rename_i hx0
    cases h
    have e1 := relV_nilslice (hx _ hx0)
    exact ⟨Ast.refl _, _, .tuple #[], w, X, fin (by rw [e1]; simp [Builtin.clear_, run_under ht]), .inl rfl, relV_undef, S, Stp.refl _ _ _⟩
  · rename_i ad n e' hx0
    obtain ⟨ra, c', e1, hsl⟩ := relV_slice (hx _ hx0)
    split at h
    · rename_i hn
      subst hn
      cases h
      exact ⟨Ast.refl _, _, .tuple #[], w, X, fin (by rw [e1]; simp [Builtin.clear_, run_under ht]), .inl rfl, relV_undef, S, Stp.refl _ _ _⟩
    · rename_i hn
      simp only [Option.map_eq_some_iff] at h
      obtain ⟨σ1, hw, h⟩ := h
      cases h
      obtain ⟨ha, w', f1, f2, f3⟩ := write_does (P := P) S (hsl.ptr (by omega)) (rel2_sc_refl (sc_flat hz5 n)) hw
      refine ⟨ha, _, .tuple #[], w', X, fin ?_, .inl rfl, relV_undef, f2, f3⟩
      have hzf : (Builtin.zeroCells z.cells n).toList = (List.replicate n zs).flatten := by rw [zeroCells_flat _ _ (by omega), hz2]
      have hzv : (zeroValue e).run P w = .ok z w := by simp [zeroValue, typeInfo, hi, hz1]
      rw [e1]
      obtain ⟨k, rfl⟩ : ∃ k, n = k + 1 := ⟨n - 1, by omega⟩
      simp only [Builtin.clear_, Sem.run_bind, List.getElem?_toArray, List.getElem?_cons_zero, run_under ht, Result.andThen_ok, hzv, hzf, f1, Sem.run_pure]
  · cases h
end
end AM
end Go.Proofs.Ytfefeikkjebfoaa
