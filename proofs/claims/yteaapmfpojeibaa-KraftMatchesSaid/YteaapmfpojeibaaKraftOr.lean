/-
  KRAFT: Different, known by its own walk, as a function of the abstract machine. Conditions: none.
-/
import Derived.Test.YteaapmfpojeibaaKraftDiff
import Derived.Test.YteaapmfpojeibaaAArgs
set_option linter.all false
namespace Go.Proofs.Yteaapmfpojeibaa
namespace AM
open Go Go.RowKit

def u8sOf : List Value → Option (List Nat)
  | [] => some []
  | .int .u8 n :: l => if 0 ≤ n ∧ n < 256 then (u8sOf l).map (n.toNat :: ·) else none
  | _ => none
theorem u8sOf_some : ∀ {vs : List Value} {l : List Nat}, u8sOf vs = some l → vs = u8s l ∧ ∀ b ∈ l, b < 256
  | [], l, h => by simp only [u8sOf, Option.some.injEq] at h; subst h; exact ⟨rfl, fun b h => by cases h⟩
  | v :: vs, l, h => by
    cases v <;> (try (simp [u8sOf] at h; done))
    rename_i k n
    cases k <;> (try (simp [u8sOf] at h; done))
    simp only [u8sOf] at h
    split at h
    · rename_i hn
      simp only [Option.map_eq_some_iff] at h
      obtain ⟨m, hm, rfl⟩ := h
      obtain ⟨h1, h2⟩ := u8sOf_some hm
      refine ⟨?_, fun b hb => ?_⟩
      · rw [h1]; simp only [u8s, List.map_cons, List.cons.injEq, Value.int.injEq, true_and, and_true]; omega
      · rcases List.mem_cons.1 hb with rfl | hb
        · omega
        · exact h2 b hb
    · cases h
theorem u8sOf_u8s : ∀ {l : List Nat}, (∀ b ∈ l, b < 256) → u8sOf (u8s l) = some l
  | [], _ => rfl
  | b :: l, h => by
    have h1 := u8sOf_u8s (l := l) fun x hx => h x (by simp [hx])
    have h2 := h b (by simp)
    simp only [u8s, List.map_cons, u8sOf] at h1 ⊢
    rw [if_pos (by omega), h1]
    simp
def rowsOf : Nat → List Value → Option (List (List Nat))
  | 0, _ => some []
  | n + 1, cs => (u8sOf (cs.take 258)).bind fun l => if l.length = 258 then (rowsOf n (cs.drop 258)).map (l :: ·) else none
theorem rowsOf_some : ∀ {n : Nat} {cs : List Value} {ls : List (List Nat)}, rowsOf n cs = some ls → ls.length = n ∧ (∀ l ∈ ls, l.length = 258 ∧ ∀ b ∈ l, b < 256) ∧ ∀ i l, ls[i]? = some l → ∀ j v, (u8s l)[j]? = some v → cs[i * 258 + j]? = some v
  | 0, cs, ls, h => by simp only [rowsOf, Option.some.injEq] at h; subst h; simp
  | n + 1, cs, ls, h => by
    simp only [rowsOf, Option.bind_eq_some_iff] at h
    obtain ⟨l, hl, h⟩ := h
    split at h
    · rename_i hlen
      simp only [Option.map_eq_some_iff] at h
      obtain ⟨ms, hms, rfl⟩ := h
      obtain ⟨h1, h2, h3⟩ := rowsOf_some hms
      obtain ⟨k1, k2⟩ := u8sOf_some hl
      refine ⟨by simp [h1], fun m hm => ?_, fun i m hi j v hj => ?_⟩
      · rcases List.mem_cons.1 hm with rfl | hm
        · exact ⟨hlen, k2⟩
        · exact h2 m hm
      · cases i with
        | zero =>
          simp only [List.getElem?_cons_zero, Option.some.injEq] at hi
          subst hi
          rw [← k1] at hj
          have hj2 := (List.getElem?_eq_some_iff.1 hj).1
          rw [List.getElem?_take_of_lt (by simp at hj2; omega)] at hj
          simpa using hj
        | succ i =>
          have := h3 i m (by simpa using hi) j v hj
          rw [List.getElem?_drop] at this
          rw [← this]
          congr 1
          omega
    · cases h
theorem rowsOf_rows : ∀ {ls : List (List Nat)}, (∀ l ∈ ls, l.length = 258 ∧ ∀ b ∈ l, b < 256) → ∀ rest : List Value, rowsOf ls.length ((ls.map u8s).flatten ++ rest) = some ls
  | [], _, rest => rfl
  | l :: ls, h, rest => by
    obtain ⟨h1, h2⟩ := h l (by simp)
    have e : (((l :: ls).map u8s).flatten ++ rest).take 258 = u8s l := by
      simp only [List.map_cons, List.flatten_cons, List.append_assoc]
      rw [List.take_append_of_le_length (by simp [u8s, h1]), List.take_of_length_le (by simp [u8s, h1])]
    have e2 : (((l :: ls).map u8s).flatten ++ rest).drop 258 = (ls.map u8s).flatten ++ rest := by
      simp only [List.map_cons, List.flatten_cons, List.append_assoc]
      rw [List.drop_append_of_le_length (by simp [u8s, h1]), List.drop_of_length_le (by simp [u8s, h1])]; rfl
    simp only [List.length_cons, rowsOf]
    rw [e, e2, u8sOf_u8s h2]
    simp only [Option.bind_some]
    rw [if_pos h1, rowsOf_rows (fun m hm => h m (by simp [hm])) rest]
    rfl
def diffK : Fr → St → Option Value
  | [(_, .slice none 0 0)], _ => some (.int .i64 0)
  | [(_, .slice (some a) n _)], σ => (σ.blk a).bind fun p => if n ≤ 1048576 then (rowsOf n (p.2.drop a.off)).map fun ls => .int .i64 (kDiff ls) else none
  | _, _ => none
theorem diffK_sc (fr : Fr) (σ : St) (u : Value) (h : diffK fr σ = some u) : AM.sc u = true := by
  unfold diffK at h
  split at h
  · cases h; rfl
  · simp only [Option.bind_eq_some_iff] at h
    obtain ⟨p, _, h⟩ := h
    split at h
    · simp only [Option.map_eq_some_iff] at h
      obtain ⟨_, _, rfl⟩ := h
      rfl
    · cases h
  · cases h
theorem diff_or : OrOk Try.prog 37 (natFn diffK) := fun w0 callf m args σ σ' v X w rargs _ hb S hh hl hr => by
  obtain ⟨hk, rfl⟩ := nat_body diffK_sc hb
  have key : ∃ ls A c, rargs = #[.slice A ls.length c] ∧ Rows w A ls ∧ (∀ l ∈ ls, l.length = 258 ∧ ∀ b ∈ l, b < 256) ∧ ls.length ≤ maxLen ∧ v = .int .i64 (kDiff ls) := by
    cases args with
    | nil => simp [argFr, diffK] at hk
    | cons x rest =>
      cases rest with
      | cons y rest => simp [argFr, diffK] at hk
      | nil =>
        obtain ⟨r, rs, hrs, hx, hr2⟩ := rel2.head hr
        have hrs2 : rs = [] := rel2.nil' hr2
        subst hrs2
        have hra : rargs = #[r] := by
          apply Array.ext'
          simpa using hrs
        subst hra
        simp only [argFr, diffK] at hk
        split at hk
        · rename_i e
          simp only [List.cons.injEq, Prod.mk.injEq, and_true] at e
          obtain ⟨_, rfl⟩ := e
          cases hk
          have := (relV_sc (v := .slice none 0 0) rfl).1 hx
          subst this
          refine ⟨[], none, 0, rfl, ?_, ?_, ?_, ?_⟩
          · intro i l h; simp at h
          · intro l h; simp at h
          · simp [maxLen]
          · rfl
        · rename_i a n e0 e
          simp only [List.cons.injEq, Prod.mk.injEq, and_true] at e
          obtain ⟨_, rfl⟩ := e
          simp only [Option.bind_eq_some_iff] at hk
          obtain ⟨⟨pl, cs⟩, hblk, hk⟩ := hk
          split at hk
          · rename_i hn
            simp only [Option.map_eq_some_iff] at hk
            obtain ⟨ls, hls, rfl⟩ := hk
            obtain ⟨k1, k2, k3⟩ := rowsOf_some hls
            obtain ⟨ra, c, rfl, hnc, hcm, bx, hbx, s, hs, hsl, hsg⟩ := (show relC X (.slice (some a) n e0) r from hx)
            refine ⟨ls, some ra, c, by rw [k1], fun i l hi => ?_, k2, by rw [k1]; unfold maxLen; omega, rfl⟩
            unfold St.blk at hblk
            split at hblk
            · cases hblk
            · rename_i hnh
              split at hblk
              · rename_i g pl' cs' hg
                split at hblk
                · rename_i hsp
                  cases hblk
                  have hid : a.block ∉ σ'.hid := by simpa using hnh
                  obtain ⟨a1, a2, a3, a4, a5, a6⟩ := S.cell a.block bx g pl cs hbx hid hg
                  have hsg2 : s = bx.gen := by rw [hs] at hsp; injection hsp with hsp; rw [hsp, a1]
                  have hil : i < ls.length := (List.getElem?_eq_some_iff.1 hi).1
                  have hra := (hsg hsg2).1 (.inl (by omega))
                  subst hra
                  refine ⟨_, rfl, fun j u hj => ?_⟩
                  have h1 := k3 i l hi j u hj
                  rw [List.getElem?_drop] at h1
                  obtain ⟨z, hz, hzr⟩ := a5 _ u h1
                  have hsc : AM.sc u = true := by
                    simp only [u8s, List.getElem?_map, Option.map_eq_some_iff] at hj
                    obtain ⟨_, _, rfl⟩ := hj
                    rfl
                  have := (relC_sc hsc).1 hzr
                  subst this
                  have e : (Addr.add (Addr.add ⟨bx.b, bx.o + a.off, none⟩ (i * 258)) j) = ⟨bx.b, bx.o + (a.off + (i * 258 + j)), none⟩ := by
                    rw [add_lit, add_lit, Addr.mk.injEq]
                    refine ⟨rfl, ?_, rfl⟩
                    omega
                  rw [e]; exact hz
                · cases hblk
              · cases hblk
          · cases hk
        · cases hk
  obtain ⟨ls, A, c, rfl, h1, h2, h3, rfl⟩ := key
  refine (diff_any A ls c w h1 h2 h3).mono fun e w' ⟨he, hw⟩ => ⟨_, X, he, (relV_sc rfl).2 rfl, S.below hw, Stp.below hw⟩
end AM
end Go.Proofs.Yteaapmfpojeibaa
