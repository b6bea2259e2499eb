/-
  TWO ARENAS side by side; the ranks' operations in both. Conditions: none.
-/
import Derived.Test.YtfefeikkjebfoaaRmE
set_option linter.all false
namespace Go.Proofs.Ytfefeikkjebfoaa
namespace ArA
open Go Go.RowKit AM ArEnv
theorem ArOk.re {n m r q : Nat} {H H' : List Nat} {A : Arn} (k : ArOk n r q H A) (h : n ≤ m) (h1 : H'.contains r = false) (h2 : H'.contains q = false) : ArOk m r q H' A where
  r_lt := Nat.lt_of_lt_of_le k.r_lt h
  q_lt := Nat.lt_of_lt_of_le k.q_lt h
  ne := k.ne
  by_ := k.by_
  live0 := k.live0
  live1 := k.live1
  peak0 := k.peak0
  peak1 := k.peak1
  size := k.size
  hr := h1
  hq := h2
/-- Two arenas, kept, wherever their blocks lie among the new ones. -/
theorem gc_put_two {h nw : List Blk} {L r q r' q' : Nat} {H : List Nat} {vs : List Value} {A B : Arn} (hr : h.length ≤ r) (hr2 : r < (h ++ nw).length) (hq : h.length ≤ q) (hq2 : q < (h ++ nw).length) (hr' : h.length ≤ r') (hr2' : r' < (h ++ nw).length) (hq' : h.length ≤ q') (hq2' : q' < (h ++ nw).length)
    (n1 : r ≠ q) (n2 : r ≠ r') (n3 : r ≠ q') (n4 : q ≠ r') (n5 : q ≠ q') (n6 : r' ≠ q') (hv : vs.flatMap refs = [r, r']) :
    gc h.length vs ⟨put (put (h ++ nw) r q A) r' q' B, L, H, []⟩ =
      some (vs.map (ren (fun id => if id < h.length then id else h.length + [r, q, r', q'].idxOf id)), ⟨put (put (h ++ [default, default, default, default]) h.length (h.length + 1) A) (h.length + 2) (h.length + 3) B, L, H, []⟩) := by
  have hl1 : (put (h ++ nw) r q A).length = (h ++ nw).length := put_length
  have gr : (put (put (h ++ nw) r q A) r' q' B)[r]? = some (arB q A) := by rw [put_o (Ne.symm n2) (Ne.symm n3)]; exact put_r hr2
  have gq : (put (put (h ++ nw) r q A) r' q' B)[q]? = some (byB A) := by rw [put_o (Ne.symm n4) (Ne.symm n5)]; exact put_q hq2 n1
  have gr' : (put (put (h ++ nw) r q A) r' q' B)[r']? = some (arB q' B) := put_r (by rw [hl1]; exact hr2')
  have gq' : (put (put (h ++ nw) r q A) r' q' B)[q']? = some (byB B) := put_q (by rw [hl1]; exact hq2') n6
  have hlen : (put (put (h ++ nw) r q A) r' q' B).length = (h ++ nw).length := by rw [put_length, put_length]
  have htake : (put (put (h ++ nw) r q A) r' q' B).take h.length = h := by
    apply List.ext_getElem?
    intro i
    rw [List.getElem?_take]
    split
    · rename_i hi
      rw [put_o (by omega) (by omega), put_o (by omega) (by omega), List.getElem?_append_left hi]
    · rename_i hi
      rw [List.getElem?_eq_none (by omega)]
  have hfin : put (put (h ++ [default, default, default, default]) h.length (h.length + 1) A) (h.length + 2) (h.length + 3) B = h ++ [arB (h.length + 1) A, byB A, arB (h.length + 3) B, byB B] := by
    unfold put
    simp [List.set_append]
  rw [hfin]
  generalize put (put (h ++ nw) r q A) r' q' B = P at *
  have r1 : refsAt P r = [q] := by
    simp only [refsAt, gr, arB, refsB, List.flatMap_cons, refsC, List.flatMap_nil, List.append_nil]
  have r0 : refsAt P q = [] := by
    simp only [refsAt, gq, byB, refsB]
  have r1' : refsAt P r' = [q'] := by
    simp only [refsAt, gr', arB, refsB, List.flatMap_cons, refsC, List.flatMap_nil, List.append_nil]
  have r0' : refsAt P q' = [] := by
    simp only [refsAt, gq', byB, refsB]
  unfold gc
  rw [if_neg (by show ¬ P.length ≤ h.length; omega)]
  simp only [hv, List.flatMap_nil, List.append_nil, List.filter_nil]
  have hf : List.filter (fun x => decide (h.length ≤ x)) [r, r'] = [r, r'] := by simp [hr, hr']
  have e1 : (q == r) = false := by simp; exact fun e => n1 e.symm
  have e2 : (r' == r) = false := by simp; exact fun e => n2 e.symm
  have e3 : (q' == r) = false := by simp; exact fun e => n3 e.symm
  have e4 : (r' == q) = false := by simp; exact fun e => n4 e.symm
  have e5 : (q' == q) = false := by simp; exact fun e => n5 e.symm
  have e6 : (q' == r') = false := by simp; exact fun e => n6 e.symm
  have e1' : (r == q) = false := by simp; exact n1
  have e2' : (r == r') = false := by simp; exact n2
  have e3' : (r == q') = false := by simp; exact n3
  have e4' : (q == r') = false := by simp; exact n4
  have e5' : (q == q') = false := by simp; exact n5
  have e6' : (r' == q') = false := by simp; exact n6
  have l1 : ¬ r < h.length := by omega
  have l2 : ¬ q < h.length := by omega
  have l3 : ¬ r' < h.length := by omega
  have l4 : ¬ q' < h.length := by omega
  try simp only [hf]
  have hreach : reach P h.length 4096 [r, r'] [] = [r, q, r', q'] := by
    rw [show 4096 = 4091 + 1 + 1 + 1 + 1 + 1 by rfl]
    simp only [reach, r1, r0, r1', r0', List.contains_nil, List.contains_cons, e1, e2, e3, e4, e5, e6, l1, l2, l3, l4, decide_false, Bool.or_false, Bool.or_self, Bool.false_eq_true, if_false, List.nil_append, List.append_nil, List.cons_append]
  rw [hreach]
  unfold gcKeep
  simp only [List.filter_nil]
  refine (if_pos ?_).trans ?_
  · have hmem : (vs.all fun v => (refs v).all fun x => decide (x < h.length) || [r, q, r', q'].contains x) = true := by
      rw [List.all_eq_true]
      intro v hv1
      rw [List.all_eq_true]
      intro x hx
      have : x ∈ vs.flatMap refs := List.mem_flatMap.2 ⟨v, hv1, hx⟩
      rw [hv] at this
      simp only [List.mem_cons, List.not_mem_nil, or_false] at this
      rcases this with rfl | rfl <;> simp
    simp only [Bool.and_eq_true]
    refine ⟨⟨⟨⟨?_, rfl⟩, hmem⟩, rfl⟩, ?_⟩
    · simp [nodupB, n1, n2, n3, n4, n5, n6]
    · simp [r1, r0, r1', r0', hlen, hr, hq, hr', hq']
      simp at hr2 hq2 hr2' hq2'
      omega
  · simp [renAll, htake, List.getD_eq_getElem?_getD, gr, gq, gr', gq', arB, byB, renB, renC, l1, l2, l3, l4, List.idxOf, List.findIdx_cons, e1, e2, e3, e4, e5, e6, e1', e2', e3', e4', e5', e6']
section
variable {hp : List Blk} {L : Nat} {H d : List Nat} {r q r' q' : Nat} {A A' B : Arn}
theorem tr2 (h1 : r ≠ r') (h2 : r ≠ q') (h3 : q ≠ r') (h4 : q ≠ q') {f : Fn} {args : List Value} {v : Value} (h : ∀ hp' : List Blk, hp'.length = hp.length → Lrun env f args ⟨put hp' r q A, L, H, d⟩ = some (v, ⟨put hp' r q A', L, H, d⟩)) :
    Lrun env f args ⟨put (put hp r q A) r' q' B, L, H, d⟩ = some (v, ⟨put (put hp r q A') r' q' B, L, H, d⟩) := by
  rw [put_comm h1 h2 h3 h4, h _ put_length, put_comm (Ne.symm h1) (Ne.symm h3) (Ne.symm h2) (Ne.symm h4)]
theorem load2 (hF : Fit hp.length L H) (k : ArOk hp.length r q H A) (h1 : r ≠ r') (h2 : r ≠ q') (h3 : q ≠ r') (h4 : q ≠ q') (hr' : r' < hp.length) (hq' : q' < hp.length) (s n : Int) :
    Lrun env (.func 21) [arP r, .agg #[.int .i64 s, .int .i64 n]] ⟨put (put hp r q A) r' q' B, L, H, d⟩ = some (sl hp.length ((A.loadO s n).getD []).length (A.loadO s n), ⟨put (put (hp ++ slB ((A.loadO s n).getD []).length (A.loadO s n)) r q A) r' q' B, L, H, d⟩) := by
  rw [put_comm h1 h2 h3 h4]
  have := load_walk (d := d) (L := L) (H := H) (hp := put hp r' q' B) (r := r) (q := q) (A := A) (by rw [put_length]; exact hF) (k.mono (by rw [put_length]; exact Nat.le_refl _)) s n
  rw [this, put_length, put_app hr' hq', put_comm (Ne.symm h1) (Ne.symm h3) (Ne.symm h2) (Ne.symm h4)]
end
/-- What Rank answers, in the arena and in the reference's. -/
theorem rank_both {A B : Arn} (hbs : B.bs = A.bs) (hlv : B.live = A.live) (hl1 : A.live ≤ A.bs.length) (hsz : A.bs.length ≤ 65536) (s m t z kk p : Int) {c : Nat} (hc : c < 256) : ∃ (n sc : Int) (ok : Bool),
    (∀ {hp : List Blk} {L : Nat} {H d : List Nat} {r q : Nat}, Fit hp.length L H → ArOk hp.length r q H A →
      Lrun env (.func 48) [arP r, .agg #[.int .i64 s, .int .i64 m], .agg #[.int .i64 t, .int .i64 z], .int .i64 kk, .int .u8 c, .int .i64 p] ⟨put hp r q A, L, H, d⟩ = some (.tuple #[.int .i64 n, .int .i64 sc, .bool ok], ⟨put hp r q A, L, H, d⟩)) ∧
    (∀ {hp : List Blk} {L : Nat} {H d : List Nat} {r q : Nat}, Fit hp.length L H → ArOk hp.length r q H B →
      Lrun env (.func 49) [arP r, .agg #[.int .i64 s, .int .i64 m], .agg #[.int .i64 t, .int .i64 z], .int .i64 kk, .int .u8 c, .int .i64 p] ⟨put hp r q B, L, H, d⟩ = some (.tuple #[.int .i64 n, .int .i64 sc, .bool ok], ⟨put hp r q B, L, H, d⟩)) := by
  have hvB : rValid B s m t z kk = rValid A s m t z kk := rValid_live hlv s m t z kk
  by_cases hg : rValid A s m t z kk = true ∧ (0 ≤ p ∧ p ≤ m)
  · obtain ⟨hv, hp0⟩ := hg
    obtain ⟨v1, v2, v3, v4, v5, v6⟩ := rValid_parts hv
    have b1 := Arn.has_iff.1 v1
    obtain ⟨s, rfl⟩ := Int.eq_ofNat_of_zero_le (by omega : 0 ≤ s)
    obtain ⟨kk, rfl⟩ := Int.eq_ofNat_of_zero_le (by omega : 0 ≤ kk)
    obtain ⟨p, rfl⟩ := Int.eq_ofNat_of_zero_le hp0.1
    have hxl : ((A.bs.drop s).take m.toNat).length = m.toNat := by simp; omega
    have hxA : Holds A s ((A.bs.drop s).take m.toNat) := ⟨by rw [hxl]; omega, fun i hi => by
      rw [hxl] at hi
      rw [List.getElem_take, List.getElem_drop, List.getElem?_eq_getElem]⟩
    have hxB : Holds B s ((A.bs.drop s).take m.toNat) := ⟨by rw [hlv]; exact hxA.live, fun i hi => by rw [hbs]; exact hxA.get i hi⟩
    obtain ⟨m, rfl⟩ := Int.eq_ofNat_of_zero_le (by omega : 0 ≤ m)
    rw [Int.toNat_natCast] at hxl hxA hxB
    generalize (A.bs.drop s).take m = x at *
    subst hxl
    have hbase : base B t z kk c p = base A t z kk c p := by
      unfold base Arn.wordV Arn.slot
      rw [hbs, wpart_live hlv]
    refine ⟨_, _, true, fun {hp L H d r q} hF k => rank_walk hF k hxA (by omega) hv (by omega) (by omega) hc, fun {hp L H d r q} hF k => ?_⟩
    rw [rfr_walk hF k hxB (by omega) (by rw [hvB]; exact hv) (by omega) (by omega) hc, hbase]
  · have hg' : rValid A s m t z kk = false ∨ ¬ (0 ≤ p ∧ p ≤ m) := by
      cases h : rValid A s m t z kk with
      | false => exact .inl rfl
      | true => exact .inr fun h2 => hg ⟨h, h2⟩
    exact ⟨0, 0, false, fun {hp L H d r q} hF k => rank_bad hF k hc hg', fun {hp L H d r q} hF k => rfr_bad hF k hc (by rw [hvB]; exact hg')⟩
theorem less_both {A B : Arn} (hbs : B.bs = A.bs) (hlv : B.live = A.live) (hl1 : A.live ≤ A.bs.length) (hsz : A.bs.length ≤ 65536) (hby : By A.bs) (s m : Int) : ∃ x : List Nat,
    (∀ {hp : List Blk} {L : Nat} {H d : List Nat} {r q : Nat}, Fit hp.length L H → ArOk hp.length r q H A →
      Lrun env (.func 54) [arP r, .agg #[.int .i64 s, .int .i64 m]] ⟨put hp r q A, L, H, d⟩ = some (.agg (lP x 256).toArray, ⟨put hp r q A, L, H, d⟩)) ∧
    (∀ {hp : List Blk} {L : Nat} {H d : List Nat} {r q : Nat}, Fit hp.length L H → ArOk hp.length r q H B →
      Lrun env (.func 55) [arP r, .agg #[.int .i64 s, .int .i64 m]] ⟨put hp r q B, L, H, d⟩ = some (.agg (lP x 256).toArray, ⟨put hp r q B, L, H, d⟩)) := by
  have hh := has_live hlv s m
  cases h : A.has s m with
  | false =>
    rw [h] at hh
    exact ⟨[], fun {hp L H d r q} hF k => less_none hF k h, fun {hp L H d r q} hF k => rfless_none hF k hh⟩
  | true =>
    have b1 := Arn.has_iff.1 h
    obtain ⟨s, rfl⟩ := Int.eq_ofNat_of_zero_le (by omega : 0 ≤ s)
    obtain ⟨m, rfl⟩ := Int.eq_ofNat_of_zero_le (by omega : 0 ≤ m)
    have hxl : ((A.bs.drop s).take m).length = m := by simp; omega
    have hxA : Holds A s ((A.bs.drop s).take m) := ⟨by rw [hxl]; omega, fun i hi => by
      rw [hxl] at hi
      rw [List.getElem_take, List.getElem_drop, List.getElem?_eq_getElem]⟩
    have hxB : Holds B s ((A.bs.drop s).take m) := ⟨by rw [hlv]; exact hxA.live, fun i hi => by rw [hbs]; exact hxA.get i hi⟩
    have hbx : By ((A.bs.drop s).take m) := (hby.drop _).take _
    generalize (A.bs.drop s).take m = x at *
    subst hxl
    exact ⟨x, fun {hp L H d r q} hF k => less_walk hF k hbx (by omega) hxA.load, fun {hp L H d r q} hF k => rfless_walk hF k hxB (by omega)⟩
theorem marked_eq {A B A' B' : Arn} {t n k : Nat} {x : List Nat} (hbs : B.bs = A.bs) (ha : Marked A A' t x k n) (hb : Marked B B' t x k n) : B'.bs = A'.bs := by
  apply List.ext_getElem?
  intro i
  by_cases h : i < t ∨ t + 4 * n ≤ i
  · rw [ha.out i h, hb.out i h, hbs]
  · have h1 := ha.word ((i - t) / 4) (by omega) ((i - t) % 4) (by omega)
    have h2 := hb.word ((i - t) / 4) (by omega) ((i - t) % 4) (by omega)
    rw [show t + 4 * ((i - t) / 4) + (i - t) % 4 = i by omega] at h1 h2
    rw [h1, h2]
end ArA
end Go.Proofs.Ytfefeikkjebfoaa
