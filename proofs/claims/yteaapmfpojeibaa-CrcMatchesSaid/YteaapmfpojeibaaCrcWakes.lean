/-
  THE EXAMPLES OF CHAPTER 4 (wakes): they hold, and the call leaves what was there as it was. Conditions: none.
-/
import Derived.Test.YteaapmfpojeibaaCrcWalks
import Derived.Lib.SlBytesConst
namespace Go.Proofs.Yteaapmfpojeibaa
open Go.RowKit

theorem const_one (w : World) (o : Obj) (C : Array Value) (n c : Nat) : (convert 24 24 (.slice (some ⟨w.heap.size + 1, 0, none⟩) n c)).run Try.prog ((w.alloc o).alloc (.cells C 5)) = .ok (.slice (some ⟨w.heap.size + 1, 0, none⟩) n c) ((w.alloc o).alloc (.cells C 5 (C.size, C.size + 1))) := by
  have := Lib.run_convert_bytes_const (P := Try.prog) (w.alloc o) 24 5 C n c Try.underlying24 Try.underlying5
  rw [size_alloc] at this
  exact this

set_option maxRecDepth 100000 in
set_option maxHeartbeats 1000000 in
theorem crcWakes_any (w : World) : Calls Try.prog 13 #[] w fun e w' => e = .returned (.bool true) ∧ Below w.heap.size w w' := by
  have hz := zero_tab
  have kc := fun (w : World) (C : Array Value) (n c : Nat) => Lib.run_convert_bytes_const (P := Try.prog) w 24 5 C n c Try.underlying24 Try.underlying5
  have kc1 := const_one
  have hi : (Try.prog.info? 27).map (·.size) = some crcTabV.size := by rw [crcTabV_size]; exact size_tab
  have hsz : Hid (crcZero.size = crcTabV.size) := hide (by rw [crcTabV_size, crcZero_size])
  go_enter Try.func13, Try.ntmps13
  go_wp2_with fail
  refine (table_any _).mono ?_
  rintro e w1 ⟨rfl, hb1⟩
  go_wp2_with (
    (refine wpList_store_box rfl 27 _ _ rfl w1.heap.size rfl crcTabV rfl 27 crcZero (Box.new _ _ _) hi hsz.out crcTabV_one ?_
     have hbx : Box ((w1.alloc (.cells crcZero 27)).setRow w1.heap.size crcTabV) w1.heap.size 27 crcTabV := (Box.new _ _ _).row _
     have hb2 : Below w.heap.size w ((w1.alloc (.cells crcZero 27)).setRow w1.heap.size crcTabV) := below_row (hb1.alloc hb1.size _) hb1.size _
     generalize (w1.alloc (.cells crcZero 27)).setRow w1.heap.size crcTabV = w2 at *
     generalize w1.heap.size = g at *
     clear hz hsz hi hb1))
  (with_reducible refine (take_bl _ _ _ _ [1, 2, 3, 4, 5] ?c1 ?cA ?c2 ?c3 ?c4).mono ?_)
  case cA => exact at_new w2 _ (u8s [1, 2, 3, 4, 5])
  case c1 => rfl
  case c2 => decide
  case c3 => decide
  case c4 => decide
  rintro e w3 ⟨rfl, hb⟩
  have hb3 := below_then (hb2.alloc hb2.size _) hb
  have hx3 := (hbx.alloc _).keep hb
  clear hb hb2 hbx
  rw [show crcTake [1, 2, 3, 4, 5] = (16909060, true) from rfl]
  go_wp2_with fail
  (with_reducible refine (take_bl _ _ _ _ [1, 2, 3] ?d1 ?dA ?d2 ?d3 ?d4).mono ?_)
  case dA => exact at_new w3 _ (u8s [1, 2, 3])
  case d1 => rfl
  case d2 => decide
  case d3 => decide
  case d4 => decide
  rintro e w4 ⟨rfl, hb⟩
  have hb4 := below_then (hb3.alloc hb3.size _) hb
  have hx4 := (hx3.alloc _).keep hb
  clear hb hb3 hx3
  rw [show crcTake [1, 2, 3] = (0, false) from rfl]
  go_wp2_with fail
  (with_reducible refine (of_at _ _ _ _ [] ?e1 ?e2 ?e3).mono ?_)
  case e1 => rfl
  case e2 => intro i p hp; simp at hp
  case e3 => decide
  rintro e w5 ⟨rfl, hb⟩
  have hb5 := below_then hb4 hb
  have hx5 := hx4.keep hb
  clear hb hb4 hx4
  rw [show crcFeed 0 (List.flatten []) = 0 by decide +kernel]
  go_wp2_with fail
  (with_reducible refine (of_at _ _ _ _ [[49, 50, 51, 52, 53, 54, 55, 56, 57]] ?f1 ?f2 ?f3).mono ?_)
  case f2 => exact pieces_new' (size_alloc _ _) _ [(some ⟨w5.heap.size, 0, none⟩, [49, 50, 51, 52, 53, 54, 55, 56, 57], 9)] (by simp only [List.forall_mem_singleton]; exact ⟨at_new w5 _ (u8s _), by decide, by decide, by decide⟩)
  case f1 => rfl
  case f3 => decide
  rintro e w6 ⟨rfl, hb⟩
  have hb6 := below_then ((hb5.alloc hb5.size _).alloc (by have := hb5.size; simp only [size_alloc]; omega) _) hb
  have hx6 := ((hx5.alloc _).alloc _).keep hb
  clear hb hb5 hx5
  rw [show crcFeed 0 (List.flatten [[49, 50, 51, 52, 53, 54, 55, 56, 57]]) = 3421780262 by decide +kernel]
  have t0 := hx6.cell 0
  have t1 := hx6.cell 1
  have t2 := hx6.cell 255
  rw [crcTabV_get (by omega), show crcRow 0 = 0 by decide +kernel] at t0
  rw [crcTabV_get (by omega), show crcRow 1 = 1996959894 by decide +kernel] at t1
  rw [crcTabV_get (by omega), show crcRow 255 = 755167117 by decide +kernel] at t2
  go_wp2_with fail
  clear t0 t1 t2
  (with_reducible refine (step_bl _ _ _ 0 1 ?g1 ?g2 ?g3 ?g4).mono ?_)
  case g1 => rfl
  case g2 => rfl
  case g3 => decide
  case g4 => decide
  rintro e w7 ⟨rfl, hb⟩
  have hb7 := below_then hb6 hb
  clear hb hb6 hx6
  rw [show crcStep 0 1 = 1996959894 by decide +kernel]
  go_wp2_with fail
  (with_reducible refine (of_at _ _ _ _ [[49, 50, 51, 52]] ?h1 ?h2 ?h3).mono ?_)
  case h2 => exact pieces_new' (size_alloc _ _) _ [(some ⟨w7.heap.size, 0, none⟩, [49, 50, 51, 52], 4)] (by simp only [List.forall_mem_singleton]; exact ⟨at_new w7 _ (u8s _), by decide, by decide, by decide⟩)
  case h1 => rfl
  case h3 => decide
  rintro e w8 ⟨rfl, hb⟩
  have hb8 := below_then ((hb7.alloc hb7.size _).alloc (by have := hb7.size; simp only [size_alloc]; omega) _) hb
  clear hb hb7
  rw [show crcFeed 0 (List.flatten [[49, 50, 51, 52]]) = 2615402659 by decide +kernel]
  go_wp2_with fail
  (with_reducible refine (feed_at _ _ _ _ _ 2615402659 [[53, 54, 55], [56, 57]] ?i0 ?i1 ?i2 ?i3 ?i4).mono ?_)
  case i3 =>
    refine pieces_new' (by simp only [size_alloc]) _ [(some ⟨w8.heap.size, 0, none⟩, [53, 54, 55], 3), (some ⟨w8.heap.size + 1, 0, none⟩, [56, 57], 2)] ?_
    simp only [List.forall_mem_cons]
    exact ⟨⟨(at_new w8 _ (u8s _)).alloc _, by decide, by decide, by decide⟩, ⟨at_new' (size_alloc _ _) _ (u8s _), by decide, by decide, by decide⟩, by simp⟩
  case i0 => rfl
  case i1 => decide
  case i2 => rfl
  case i4 => decide
  rintro e w9 ⟨rfl, hb⟩
  have hb9 := below_then (((hb8.alloc hb8.size _).alloc (by have := hb8.size; simp only [size_alloc]; omega) _).alloc (by have := hb8.size; simp only [size_alloc]; omega) _) hb
  clear hb hb8
  rw [show crcFeed 2615402659 (List.flatten [[53, 54, 55], [56, 57]]) = 3421780262 by decide +kernel]
  go_wp2_with fail
  (with_reducible refine (put_at _ _ 16909060 ?j1 ?j2).mono ?_)
  case j1 => rfl
  case j2 => decide
  rintro e w' ⟨rfl, rfl⟩
  have hst := run_str (P := Try.prog) (at_new w9 41 (u8s (crcPut 16909060)) (fr := (0, 0))) 24 9 5 4 4 rfl Try.underlying24 Try.underlying5 Try.underlying9
  rw [show str8 (crcPut 16909060) = ⟨#[1, 2, 3, 4]⟩ from rfl] at hst
  go_wp2_with fail
  go_ret
  exact ⟨rfl, hb9.alloc hb9.size _⟩

end Go.Proofs.Yteaapmfpojeibaa
