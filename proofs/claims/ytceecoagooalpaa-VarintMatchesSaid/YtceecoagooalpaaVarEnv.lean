/-
  THE TRANSLATED FUNCTIONS, printed by a program, and that they are the program's functions. Conditions: none.
-/
import Derived.Test.YtceecoagooalpaaProg
import Derived.Test.YtceecoagooalpaaAOr
import Derived.KernelRfl
namespace Go.Proofs.Ytceecoagooalpaa
namespace VarEnv
open Go AM
abbrev T (n : Nat) : Operand := .tmp n
abbrev C (v : Value) : Operand := .const v
abbrev D (d : Nat) (o : AOp) : AOper := ⟨some d, none, 0, true, o⟩
abbrev E (o : AOp) : AOper := ⟨none, none, 0, true, o⟩
/-- winepress/winepresslaw05.VarintMatches -/
def ac3 : AFn := ⟨(.seq (.region [
    D 6 (.box true (T 2)),
    D 8 (.mv (C (.bool false)))])
  (.seq (.seq (.region [
    D 25 (.mv (T 1)),
    D 26 (.len (T 25)),
    D 27 (.bin .gtr (T 26) (C (.int .i64 300)))])
  (.cond (T 27)
   (.seq (.region [
     D 28 (.call 12 []),
     D 8 (.mv (T 28))])
   .ret)
   .skip))
  (.seq (.region [
    D 30 (.mv (T 0)),
    D 31 (.call 13 [(T 30)]),
    D 29 (.mv (T 31)),
    D 32 (.ext (T 29) 0),
    D 33 (.ext (T 29) 1),
    D 9 (.mv (T 32)),
    D 10 (.mv (T 33))])
  (.seq (.region [
    D 35 (.mv (T 0)),
    D 36 (.call 14 [(T 35)]),
    D 34 (.mv (T 36)),
    D 37 (.ext (T 34) 0),
    D 38 (.ext (T 34) 1),
    D 11 (.mv (T 37)),
    D 12 (.mv (T 38))])
  (.seq (.region [
    D 40 (.mv (T 1)),
    D 41 (.call 15 [(T 40)]),
    D 39 (.mv (T 41)),
    D 42 (.ext (T 39) 0),
    D 43 (.ext (T 39) 1),
    D 44 (.ext (T 39) 2),
    D 13 (.mv (T 42)),
    D 14 (.mv (T 43)),
    D 15 (.mv (T 44))])
  (.seq (.region [
    D 46 (.mv (T 1)),
    D 47 (.call 16 [(T 46)]),
    D 45 (.mv (T 47)),
    D 48 (.ext (T 45) 0),
    D 49 (.ext (T 45) 1),
    D 50 (.ext (T 45) 2),
    D 16 (.mv (T 48)),
    D 17 (.mv (T 49)),
    D 18 (.mv (T 50))])
  (.seq (.region [
    D 52 (.load (some 2) (T 6)),
    D 53 (.mv (T 3)),
    D 54 (.call 17 [(T 52), (T 53)]),
    D 51 (.mv (T 54)),
    D 55 (.ext (T 51) 0),
    D 56 (.ext (T 51) 1),
    D 57 (.ext (T 51) 2),
    D 19 (.alloc true [(.int .i64 0), (.int .i64 0)]),
    E (.store 2 (T 19) (T 55)),
    D 20 (.mv (T 56)),
    D 21 (.mv (T 57))])
  (.seq (.region [
    D 59 (.load (some 2) (T 6)),
    D 60 (.mv (T 3)),
    D 61 (.call 18 [(T 59), (T 60)]),
    D 58 (.mv (T 61)),
    D 62 (.ext (T 58) 0),
    D 63 (.ext (T 58) 1),
    D 64 (.ext (T 58) 2),
    D 22 (.alloc true [(.int .i64 0), (.int .i64 0)]),
    E (.store 2 (T 22) (T 62)),
    D 23 (.mv (T 63)),
    D 24 (.mv (T 64))])
  (.seq (.seq (.region [
    D 65 (.mv (T 9)),
    D 66 (.bstr (T 65)),
    D 67 (.mv (T 11)),
    D 68 (.bstr (T 67)),
    D 69 (.bin .neq (T 66) (T 68)),
    D 70 (.mv (T 69)),
    ⟨(some 71), (some (70, false)), 0, true, .mv (T 10)⟩,
    ⟨(some 72), (some (70, false)), 0, true, .mv (T 12)⟩,
    ⟨(some 73), (some (70, false)), 0, true, .bin .neq (T 71) (T 72)⟩,
    D 74 (.pick (T 70) (C (.bool true)) (T 73)),
    D 75 (.mv (T 74)),
    ⟨(some 76), (some (75, false)), 0, true, .mv (T 0)⟩,
    ⟨(some 77), (some (75, false)), 0, true, .call 19 [(T 76)]⟩,
    ⟨(some 78), (some (75, false)), 0, true, .mv (T 11)⟩,
    ⟨(some 79), (some (75, false)), 0, true, .len (T 78)⟩,
    ⟨(some 80), (some (75, false)), 0, true, .bin .neq (T 77) (T 79)⟩,
    D 81 (.pick (T 75) (C (.bool true)) (T 80)),
    D 82 (.mv (T 81)),
    ⟨(some 83), (some (82, false)), 0, true, .mv (T 13)⟩,
    ⟨(some 84), (some (82, false)), 0, true, .mv (T 16)⟩,
    ⟨(some 85), (some (82, false)), 0, true, .bin .neq (T 83) (T 84)⟩,
    D 86 (.pick (T 82) (C (.bool true)) (T 85)),
    D 87 (.mv (T 86)),
    ⟨(some 88), (some (87, false)), 0, true, .mv (T 14)⟩,
    ⟨(some 89), (some (87, false)), 0, true, .bstr (T 88)⟩,
    ⟨(some 90), (some (87, false)), 0, true, .mv (T 17)⟩,
    ⟨(some 91), (some (87, false)), 0, true, .bstr (T 90)⟩,
    ⟨(some 92), (some (87, false)), 0, true, .bin .neq (T 89) (T 91)⟩,
    D 93 (.pick (T 87) (C (.bool true)) (T 92)),
    D 94 (.mv (T 93)),
    ⟨(some 95), (some (94, false)), 0, true, .mv (T 15)⟩,
    ⟨(some 96), (some (94, false)), 0, true, .mv (T 18)⟩,
    ⟨(some 97), (some (94, false)), 0, true, .bin .neq (T 95) (T 96)⟩,
    D 98 (.pick (T 94) (C (.bool true)) (T 97))])
  (.cond (T 98)
   (.seq (.region [
     D 8 (.mv (C (.bool false)))])
   .ret)
   .skip))
  (.seq (.drawn [
    ⟨(some 99), none, 0, false, .load (some 2) (T 19)⟩,
    ⟨(some 100), none, 0, false, .load (some 2) (T 22)⟩,
    ⟨(some 101), none, 3, false, .eqs false (.agg [.nu, .nu]) (T 99) (T 100)⟩,
    ⟨(some 102), none, 7, false, .mv (T 101)⟩,
    ⟨(some 103), (some (102, true)), 15, false, .mv (T 20)⟩,
    ⟨(some 104), (some (102, true)), 15, false, .mv (T 23)⟩,
    ⟨(some 105), (some (102, true)), 63, false, .eqs false .bool (T 103) (T 104)⟩,
    ⟨(some 106), none, 127, false, .pick (T 102) (T 105) (C (.bool false))⟩,
    ⟨(some 107), none, 255, false, .mv (T 106)⟩,
    ⟨(some 108), (some (107, true)), 511, false, .mv (T 21)⟩,
    ⟨(some 109), (some (107, true)), 511, false, .mv (T 24)⟩,
    ⟨(some 110), (some (107, true)), 2047, false, .bin .eql (T 108) (T 109)⟩,
    ⟨(some 111), none, 4095, false, .pick (T 107) (T 110) (C (.bool false))⟩,
    ⟨(some 112), none, 8191, false, .mv (T 111)⟩,
    ⟨(some 113), (some (112, true)), 16383, false, .load (some 2) (T 6)⟩,
    ⟨(some 114), (some (112, true)), 32767, false, .call 20 [(T 113)]⟩,
    ⟨(some 115), (some (112, true)), 16383, false, .load (some 2) (T 6)⟩,
    ⟨(some 116), (some (112, true)), 131071, true, .call 21 [(T 115)]⟩,
    ⟨(some 117), (some (112, true)), 262143, false, .eqs false .bool (T 114) (T 116)⟩,
    ⟨(some 118), none, 524287, false, .pick (T 112) (T 117) (C (.bool false))⟩,
    ⟨(some 119), none, 1048575, false, .mv (T 118)⟩,
    ⟨(some 120), (some (119, true)), 2097151, true, .call 12 []⟩,
    ⟨(some 121), none, 4194303, false, .pick (T 119) (T 120) (C (.bool false))⟩,
    ⟨(some 8), none, 8388607, false, .mv (T 121)⟩])
  .ret)))))))))), [.tmp 8]⟩
theorem ac3_ok : compFn Try.prog Try.f3 = some ac3 := by kernel_rfl
/-- a loop of winepress/winepresslaw05.VarintBack; it keeps [13, 14, 5, 12] -/
def lb4_0 : ACode := (.seq (.seq (.region [
     D 84 (.mv (T 14)),
     D 85 (.bin .gtr (T 84) (C (.int .i64 0)))])
   (.cond (T 85)
    .skip
    (.exit 0)))
   (.seq (.block 1 (.region [
     D 88 (.mv (T 13)),
     D 89 (.bin .add (T 88) (C (.int .i64 1))),
     D 13 (.mv (T 89))]))
   (.region [
     D 86 (.mv (T 14)),
     D 87 (.bin .shr (T 86) (C (.int .u64 7))),
     D 14 (.mv (T 87))])))
/-- winepress/winepresslaw05.VarintBack -/
def ac4 : AFn := ⟨(.seq (.region [
    D 4 (.mv (C (.bool false)))])
  (.seq (.seq (.region [
    D 15 (.mv (T 0)),
    D 16 (.bin .lss (T 15) (C (.int .i64 0))),
    D 17 (.mv (T 16)),
    ⟨(some 18), (some (17, false)), 0, true, .mv (T 0)⟩,
    ⟨(some 19), (some (17, false)), 0, true, .bin .gtr (T 18) (C (.int .i64 2147483647))⟩,
    D 20 (.pick (T 17) (C (.bool true)) (T 19)),
    D 21 (.mv (T 20)),
    ⟨(some 22), (some (21, false)), 0, true, .mv (T 1)⟩,
    ⟨(some 23), (some (21, false)), 0, true, .len (T 22)⟩,
    ⟨(some 24), (some (21, false)), 0, true, .bin .gtr (T 23) (C (.int .i64 100))⟩,
    D 25 (.pick (T 21) (C (.bool true)) (T 24))])
  (.cond (T 25)
   (.seq (.region [
     D 26 (.call 12 []),
     D 4 (.mv (T 26))])
   .ret)
   .skip))
  (.seq (.region [
    D 28 (.mv (T 0)),
    D 29 (.call 13 [(T 28)]),
    D 27 (.mv (T 29)),
    D 30 (.ext (T 27) 0),
    D 31 (.ext (T 27) 1),
    D 5 (.mv (T 30)),
    D 6 (.mv (T 31))])
  (.seq (.region [
    D 33 (.bslice true 1 0 [] []),
    D 34 (.mv (T 5)),
    D 35 (.append true 1 (T 33) (T 34)),
    D 36 (.mv (T 1)),
    D 37 (.append true 1 (T 35) (T 36)),
    D 38 (.call 15 [(T 37)]),
    D 32 (.mv (T 38)),
    D 39 (.ext (T 32) 0),
    D 40 (.ext (T 32) 1),
    D 41 (.ext (T 32) 2),
    D 7 (.mv (T 39)),
    D 8 (.mv (T 40)),
    D 9 (.mv (T 41))])
  (.seq (.seq (.region [
    D 42 (.mv (T 6)),
    D 43 (.bin .neq (T 42) (C (.int .i64 0))),
    D 44 (.mv (T 43)),
    ⟨(some 45), (some (44, false)), 0, true, .mv (T 9)⟩,
    ⟨(some 46), (some (44, false)), 0, true, .bin .neq (T 45) (C (.int .i64 0))⟩,
    D 47 (.pick (T 44) (C (.bool true)) (T 46)),
    D 48 (.mv (T 47)),
    ⟨(some 49), (some (48, false)), 0, true, .mv (T 7)⟩,
    ⟨(some 50), (some (48, false)), 0, true, .mv (T 0)⟩,
    ⟨(some 51), (some (48, false)), 0, true, .bin .neq (T 49) (T 50)⟩,
    D 52 (.pick (T 48) (C (.bool true)) (T 51)),
    D 53 (.mv (T 52)),
    ⟨(some 54), (some (53, false)), 0, true, .mv (T 8)⟩,
    ⟨(some 55), (some (53, false)), 0, true, .bstr (T 54)⟩,
    ⟨(some 56), (some (53, false)), 0, true, .mv (T 1)⟩,
    ⟨(some 57), (some (53, false)), 0, true, .bstr (T 56)⟩,
    ⟨(some 58), (some (53, false)), 0, true, .bin .neq (T 55) (T 57)⟩,
    D 59 (.pick (T 53) (C (.bool true)) (T 58)),
    D 60 (.mv (T 59)),
    ⟨(some 61), (some (60, false)), 0, true, .mv (T 5)⟩,
    ⟨(some 62), (some (60, false)), 0, true, .len (T 61)⟩,
    ⟨(some 63), (some (60, false)), 0, true, .bin .eql (T 62) (C (.int .i64 0))⟩,
    D 64 (.pick (T 60) (C (.bool true)) (T 63)),
    D 65 (.mv (T 64)),
    ⟨(some 66), (some (65, false)), 0, true, .mv (T 5)⟩,
    ⟨(some 67), (some (65, false)), 0, true, .len (T 66)⟩,
    ⟨(some 68), (some (65, false)), 0, true, .mv (T 0)⟩,
    ⟨(some 69), (some (65, false)), 0, true, .call 19 [(T 68)]⟩,
    ⟨(some 70), (some (65, false)), 0, true, .bin .neq (T 67) (T 69)⟩,
    D 71 (.pick (T 65) (C (.bool true)) (T 70))])
  (.cond (T 71)
   (.seq (.region [
     D 4 (.mv (C (.bool false)))])
   .ret)
   .skip))
  (.seq (.region [
    D 73 (.mv (T 5)),
    D 74 (.mv (T 5)),
    D 75 (.len (T 74)),
    D 76 (.bin .sub (T 75) (C (.int .i64 1))),
    D 77 (.slice 1 (T 73) none (some (T 76)) none),
    D 78 (.call 15 [(T 77)]),
    D 72 (.mv (T 78)),
    D 79 (.ext (T 72) 0),
    D 80 (.ext (T 72) 1),
    D 81 (.ext (T 72) 2),
    D 10 (.mv (T 79)),
    D 11 (.mv (T 80)),
    D 12 (.mv (T 81))])
  (.seq (.region [
    D 13 (.mv (C (.int .i64 1)))])
  (.seq (.seq (.region [
    D 82 (.mv (T 0)),
    D 83 (.bin .shr (T 82) (C (.int .u64 7))),
    D 14 (.mv (T 83))])
  (.block 0 (.loop [13, 14, 5, 12] lb4_0)))
  (.seq (.region [
    D 90 (.mv (T 12)),
    D 91 (.bin .eql (T 90) (C (.int .i64 50))),
    D 92 (.mv (T 91)),
    ⟨(some 93), (some (92, true)), 0, true, .mv (T 5)⟩,
    ⟨(some 94), (some (92, true)), 0, true, .len (T 93)⟩,
    ⟨(some 95), (some (92, true)), 0, true, .mv (T 13)⟩,
    ⟨(some 96), (some (92, true)), 0, true, .bin .eql (T 94) (T 95)⟩,
    D 97 (.pick (T 92) (T 96) (C (.bool false))),
    D 98 (.mv (T 97)),
    ⟨(some 99), (some (98, true)), 0, true, .call 12 []⟩,
    D 100 (.pick (T 98) (T 99) (C (.bool false))),
    D 4 (.mv (T 100))])
  .ret))))))))), [.tmp 4]⟩
theorem ac4_ok : compFn Try.prog Try.f4 = some ac4 := by kernel_rfl
/-- winepress/winepresslaw05.VarintOnly -/
def ac5 : AFn := ⟨(.seq (.region [
    D 2 (.mv (C (.bool false)))])
  (.seq (.seq (.region [
    D 8 (.mv (T 0)),
    D 9 (.len (T 8)),
    D 10 (.bin .gtr (T 9) (C (.int .i64 300)))])
  (.cond (T 10)
   (.seq (.region [
     D 11 (.call 12 []),
     D 2 (.mv (T 11))])
   .ret)
   .skip))
  (.seq (.region [
    D 13 (.mv (T 0)),
    D 14 (.call 15 [(T 13)]),
    D 12 (.mv (T 14)),
    D 15 (.ext (T 12) 0),
    D 16 (.ext (T 12) 1),
    D 17 (.ext (T 12) 2),
    D 3 (.mv (T 15)),
    D 4 (.mv (T 16)),
    D 5 (.mv (T 17))])
  (.seq (.seq (.region [
    D 18 (.mv (T 5)),
    D 19 (.bin .neq (T 18) (C (.int .i64 0)))])
  (.cond (T 19)
   (.seq (.region [
     D 20 (.mv (T 3)),
     D 21 (.bin .eql (T 20) (C (.int .i64 0))),
     D 22 (.mv (T 21)),
     ⟨(some 23), (some (22, true)), 0, true, .mv (T 4)⟩,
     ⟨(some 24), (some (22, true)), 0, true, .len (T 23)⟩,
     ⟨(some 25), (some (22, true)), 0, true, .bin .eql (T 24) (C (.int .i64 0))⟩,
     D 26 (.pick (T 22) (T 25) (C (.bool false))),
     D 27 (.mv (T 26)),
     ⟨(some 28), (some (27, true)), 0, true, .mv (T 5)⟩,
     ⟨(some 29), (some (27, true)), 0, true, .bin .eql (T 28) (C (.int .i64 50))⟩,
     ⟨(some 30), (some (27, true)), 0, true, .mv (T 29)⟩,
     ⟨(some 31), (some (30, false)), 0, true, .mv (T 5)⟩,
     ⟨(some 32), (some (30, false)), 0, true, .bin .eql (T 31) (C (.int .i64 51))⟩,
     ⟨(some 33), (some (27, true)), 0, true, .pick (T 30) (C (.bool true)) (T 32)⟩,
     ⟨(some 34), (some (27, true)), 0, true, .mv (T 33)⟩,
     ⟨(some 35), (some (34, false)), 0, true, .mv (T 5)⟩,
     ⟨(some 36), (some (34, false)), 0, true, .bin .eql (T 35) (C (.int .i64 52))⟩,
     ⟨(some 37), (some (27, true)), 0, true, .pick (T 34) (C (.bool true)) (T 36)⟩,
     D 38 (.pick (T 27) (T 37) (C (.bool false))),
     D 39 (.mv (T 38)),
     ⟨(some 40), (some (39, true)), 0, true, .call 12 []⟩,
     D 41 (.pick (T 39) (T 40) (C (.bool false))),
     D 2 (.mv (T 41))])
   .ret)
   .skip))
  (.seq (.region [
    D 43 (.mv (T 3)),
    D 44 (.call 13 [(T 43)]),
    D 42 (.mv (T 44)),
    D 45 (.ext (T 42) 0),
    D 46 (.ext (T 42) 1),
    D 6 (.mv (T 45)),
    D 7 (.mv (T 46))])
  (.seq (.region [
    D 47 (.mv (T 7)),
    D 48 (.bin .eql (T 47) (C (.int .i64 0))),
    D 49 (.mv (T 48)),
    ⟨(some 50), (some (49, true)), 0, true, .mv (T 6)⟩,
    ⟨(some 51), (some (49, true)), 0, true, .bstr (T 50)⟩,
    ⟨(some 52), (some (49, true)), 0, true, .mv (T 4)⟩,
    ⟨(some 53), (some (49, true)), 0, true, .bstr (T 52)⟩,
    ⟨(some 54), (some (49, true)), 0, true, .bin .add (T 51) (T 53)⟩,
    ⟨(some 55), (some (49, true)), 0, true, .mv (T 0)⟩,
    ⟨(some 56), (some (49, true)), 0, true, .bstr (T 55)⟩,
    ⟨(some 57), (some (49, true)), 0, true, .bin .eql (T 54) (T 56)⟩,
    D 58 (.pick (T 49) (T 57) (C (.bool false))),
    D 59 (.mv (T 58)),
    ⟨(some 60), (some (59, true)), 0, true, .call 12 []⟩,
    D 61 (.pick (T 59) (T 60) (C (.bool false))),
    D 2 (.mv (T 61))])
  .ret)))))), [.tmp 2]⟩
theorem ac5_ok : compFn Try.prog Try.f5 = some ac5 := by kernel_rfl
/-- a loop of winepress/winepresslaw05.VarintSteps; it keeps [5, 7, 0, 4, 3, 6] -/
def lb6_0 : ACode := (.seq (.seq (.region [
     D 21 (.mv (T 7)),
     D 22 (.mv (T 0)),
     D 23 (.len (T 22)),
     D 24 (.bin .lss (T 21) (T 23))])
   (.cond (T 24)
    .skip
    (.exit 0)))
   (.seq (.block 1 (.seq (.seq (.region [
     D 27 (.load (some 2) (T 6)),
     D 28 (.call 20 [(T 27)]),
     D 29 (.un .not (T 28))])
   (.cond (T 29)
    (.seq (.region [
      D 2 (.mv (C (.bool false)))])
    .ret)
    .skip))
   (.seq (.drawn [
     ⟨(some 31), none, 0, false, .load (some 2) (T 6)⟩,
     ⟨(some 32), none, 0, false, .mv (T 0)⟩,
     ⟨(some 33), none, 0, false, .mv (T 7)⟩,
     ⟨(some 34), none, 6, false, .iaddr 1 (T 32) (T 33)⟩,
     ⟨(some 35), none, 14, false, .load none (T 34)⟩,
     ⟨(some 36), none, 31, true, .call 17 [(T 31), (T 35)]⟩,
     ⟨(some 30), none, 63, false, .mv (T 36)⟩,
     ⟨(some 37), none, 127, false, .ext (T 30) 0⟩,
     ⟨(some 38), none, 127, false, .ext (T 30) 1⟩,
     ⟨(some 39), none, 127, false, .ext (T 30) 2⟩,
     ⟨(some 8), none, 0, false, .alloc true [(.int .i64 0), (.int .i64 0)]⟩,
     ⟨none, none, 1279, true, .store 2 (T 8) (T 37)⟩,
     ⟨(some 9), none, 3583, false, .mv (T 38)⟩,
     ⟨(some 10), none, 8191, false, .mv (T 39)⟩])
   (.seq (.seq (.region [
     D 40 (.mv (T 10)),
     D 41 (.bin .neq (T 40) (C (.int .i64 0)))])
   (.cond (T 41)
    (.seq (.region [
      D 42 (.mv (T 10)),
      D 43 (.mv (T 5)),
      D 44 (.bin .eql (T 42) (T 43)),
      D 45 (.mv (T 44)),
      ⟨(some 46), (some (45, true)), 0, true, .load (some 2) (T 8)⟩,
      ⟨(some 47), (some (45, true)), 0, true, .build [(.int .i64 0), (.int .i64 0)] []⟩,
      ⟨(some 48), (some (45, true)), 0, true, .eqs false (.agg [.nu, .nu]) (T 46) (T 47)⟩,
      D 49 (.pick (T 45) (T 48) (C (.bool false))),
      D 50 (.mv (T 49)),
      ⟨(some 51), (some (50, true)), 0, true, .mv (T 9)⟩,
      ⟨(some 52), (some (50, true)), 0, true, .un .not (T 51)⟩,
      D 53 (.pick (T 50) (T 52) (C (.bool false))),
      D 54 (.mv (T 53)),
      ⟨(some 55), (some (54, true)), 0, true, .call 12 []⟩,
      D 56 (.pick (T 54) (T 55) (C (.bool false))),
      D 2 (.mv (T 56))])
    .ret)
    .skip))
   (.seq (.seq (.region [
     D 57 (.faddr 1 (T 8)),
     D 58 (.load none (T 57)),
     D 59 (.mv (T 7)),
     D 60 (.bin .add (T 59) (C (.int .i64 1))),
     D 61 (.bin .neq (T 58) (T 60))])
   (.cond (T 61)
    (.seq (.region [
      D 2 (.mv (C (.bool false)))])
    .ret)
    .skip))
   (.seq (.seq (.region [
     D 62 (.mv (T 9))])
   (.cond (T 62)
    (.seq (.region [
      D 63 (.mv (T 5)),
      D 64 (.bin .eql (T 63) (C (.int .i64 0))),
      D 65 (.mv (T 64)),
      ⟨(some 66), (some (65, true)), 0, true, .faddr 0 (T 8)⟩,
      ⟨(some 67), (some (65, true)), 0, true, .load none (T 66)⟩,
      ⟨(some 68), (some (65, true)), 0, true, .mv (T 3)⟩,
      ⟨(some 69), (some (65, true)), 0, true, .bin .eql (T 67) (T 68)⟩,
      D 70 (.pick (T 65) (T 69) (C (.bool false))),
      D 71 (.mv (T 70)),
      ⟨(some 72), (some (71, true)), 0, true, .mv (T 4)⟩,
      ⟨(some 73), (some (71, true)), 0, true, .len (T 72)⟩,
      ⟨(some 74), (some (71, true)), 0, true, .mv (T 0)⟩,
      ⟨(some 75), (some (71, true)), 0, true, .len (T 74)⟩,
      ⟨(some 76), (some (71, true)), 0, true, .mv (T 7)⟩,
      ⟨(some 77), (some (71, true)), 0, true, .bin .sub (T 75) (T 76)⟩,
      ⟨(some 78), (some (71, true)), 0, true, .bin .sub (T 77) (C (.int .i64 1))⟩,
      ⟨(some 79), (some (71, true)), 0, true, .bin .eql (T 73) (T 78)⟩,
      D 80 (.pick (T 71) (T 79) (C (.bool false))),
      D 81 (.mv (T 80)),
      ⟨(some 82), (some (81, true)), 0, true, .call 12 []⟩,
      D 83 (.pick (T 81) (T 82) (C (.bool false))),
      D 2 (.mv (T 83))])
    .ret)
    .skip))
   (.region [
     D 84 (.load (some 2) (T 8)),
     E (.store 2 (T 6) (T 84))])))))))
   (.region [
     D 25 (.mv (T 7)),
     D 26 (.bin .add (T 25) (C (.int .i64 1))),
     D 7 (.mv (T 26))])))
/-- winepress/winepresslaw05.VarintSteps -/
def ac6 : AFn := ⟨(.seq (.region [
    D 2 (.mv (C (.bool false)))])
  (.seq (.seq (.region [
    D 11 (.mv (T 0)),
    D 12 (.len (T 11)),
    D 13 (.bin .gtr (T 12) (C (.int .i64 20)))])
  (.cond (T 13)
   (.seq (.region [
     D 14 (.call 12 []),
     D 2 (.mv (T 14))])
   .ret)
   .skip))
  (.seq (.region [
    D 16 (.mv (T 0)),
    D 17 (.call 15 [(T 16)]),
    D 15 (.mv (T 17)),
    D 18 (.ext (T 15) 0),
    D 19 (.ext (T 15) 1),
    D 20 (.ext (T 15) 2),
    D 3 (.mv (T 18)),
    D 4 (.mv (T 19)),
    D 5 (.mv (T 20))])
  (.seq (.region [
    D 6 (.alloc true [(.int .i64 0), (.int .i64 0)])])
  (.seq (.seq (.region [
    D 7 (.mv (C (.int .i64 0)))])
  (.block 0 (.loop [5, 7, 0, 4, 3, 6] lb6_0)))
  (.seq (.region [
    D 85 (.mv (T 5)),
    D 86 (.bin .eql (T 85) (C (.int .i64 50))),
    D 87 (.mv (T 86)),
    ⟨(some 88), (some (87, true)), 0, true, .call 12 []⟩,
    D 89 (.pick (T 87) (T 88) (C (.bool false))),
    D 2 (.mv (T 89))])
  .ret)))))), [.tmp 2]⟩
theorem ac6_ok : compFn Try.prog Try.f6 = some ac6 := by kernel_rfl
/-- winepress/winepresslaw05.VarintOrder -/
def ac7 : AFn := ⟨(.seq (.region [
    D 4 (.mv (C (.bool false)))])
  (.seq (.seq (.region [
    D 9 (.mv (T 0)),
    D 10 (.bin .lss (T 9) (C (.int .i64 0))),
    D 11 (.mv (T 10)),
    ⟨(some 12), (some (11, false)), 0, true, .mv (T 0)⟩,
    ⟨(some 13), (some (11, false)), 0, true, .mv (T 1)⟩,
    ⟨(some 14), (some (11, false)), 0, true, .bin .geq (T 12) (T 13)⟩,
    D 15 (.pick (T 11) (C (.bool true)) (T 14)),
    D 16 (.mv (T 15)),
    ⟨(some 17), (some (16, false)), 0, true, .mv (T 1)⟩,
    ⟨(some 18), (some (16, false)), 0, true, .bin .gtr (T 17) (C (.int .i64 2147483647))⟩,
    D 19 (.pick (T 16) (C (.bool true)) (T 18))])
  (.cond (T 19)
   (.seq (.region [
     D 20 (.call 12 []),
     D 4 (.mv (T 20))])
   .ret)
   .skip))
  (.seq (.region [
    D 22 (.mv (T 0)),
    D 23 (.call 13 [(T 22)]),
    D 21 (.mv (T 23)),
    D 24 (.ext (T 21) 0),
    D 25 (.ext (T 21) 1),
    D 5 (.mv (T 24)),
    D 6 (.mv (T 25))])
  (.seq (.region [
    D 27 (.mv (T 1)),
    D 28 (.call 13 [(T 27)]),
    D 26 (.mv (T 28)),
    D 29 (.ext (T 26) 0),
    D 30 (.ext (T 26) 1),
    D 7 (.mv (T 29)),
    D 8 (.mv (T 30))])
  (.seq (.region [
    D 31 (.mv (T 6)),
    D 32 (.bin .eql (T 31) (C (.int .i64 0))),
    D 33 (.mv (T 32)),
    ⟨(some 34), (some (33, true)), 0, true, .mv (T 8)⟩,
    ⟨(some 35), (some (33, true)), 0, true, .bin .eql (T 34) (C (.int .i64 0))⟩,
    D 36 (.pick (T 33) (T 35) (C (.bool false))),
    D 37 (.mv (T 36)),
    ⟨(some 38), (some (37, true)), 0, true, .mv (T 5)⟩,
    ⟨(some 39), (some (37, true)), 0, true, .len (T 38)⟩,
    ⟨(some 40), (some (37, true)), 0, true, .mv (T 7)⟩,
    ⟨(some 41), (some (37, true)), 0, true, .len (T 40)⟩,
    ⟨(some 42), (some (37, true)), 0, true, .bin .leq (T 39) (T 41)⟩,
    D 43 (.pick (T 37) (T 42) (C (.bool false))),
    D 44 (.mv (T 43)),
    ⟨(some 45), (some (44, true)), 0, true, .mv (T 5)⟩,
    ⟨(some 46), (some (44, true)), 0, true, .len (T 45)⟩,
    ⟨(some 47), (some (44, true)), 0, true, .mv (T 7)⟩,
    ⟨(some 48), (some (44, true)), 0, true, .len (T 47)⟩,
    ⟨(some 49), (some (44, true)), 0, true, .bin .lss (T 46) (T 48)⟩,
    ⟨(some 50), (some (44, true)), 0, true, .mv (T 49)⟩,
    ⟨(some 51), (some (50, false)), 0, true, .mv (T 5)⟩,
    ⟨(some 52), (some (50, false)), 0, true, .bstr (T 51)⟩,
    ⟨(some 53), (some (50, false)), 0, true, .mv (T 7)⟩,
    ⟨(some 54), (some (50, false)), 0, true, .bstr (T 53)⟩,
    ⟨(some 55), (some (50, false)), 0, true, .bin .lss (T 52) (T 54)⟩,
    ⟨(some 56), (some (44, true)), 0, true, .pick (T 50) (C (.bool true)) (T 55)⟩,
    D 57 (.pick (T 44) (T 56) (C (.bool false))),
    D 58 (.mv (T 57)),
    ⟨(some 59), (some (58, true)), 0, true, .call 12 []⟩,
    D 60 (.pick (T 58) (T 59) (C (.bool false))),
    D 4 (.mv (T 60))])
  .ret))))), [.tmp 4]⟩
theorem ac7_ok : compFn Try.prog Try.f7 = some ac7 := by kernel_rfl
/-- winepress/winepresslaw05.wakes -/
def ac12 : AFn := ⟨(.seq (.region [
    D 0 (.mv (C (.bool false)))])
  (.seq (.region [
    D 33 (.call 13 [(C (.int .i64 5))]),
    D 32 (.mv (T 33)),
    D 34 (.ext (T 32) 0),
    D 35 (.ext (T 32) 1),
    D 1 (.mv (T 34)),
    D 2 (.mv (T 35))])
  (.seq (.region [
    D 37 (.call 13 [(C (.int .i64 300))]),
    D 36 (.mv (T 37)),
    D 38 (.ext (T 36) 0),
    D 39 (.ext (T 36) 1),
    D 3 (.mv (T 38)),
    D 4 (.mv (T 39))])
  (.seq (.region [
    D 41 (.call 13 [(C (.int .i64 0))]),
    D 40 (.mv (T 41)),
    D 42 (.ext (T 40) 0),
    D 43 (.ext (T 40) 1),
    D 5 (.mv (T 42)),
    D 6 (.mv (T 43))])
  (.seq (.region [
    D 45 (.call 13 [(C (.int .i64 (-1)))]),
    D 44 (.mv (T 45)),
    D 46 (.ext (T 44) 0),
    D 47 (.ext (T 44) 1),
    D 7 (.mv (T 46)),
    D 8 (.mv (T 47))])
  (.seq (.region [
    D 49 (.call 13 [(C (.int .i64 2147483647))]),
    D 48 (.mv (T 49)),
    D 50 (.ext (T 48) 0),
    D 51 (.ext (T 48) 1),
    D 9 (.mv (T 50)),
    D 10 (.mv (T 51))])
  (.seq (.region [
    D 53 (.bslice true 1 3 [(.int .u8 0), (.int .u8 0), (.int .u8 0)] [(0, 1, (C (.int .u8 130))), (1, 1, (C (.int .u8 44))), (2, 1, (C (.int .u8 9)))]),
    D 54 (.call 15 [(T 53)]),
    D 52 (.mv (T 54)),
    D 55 (.ext (T 52) 0),
    D 56 (.ext (T 52) 1),
    D 57 (.ext (T 52) 2),
    D 11 (.mv (T 55)),
    D 12 (.mv (T 56)),
    D 13 (.mv (T 57))])
  (.seq (.region [
    D 59 (.bslice true 1 2 [(.int .u8 0), (.int .u8 0)] [(0, 1, (C (.int .u8 128))), (1, 1, (C (.int .u8 5)))]),
    D 60 (.call 15 [(T 59)]),
    D 58 (.mv (T 60)),
    D 61 (.ext (T 58) 0),
    D 62 (.ext (T 58) 1),
    D 63 (.ext (T 58) 2),
    D 14 (.mv (T 61)),
    D 15 (.mv (T 62)),
    D 16 (.mv (T 63))])
  (.seq (.region [
    D 65 (.bslice true 1 1 [(.int .u8 0)] [(0, 1, (C (.int .u8 130)))]),
    D 66 (.call 15 [(T 65)]),
    D 64 (.mv (T 66)),
    D 67 (.ext (T 64) 0),
    D 68 (.ext (T 64) 1),
    D 69 (.ext (T 64) 2),
    D 17 (.mv (T 67)),
    D 18 (.mv (T 68)),
    D 19 (.mv (T 69))])
  (.seq (.region [
    D 71 (.bslice true 1 5 (List.replicate 5 (.int .u8 0)) [(0, 1, (C (.int .u8 136))), (1, 1, (C (.int .u8 128))), (2, 1, (C (.int .u8 128))), (3, 1, (C (.int .u8 128))), (4, 1, (C (.int .u8 0)))]),
    D 72 (.call 15 [(T 71)]),
    D 70 (.mv (T 72)),
    D 73 (.ext (T 70) 0),
    D 74 (.ext (T 70) 1),
    D 75 (.ext (T 70) 2),
    D 20 (.mv (T 73)),
    D 21 (.mv (T 74)),
    D 22 (.mv (T 75))])
  (.seq (.region [
    D 77 (.bslice true 1 5 (List.replicate 5 (.int .u8 0)) [(0, 1, (C (.int .u8 129))), (1, 1, (C (.int .u8 128))), (2, 1, (C (.int .u8 128))), (3, 1, (C (.int .u8 128))), (4, 1, (C (.int .u8 128)))]),
    D 78 (.call 15 [(T 77)]),
    D 76 (.mv (T 78)),
    D 79 (.ext (T 76) 0),
    D 80 (.ext (T 76) 1),
    D 81 (.ext (T 76) 2),
    D 23 (.mv (T 79)),
    D 24 (.mv (T 80)),
    D 25 (.mv (T 81))])
  (.seq (.region [
    D 83 (.build [(.int .i64 0), (.int .i64 0)] []),
    D 84 (.call 17 [(T 83), (C (.int .u8 130))]),
    D 82 (.mv (T 84)),
    D 85 (.ext (T 82) 0),
    D 86 (.ext (T 82) 1),
    D 87 (.ext (T 82) 2),
    D 26 (.alloc true [(.int .i64 0), (.int .i64 0)]),
    E (.store 2 (T 26) (T 85)),
    D 27 (.mv (T 86)),
    D 28 (.mv (T 87))])
  (.seq (.region [
    D 89 (.build [(.int .i64 0), (.int .i64 0)] [(1, 1, (C (.int .i64 1)))]),
    D 90 (.call 17 [(T 89), (C (.int .u8 1))]),
    D 88 (.mv (T 90)),
    D 91 (.ext (T 88) 0),
    D 92 (.ext (T 88) 1),
    D 93 (.ext (T 88) 2),
    D 29 (.alloc true [(.int .i64 0), (.int .i64 0)]),
    E (.store 2 (T 29) (T 91)),
    D 30 (.mv (T 92)),
    D 31 (.mv (T 93))])
  (.seq (.region [
    D 94 (.mv (T 1)),
    D 95 (.bstr (T 94)),
    D 96 (.bin .eql (T 95) (C (.string ⟨#[5]⟩))),
    D 97 (.mv (T 96)),
    ⟨(some 98), (some (97, true)), 0, true, .mv (T 3)⟩,
    ⟨(some 99), (some (97, true)), 0, true, .bstr (T 98)⟩,
    ⟨(some 100), (some (97, true)), 0, true, .bin .eql (T 99) (C (.string ⟨#[130, 44]⟩))⟩,
    D 101 (.pick (T 97) (T 100) (C (.bool false))),
    D 102 (.mv (T 101)),
    ⟨(some 103), (some (102, true)), 0, true, .mv (T 4)⟩,
    ⟨(some 104), (some (102, true)), 0, true, .bin .eql (T 103) (C (.int .i64 0))⟩,
    D 105 (.pick (T 102) (T 104) (C (.bool false))),
    D 106 (.mv (T 105)),
    ⟨(some 107), (some (106, true)), 0, true, .mv (T 5)⟩,
    ⟨(some 108), (some (106, true)), 0, true, .bstr (T 107)⟩,
    ⟨(some 109), (some (106, true)), 0, true, .bin .eql (T 108) (C (.string ⟨#[0]⟩))⟩,
    D 110 (.pick (T 106) (T 109) (C (.bool false))),
    D 111 (.mv (T 110)),
    ⟨(some 112), (some (111, true)), 0, true, .mv (T 8)⟩,
    ⟨(some 113), (some (111, true)), 0, true, .bin .eql (T 112) (C (.int .i64 2))⟩,
    D 114 (.pick (T 111) (T 113) (C (.bool false))),
    D 115 (.mv (T 114)),
    ⟨(some 116), (some (115, true)), 0, true, .mv (T 9)⟩,
    ⟨(some 117), (some (115, true)), 0, true, .bstr (T 116)⟩,
    ⟨(some 118), (some (115, true)), 0, true, .bin .eql (T 117) (C (.string ⟨#[135, 255, 255, 255, 127]⟩))⟩,
    D 119 (.pick (T 115) (T 118) (C (.bool false))),
    D 120 (.mv (T 119)),
    ⟨(some 121), (some (120, true)), 0, true, .mv (T 11)⟩,
    ⟨(some 122), (some (120, true)), 0, true, .bin .eql (T 121) (C (.int .i64 300))⟩,
    D 123 (.pick (T 120) (T 122) (C (.bool false))),
    D 124 (.mv (T 123)),
    ⟨(some 125), (some (124, true)), 0, true, .mv (T 12)⟩,
    ⟨(some 126), (some (124, true)), 0, true, .bstr (T 125)⟩,
    ⟨(some 127), (some (124, true)), 0, true, .bin .eql (T 126) (C (.string ⟨#[9]⟩))⟩,
    D 128 (.pick (T 124) (T 127) (C (.bool false))),
    D 129 (.mv (T 128)),
    ⟨(some 130), (some (129, true)), 0, true, .mv (T 13)⟩,
    ⟨(some 131), (some (129, true)), 0, true, .bin .eql (T 130) (C (.int .i64 0))⟩,
    D 132 (.pick (T 129) (T 131) (C (.bool false))),
    D 133 (.mv (T 132)),
    ⟨(some 134), (some (133, true)), 0, true, .mv (T 16)⟩,
    ⟨(some 135), (some (133, true)), 0, true, .bin .eql (T 134) (C (.int .i64 51))⟩,
    D 136 (.pick (T 133) (T 135) (C (.bool false))),
    D 137 (.mv (T 136)),
    ⟨(some 138), (some (137, true)), 0, true, .mv (T 19)⟩,
    ⟨(some 139), (some (137, true)), 0, true, .bin .eql (T 138) (C (.int .i64 50))⟩,
    D 140 (.pick (T 137) (T 139) (C (.bool false))),
    D 141 (.mv (T 140)),
    ⟨(some 142), (some (141, true)), 0, true, .mv (T 22)⟩,
    ⟨(some 143), (some (141, true)), 0, true, .bin .eql (T 142) (C (.int .i64 52))⟩,
    D 144 (.pick (T 141) (T 143) (C (.bool false))),
    D 145 (.mv (T 144)),
    ⟨(some 146), (some (145, true)), 0, true, .mv (T 25)⟩,
    ⟨(some 147), (some (145, true)), 0, true, .bin .eql (T 146) (C (.int .i64 52))⟩,
    D 148 (.pick (T 145) (T 147) (C (.bool false))),
    D 149 (.mv (T 148)),
    ⟨(some 150), (some (149, true)), 0, true, .load (some 2) (T 26)⟩,
    ⟨(some 151), (some (149, true)), 0, true, .build [(.int .i64 0), (.int .i64 0)] [(0, 1, (C (.int .i64 2))), (1, 1, (C (.int .i64 1)))]⟩,
    ⟨(some 152), (some (149, true)), 0, true, .eqs false (.agg [.nu, .nu]) (T 150) (T 151)⟩,
    D 153 (.pick (T 149) (T 152) (C (.bool false))),
    D 154 (.mv (T 153)),
    ⟨(some 155), (some (154, true)), 0, true, .mv (T 27)⟩,
    ⟨(some 156), (some (154, true)), 0, true, .un .not (T 155)⟩,
    D 157 (.pick (T 154) (T 156) (C (.bool false))),
    D 158 (.mv (T 157)),
    ⟨(some 159), (some (158, true)), 0, true, .mv (T 28)⟩,
    ⟨(some 160), (some (158, true)), 0, true, .bin .eql (T 159) (C (.int .i64 0))⟩,
    D 161 (.pick (T 158) (T 160) (C (.bool false))),
    D 162 (.mv (T 161)),
    ⟨(some 163), (some (162, true)), 0, true, .mv (T 31)⟩,
    ⟨(some 164), (some (162, true)), 0, true, .bin .eql (T 163) (C (.int .i64 2))⟩,
    D 165 (.pick (T 162) (T 164) (C (.bool false))),
    D 166 (.mv (T 165)),
    ⟨(some 167), (some (166, true)), 0, true, .call 19 [(C (.int .i64 300))]⟩,
    ⟨(some 168), (some (166, true)), 0, true, .bin .eql (T 167) (C (.int .i64 2))⟩,
    D 169 (.pick (T 166) (T 168) (C (.bool false))),
    D 170 (.mv (T 169)),
    ⟨(some 171), (some (170, true)), 0, true, .call 19 [(C (.int .i64 (-1)))]⟩,
    ⟨(some 172), (some (170, true)), 0, true, .bin .eql (T 171) (C (.int .i64 0))⟩,
    D 173 (.pick (T 170) (T 172) (C (.bool false))),
    D 174 (.mv (T 173)),
    ⟨(some 175), (some (174, true)), 0, true, .load (some 2) (T 26)⟩,
    ⟨(some 176), (some (174, true)), 0, true, .call 20 [(T 175)]⟩,
    D 177 (.pick (T 174) (T 176) (C (.bool false))),
    D 178 (.mv (T 177)),
    ⟨(some 179), (some (178, true)), 0, true, .build [(.int .i64 0), (.int .i64 0)] [(0, 1, (C (.int .i64 1)))]⟩,
    ⟨(some 180), (some (178, true)), 0, true, .call 20 [(T 179)]⟩,
    ⟨(some 181), (some (178, true)), 0, true, .un .not (T 180)⟩,
    D 182 (.pick (T 178) (T 181) (C (.bool false))),
    D 0 (.mv (T 182))])
  .ret)))))))))))))), [.tmp 0]⟩
theorem ac12_ok : compFn Try.prog Try.f12 = some ac12 := by kernel_rfl
/-- a loop of winepress/varint.Put; it keeps [2, 0] -/
def lb13_0 : ACode := (.seq (.seq (.region [
     D 18 (.mv (T 0)),
     D 19 (.bin .gtr (T 18) (C (.int .i64 0)))])
   (.cond (T 19)
    .skip
    (.exit 0)))
   (.seq (.block 1 (.region [
     D 22 (.mv (T 2)),
     D 23 (.mv (T 0)),
     D 24 (.bin .and (T 23) (C (.int .i64 127))),
     D 25 (.conv .u8 (T 24)),
     D 26 (.bin .or (T 25) (C (.int .u8 128))),
     D 27 (.bslice true 1 1 [(.int .u8 0)] [(0, 1, (T 26))]),
     D 28 (.append true 1 (T 22) (T 27)),
     D 2 (.mv (T 28))]))
   (.region [
     D 20 (.mv (T 0)),
     D 21 (.bin .shr (T 20) (C (.int .u64 7))),
     D 0 (.mv (T 21))])))
/-- winepress/varint.Put -/
def ac13 : AFn := ⟨(.seq (.region [
    D 2 (.mv (C (.slice none 0 0))),
    D 3 (.mv (C (.int .i64 0)))])
  (.seq (.seq (.region [
    D 4 (.mv (T 0)),
    D 5 (.bin .lss (T 4) (C (.int .i64 0))),
    D 6 (.mv (T 5)),
    ⟨(some 7), (some (6, false)), 0, true, .mv (T 0)⟩,
    ⟨(some 8), (some (6, false)), 0, true, .bin .gtr (T 7) (C (.int .i64 2147483647))⟩,
    D 9 (.pick (T 6) (C (.bool true)) (T 8))])
  (.cond (T 9)
   (.seq (.region [
     D 2 (.mv (C (.slice none 0 0))),
     D 3 (.mv (C (.int .i64 2)))])
   .ret)
   .skip))
  (.seq (.region [
    D 10 (.mv (T 2)),
    D 11 (.mv (T 0)),
    D 12 (.bin .and (T 11) (C (.int .i64 127))),
    D 13 (.conv .u8 (T 12)),
    D 14 (.bslice true 1 1 [(.int .u8 0)] [(0, 1, (T 13))]),
    D 15 (.append true 1 (T 10) (T 14)),
    D 2 (.mv (T 15))])
  (.seq (.seq (.region [
    D 16 (.mv (T 0)),
    D 17 (.bin .shr (T 16) (C (.int .u64 7))),
    D 0 (.mv (T 17))])
  (.block 0 (.loop [2, 0] lb13_0)))
  (.seq (.region [
    D 29 (.mv (T 2)),
    D 30 (.call 37 [(T 29)])])
  (.seq (.region [
    D 31 (.mv (T 2)),
    D 2 (.mv (T 31)),
    D 3 (.mv (C (.int .i64 0)))])
  .ret)))))), [.tmp 2, .tmp 3]⟩
theorem ac13_ok : compFn Try.prog Try.f13 = some ac13 := by kernel_rfl
/-- a loop of winepress/winepressref05.Put; it keeps [4, 0] -/
def lb14_0 : ACode := (.seq (.seq (.region [
     D 17 (.mv (T 0)),
     D 18 (.bin .gtr (T 17) (C (.int .i64 0)))])
   (.cond (T 18)
    .skip
    (.exit 0)))
   (.seq (.block 1 (.region [
     D 21 (.mv (T 0)),
     D 22 (.bin .rem (T 21) (C (.int .i64 128))),
     D 23 (.bin .add (C (.int .i64 128)) (T 22)),
     D 24 (.conv .u8 (T 23)),
     D 25 (.bslice true 1 1 [(.int .u8 0)] [(0, 1, (T 24))]),
     D 26 (.mv (T 4)),
     D 27 (.append true 1 (T 25) (T 26)),
     D 4 (.mv (T 27))]))
   (.region [
     D 19 (.mv (T 0)),
     D 20 (.bin .quo (T 19) (C (.int .i64 128))),
     D 0 (.mv (T 20))])))
/-- winepress/winepressref05.Put -/
def ac14 : AFn := ⟨(.seq (.region [
    D 2 (.mv (C (.slice none 0 0))),
    D 3 (.mv (C (.int .i64 0)))])
  (.seq (.seq (.region [
    D 5 (.mv (T 0)),
    D 6 (.bin .lss (T 5) (C (.int .i64 0))),
    D 7 (.mv (T 6)),
    ⟨(some 8), (some (7, false)), 0, true, .mv (T 0)⟩,
    ⟨(some 9), (some (7, false)), 0, true, .bin .gtr (T 8) (C (.int .i64 2147483647))⟩,
    D 10 (.pick (T 7) (C (.bool true)) (T 9))])
  (.cond (T 10)
   (.seq (.region [
     D 2 (.mv (C (.slice none 0 0))),
     D 3 (.mv (C (.int .i64 2)))])
   .ret)
   .skip))
  (.seq (.region [
    D 11 (.mv (T 0)),
    D 12 (.bin .rem (T 11) (C (.int .i64 128))),
    D 13 (.conv .u8 (T 12)),
    D 14 (.bslice true 1 1 [(.int .u8 0)] [(0, 1, (T 13))]),
    D 4 (.mv (T 14))])
  (.seq (.seq (.region [
    D 15 (.mv (T 0)),
    D 16 (.bin .quo (T 15) (C (.int .i64 128))),
    D 0 (.mv (T 16))])
  (.block 0 (.loop [4, 0] lb14_0)))
  (.seq (.region [
    D 28 (.mv (T 4)),
    D 2 (.mv (T 28)),
    D 3 (.mv (C (.int .i64 0)))])
  .ret))))), [.tmp 2, .tmp 3]⟩
theorem ac14_ok : compFn Try.prog Try.f14 = some ac14 := by kernel_rfl
/-- a loop of winepress/varint.Take; it keeps [0, 5, 13, 12, 11] -/
def lb15_0 : ACode := (.seq (.region [
     D 14 (.bin .lss (T 13) (T 12))])
   (.seq (.cond (T 14)
    .skip
    (.exit 0))
   (.seq (.block 1 (.seq (.region [
     D 15 (.mv (T 13)),
     D 16 (.iaddr 1 (T 11) (T 13)),
     D 17 (.load none (T 16)),
     D 6 (.mv (T 15)),
     D 7 (.mv (T 17))])
   (.seq (.region [
     D 19 (.load (some 2) (T 5)),
     D 20 (.mv (T 7)),
     D 21 (.call 17 [(T 19), (T 20)]),
     D 18 (.mv (T 21)),
     D 22 (.ext (T 18) 0),
     D 23 (.ext (T 18) 1),
     D 24 (.ext (T 18) 2),
     D 8 (.alloc true [(.int .i64 0), (.int .i64 0)]),
     E (.store 2 (T 8) (T 22)),
     D 9 (.mv (T 23)),
     D 10 (.mv (T 24))])
   (.seq (.seq (.region [
     D 25 (.mv (T 10)),
     D 26 (.bin .neq (T 25) (C (.int .i64 0)))])
   (.cond (T 26)
    (.seq (.region [
      D 27 (.mv (T 10)),
      D 2 (.mv (C (.int .i64 0))),
      D 3 (.mv (C (.slice none 0 0))),
      D 4 (.mv (T 27))])
    .ret)
    .skip))
   (.seq (.region [
     D 28 (.load (some 2) (T 8)),
     E (.store 2 (T 5) (T 28))])
   (.seq (.region [
     D 29 (.mv (T 9))])
   (.cond (T 29)
    (.seq (.drawn [
      ⟨(some 30), none, 0, false, .faddr 0 (T 5)⟩,
      ⟨(some 31), none, 1, false, .load none (T 30)⟩,
      ⟨(some 32), none, 0, false, .mv (T 0)⟩,
      ⟨(some 33), none, 0, false, .mv (T 6)⟩,
      ⟨(some 34), none, 8, false, .bin .add (T 33) (C (.int .i64 1))⟩,
      ⟨(some 35), none, 28, false, .slice 1 (T 32) (some (T 34)) none none⟩,
      ⟨(some 36), none, 60, false, .call 38 [(T 35)]⟩,
      ⟨(some 2), none, 127, false, .mv (T 31)⟩,
      ⟨(some 3), none, 255, false, .mv (T 36)⟩,
      ⟨(some 4), none, 511, false, .mv (C (.int .i64 0))⟩])
    .ret)
    .skip)))))))
   (.region [
     D 37 (.bin .add (T 13) (C (.int .i64 1))),
     D 13 (.mv (T 37))]))))
/-- winepress/varint.Take -/
def ac15 : AFn := ⟨(.seq (.region [
    D 2 (.mv (C (.int .i64 0))),
    D 3 (.mv (C (.slice none 0 0))),
    D 4 (.mv (C (.int .i64 0)))])
  (.seq (.region [
    D 5 (.alloc true [(.int .i64 0), (.int .i64 0)])])
  (.seq (.seq (.region [
    D 11 (.mv (T 0)),
    D 12 (.len (T 11)),
    D 13 (.mv (C (.int .i64 0)))])
  (.block 0 (.loop [0, 5, 13, 12, 11] lb15_0)))
  (.seq (.region [
    D 2 (.mv (C (.int .i64 0))),
    D 3 (.mv (C (.slice none 0 0))),
    D 4 (.mv (C (.int .i64 50)))])
  .ret)))), [.tmp 2, .tmp 3, .tmp 4]⟩
theorem ac15_ok : compFn Try.prog Try.f15 = some ac15 := by kernel_rfl
/-- a loop of winepress/winepressref05.Take; it keeps [6, 0, 5] -/
def lb16_0 : ACode := (.seq (.seq (.region [
     D 10 (.mv (T 6)),
     D 11 (.mv (T 0)),
     D 12 (.len (T 11)),
     D 13 (.bin .lss (T 10) (T 12))])
   (.cond (T 13)
    .skip
    (.exit 0)))
   (.seq (.block 1 (.seq (.drawn [
     ⟨(some 17), none, 0, false, .load (some 2) (T 5)⟩,
     ⟨(some 18), none, 0, false, .mv (T 0)⟩,
     ⟨(some 19), none, 0, false, .mv (T 6)⟩,
     ⟨(some 20), none, 6, false, .iaddr 1 (T 18) (T 19)⟩,
     ⟨(some 21), none, 14, false, .load none (T 20)⟩,
     ⟨(some 22), none, 31, true, .call 18 [(T 17), (T 21)]⟩,
     ⟨(some 16), none, 63, false, .mv (T 22)⟩,
     ⟨(some 23), none, 127, false, .ext (T 16) 0⟩,
     ⟨(some 24), none, 127, false, .ext (T 16) 1⟩,
     ⟨(some 25), none, 127, false, .ext (T 16) 2⟩,
     ⟨(some 7), none, 0, false, .alloc true [(.int .i64 0), (.int .i64 0)]⟩,
     ⟨none, none, 1279, true, .store 2 (T 7) (T 23)⟩,
     ⟨(some 8), none, 3583, false, .mv (T 24)⟩,
     ⟨(some 9), none, 8191, false, .mv (T 25)⟩])
   (.seq (.seq (.region [
     D 26 (.mv (T 9)),
     D 27 (.bin .neq (T 26) (C (.int .i64 0)))])
   (.cond (T 27)
    (.seq (.region [
      D 28 (.mv (T 9)),
      D 2 (.mv (C (.int .i64 0))),
      D 3 (.mv (C (.slice none 0 0))),
      D 4 (.mv (T 28))])
    .ret)
    .skip))
   (.seq (.seq (.region [
     D 29 (.mv (T 8))])
   (.cond (T 29)
    (.seq (.drawn [
      ⟨(some 30), none, 0, false, .faddr 0 (T 7)⟩,
      ⟨(some 31), none, 1, false, .load none (T 30)⟩,
      ⟨(some 32), none, 0, false, .bslice true 1 0 [] []⟩,
      ⟨(some 33), none, 0, false, .mv (T 0)⟩,
      ⟨(some 34), none, 0, false, .mv (T 6)⟩,
      ⟨(some 35), none, 16, false, .bin .add (T 34) (C (.int .i64 1))⟩,
      ⟨(some 36), none, 56, false, .slice 1 (T 33) (some (T 35)) none none⟩,
      ⟨(some 37), none, 124, false, .append true 1 (T 32) (T 36)⟩,
      ⟨(some 2), none, 255, false, .mv (T 31)⟩,
      ⟨(some 3), none, 511, false, .mv (T 37)⟩,
      ⟨(some 4), none, 1023, false, .mv (C (.int .i64 0))⟩])
    .ret)
    .skip))
   (.region [
     D 38 (.load (some 2) (T 7)),
     E (.store 2 (T 5) (T 38))])))))
   (.region [
     D 14 (.mv (T 6)),
     D 15 (.bin .add (T 14) (C (.int .i64 1))),
     D 6 (.mv (T 15))])))
/-- winepress/winepressref05.Take -/
def ac16 : AFn := ⟨(.seq (.region [
    D 2 (.mv (C (.int .i64 0))),
    D 3 (.mv (C (.slice none 0 0))),
    D 4 (.mv (C (.int .i64 0)))])
  (.seq (.region [
    D 5 (.alloc true [(.int .i64 0), (.int .i64 0)])])
  (.seq (.seq (.region [
    D 6 (.mv (C (.int .i64 0)))])
  (.block 0 (.loop [6, 0, 5] lb16_0)))
  (.seq (.region [
    D 2 (.mv (C (.int .i64 0))),
    D 3 (.mv (C (.slice none 0 0))),
    D 4 (.mv (C (.int .i64 50)))])
  .ret)))), [.tmp 2, .tmp 3, .tmp 4]⟩
theorem ac16_ok : compFn Try.prog Try.f16 = some ac16 := by kernel_rfl
/-- winepress/varint.Step -/
def ac17 : AFn := ⟨(.seq (.region [
    D 2 (.box true (T 0)),
    D 4 (.alloc true [(.int .i64 0), (.int .i64 0)]),
    D 5 (.mv (C (.bool false))),
    D 6 (.mv (C (.int .i64 0)))])
  (.seq (.region [
    D 8 (.faddr 0 (T 2)),
    D 9 (.load none (T 8)),
    D 10 (.bin .shl (T 9) (C (.int .u64 7))),
    D 11 (.mv (T 1)),
    D 12 (.bin .and (T 11) (C (.int .u8 127))),
    D 13 (.conv .i64 (T 12)),
    D 14 (.bin .or (T 10) (T 13)),
    D 7 (.mv (T 14))])
  (.seq (.block 0 (.seq (.region [
    D 16 (.load (some 2) (T 2)),
    D 17 (.call 20 [(T 16)]),
    D 18 (.un .not (T 17)),
    D 15 (.mv (T 18))])
  (.cond (T 15)
   (.seq (.region [
     D 19 (.load (some 2) (T 4)),
     E (.store 2 (T 4) (T 19)),
     D 5 (.mv (C (.bool false))),
     D 6 (.mv (C (.int .i64 2)))])
   .ret)
   (.seq (.region [
     D 21 (.mv (T 1)),
     D 22 (.bin .eql (T 21) (C (.int .u8 128))),
     D 23 (.mv (T 22)),
     ⟨(some 24), (some (23, true)), 0, true, .faddr 1 (T 2)⟩,
     ⟨(some 25), (some (23, true)), 0, true, .load none (T 24)⟩,
     ⟨(some 26), (some (23, true)), 0, true, .bin .eql (T 25) (C (.int .i64 0))⟩,
     D 27 (.pick (T 23) (T 26) (C (.bool false))),
     D 20 (.mv (T 27))])
   (.cond (T 20)
    (.seq (.region [
      D 28 (.load (some 2) (T 4)),
      E (.store 2 (T 4) (T 28)),
      D 5 (.mv (C (.bool false))),
      D 6 (.mv (C (.int .i64 51)))])
    .ret)
    (.seq (.region [
      D 30 (.mv (T 7)),
      D 31 (.bin .gtr (T 30) (C (.int .i64 2147483647))),
      D 32 (.mv (T 31)),
      ⟨(some 33), (some (32, false)), 0, true, .faddr 1 (T 2)⟩,
      ⟨(some 34), (some (32, false)), 0, true, .load none (T 33)⟩,
      ⟨(some 35), (some (32, false)), 0, true, .bin .eql (T 34) (C (.int .i64 4))⟩,
      ⟨(some 36), (some (32, false)), 0, true, .mv (T 35)⟩,
      ⟨(some 37), (some (36, true)), 0, true, .mv (T 1)⟩,
      ⟨(some 38), (some (36, true)), 0, true, .bin .geq (T 37) (C (.int .u8 128))⟩,
      ⟨(some 39), (some (32, false)), 0, true, .pick (T 36) (T 38) (C (.bool false))⟩,
      D 40 (.pick (T 32) (C (.bool true)) (T 39)),
      D 29 (.mv (T 40))])
    (.cond (T 29)
     (.seq (.region [
       D 41 (.load (some 2) (T 4)),
       E (.store 2 (T 4) (T 41)),
       D 5 (.mv (C (.bool false))),
       D 6 (.mv (C (.int .i64 52)))])
     .ret)
     .skip)))))))
  (.seq (.region [
    D 42 (.mv (T 7)),
    D 43 (.faddr 1 (T 2)),
    D 44 (.load none (T 43)),
    D 45 (.bin .add (T 44) (C (.int .i64 1))),
    D 46 (.build [(.int .i64 0), (.int .i64 0)] [(0, 1, (T 42)), (1, 1, (T 45))]),
    D 47 (.mv (T 1)),
    D 48 (.bin .lss (T 47) (C (.int .u8 128))),
    E (.store 2 (T 4) (T 46)),
    D 5 (.mv (T 48)),
    D 6 (.mv (C (.int .i64 0)))])
  .ret)))), [.cell 4 (some 2), .tmp 5, .tmp 6]⟩
theorem ac17_ok : compFn Try.prog Try.f17 = some ac17 := by kernel_rfl
/-- winepress/winepressref05.Step -/
def ac18 : AFn := ⟨(.seq (.region [
    D 2 (.box true (T 0)),
    D 4 (.alloc true [(.int .i64 0), (.int .i64 0)]),
    D 5 (.mv (C (.bool false))),
    D 6 (.mv (C (.int .i64 0)))])
  (.seq (.seq (.region [
    D 8 (.load (some 2) (T 2)),
    D 9 (.call 21 [(T 8)]),
    D 10 (.un .not (T 9))])
  (.cond (T 10)
   (.seq (.region [
     D 11 (.build [(.int .i64 0), (.int .i64 0)] []),
     E (.store 2 (T 4) (T 11)),
     D 5 (.mv (C (.bool false))),
     D 6 (.mv (C (.int .i64 2)))])
   .ret)
   .skip))
  (.seq (.seq (.region [
    D 12 (.mv (T 1)),
    D 13 (.bin .eql (T 12) (C (.int .u8 128))),
    D 14 (.mv (T 13)),
    ⟨(some 15), (some (14, true)), 0, true, .faddr 1 (T 2)⟩,
    ⟨(some 16), (some (14, true)), 0, true, .load none (T 15)⟩,
    ⟨(some 17), (some (14, true)), 0, true, .bin .eql (T 16) (C (.int .i64 0))⟩,
    D 18 (.pick (T 14) (T 17) (C (.bool false)))])
  (.cond (T 18)
   (.seq (.region [
     D 19 (.build [(.int .i64 0), (.int .i64 0)] []),
     E (.store 2 (T 4) (T 19)),
     D 5 (.mv (C (.bool false))),
     D 6 (.mv (C (.int .i64 51)))])
   .ret)
   .skip))
  (.seq (.region [
    D 20 (.faddr 0 (T 2)),
    D 21 (.load none (T 20)),
    D 22 (.bin .mul (C (.int .i64 128)) (T 21)),
    D 23 (.mv (T 1)),
    D 24 (.bin .rem (T 23) (C (.int .u8 128))),
    D 25 (.conv .i64 (T 24)),
    D 26 (.bin .add (T 22) (T 25)),
    D 7 (.mv (T 26))])
  (.seq (.seq (.region [
    D 27 (.mv (T 7)),
    D 28 (.bin .gtr (T 27) (C (.int .i64 2147483647))),
    D 29 (.mv (T 28)),
    ⟨(some 30), (some (29, false)), 0, true, .faddr 1 (T 2)⟩,
    ⟨(some 31), (some (29, false)), 0, true, .load none (T 30)⟩,
    ⟨(some 32), (some (29, false)), 0, true, .bin .eql (T 31) (C (.int .i64 4))⟩,
    ⟨(some 33), (some (29, false)), 0, true, .mv (T 32)⟩,
    ⟨(some 34), (some (33, true)), 0, true, .mv (T 1)⟩,
    ⟨(some 35), (some (33, true)), 0, true, .bin .geq (T 34) (C (.int .u8 128))⟩,
    ⟨(some 36), (some (29, false)), 0, true, .pick (T 33) (T 35) (C (.bool false))⟩,
    D 37 (.pick (T 29) (C (.bool true)) (T 36))])
  (.cond (T 37)
   (.seq (.region [
     D 38 (.build [(.int .i64 0), (.int .i64 0)] []),
     E (.store 2 (T 4) (T 38)),
     D 5 (.mv (C (.bool false))),
     D 6 (.mv (C (.int .i64 52)))])
   .ret)
   .skip))
  (.seq (.region [
    D 39 (.mv (T 7)),
    D 40 (.faddr 1 (T 2)),
    D 41 (.load none (T 40)),
    D 42 (.bin .add (T 41) (C (.int .i64 1))),
    D 43 (.build [(.int .i64 0), (.int .i64 0)] [(0, 1, (T 39)), (1, 1, (T 42))]),
    D 44 (.mv (T 1)),
    D 45 (.bin .lss (T 44) (C (.int .u8 128))),
    E (.store 2 (T 4) (T 43)),
    D 5 (.mv (T 45)),
    D 6 (.mv (C (.int .i64 0)))])
  .ret)))))), [.cell 4 (some 2), .tmp 5, .tmp 6]⟩
theorem ac18_ok : compFn Try.prog Try.f18 = some ac18 := by kernel_rfl
/-- winepress/varint.Size -/
def ac19 : AFn := ⟨(.seq (.region [
    D 2 (.mv (C (.int .i64 0)))])
  (.seq (.region [
    D 6 (.mv (T 0)),
    D 7 (.call 13 [(T 6)]),
    D 5 (.mv (T 7)),
    D 8 (.ext (T 5) 0),
    D 9 (.ext (T 5) 1),
    D 3 (.mv (T 8)),
    D 4 (.mv (T 9))])
  (.seq (.region [
    D 10 (.mv (T 3)),
    D 11 (.len (T 10)),
    D 2 (.mv (T 11))])
  .ret))), [.tmp 2]⟩
theorem ac19_ok : compFn Try.prog Try.f19 = some ac19 := by kernel_rfl
/-- winepress/varint.Valid -/
def ac20 : AFn := ⟨(.seq (.region [
    D 1 (.box true (T 0)),
    D 2 (.mv (C (.bool false)))])
  (.seq (.seq (.region [
    D 3 (.faddr 1 (T 1)),
    D 4 (.load none (T 3)),
    D 5 (.bin .lss (T 4) (C (.int .i64 1))),
    D 6 (.mv (T 5)),
    ⟨(some 7), (some (6, false)), 0, true, .faddr 1 (T 1)⟩,
    ⟨(some 8), (some (6, false)), 0, true, .load none (T 7)⟩,
    ⟨(some 9), (some (6, false)), 0, true, .bin .gtr (T 8) (C (.int .i64 4))⟩,
    D 10 (.pick (T 6) (C (.bool true)) (T 9))])
  (.cond (T 10)
   (.seq (.region [
     D 11 (.load (some 2) (T 1)),
     D 12 (.build [(.int .i64 0), (.int .i64 0)] []),
     D 13 (.eqs false (.agg [.nu, .nu]) (T 11) (T 12)),
     D 2 (.mv (T 13))])
   .ret)
   .skip))
  (.seq (.drawn [
    ⟨(some 14), none, 0, false, .faddr 0 (T 1)⟩,
    ⟨(some 15), none, 1, false, .load none (T 14)⟩,
    ⟨(some 16), none, 0, false, .faddr 1 (T 1)⟩,
    ⟨(some 17), none, 4, false, .load none (T 16)⟩,
    ⟨(some 18), none, 12, false, .bin .sub (T 17) (C (.int .i64 1))⟩,
    ⟨(some 19), none, 28, false, .bin .mul (C (.int .i64 7)) (T 18)⟩,
    ⟨(some 20), none, 60, false, .bin .shl (C (.int .i64 1)) (T 19)⟩,
    ⟨(some 21), none, 127, false, .bin .geq (T 15) (T 20)⟩,
    ⟨(some 22), none, 255, false, .mv (T 21)⟩,
    ⟨(some 23), (some (22, true)), 511, false, .faddr 0 (T 1)⟩,
    ⟨(some 24), (some (22, true)), 1023, false, .load none (T 23)⟩,
    ⟨(some 25), (some (22, true)), 511, false, .faddr 1 (T 1)⟩,
    ⟨(some 26), (some (22, true)), 2559, false, .load none (T 25)⟩,
    ⟨(some 27), (some (22, true)), 6655, false, .bin .mul (C (.int .i64 7)) (T 26)⟩,
    ⟨(some 28), (some (22, true)), 14847, false, .bin .shl (C (.int .i64 1)) (T 27)⟩,
    ⟨(some 29), (some (22, true)), 32767, false, .bin .lss (T 24) (T 28)⟩,
    ⟨(some 30), none, 65535, false, .pick (T 22) (T 29) (C (.bool false))⟩,
    ⟨(some 2), none, 131071, false, .mv (T 30)⟩])
  .ret))), [.tmp 2]⟩
theorem ac20_ok : compFn Try.prog Try.f20 = some ac20 := by kernel_rfl
/-- winepress/winepressref05.Valid -/
def ac21 : AFn := ⟨(.seq (.region [
    D 1 (.box true (T 0)),
    D 2 (.mv (C (.bool false)))])
  (.seq (.seq (.region [
    D 3 (.faddr 1 (T 1)),
    D 4 (.load none (T 3)),
    D 5 (.bin .eql (T 4) (C (.int .i64 0)))])
  (.cond (T 5)
   (.seq (.region [
     D 6 (.faddr 0 (T 1)),
     D 7 (.load none (T 6)),
     D 8 (.bin .eql (T 7) (C (.int .i64 0))),
     D 2 (.mv (T 8))])
   .ret)
   .skip))
  (.seq (.drawn [
    ⟨(some 9), none, 0, false, .faddr 1 (T 1)⟩,
    ⟨(some 10), none, 1, true, .load none (T 9)⟩,
    ⟨(some 11), none, 3, false, .bin .geq (T 10) (C (.int .i64 1))⟩,
    ⟨(some 12), none, 7, false, .mv (T 11)⟩,
    ⟨(some 13), (some (12, true)), 15, false, .faddr 1 (T 1)⟩,
    ⟨(some 14), (some (12, true)), 31, true, .load none (T 13)⟩,
    ⟨(some 15), (some (12, true)), 63, false, .bin .leq (T 14) (C (.int .i64 4))⟩,
    ⟨(some 16), none, 127, false, .pick (T 12) (T 15) (C (.bool false))⟩,
    ⟨(some 17), none, 255, false, .mv (T 16)⟩,
    ⟨(some 18), (some (17, true)), 511, false, .faddr 0 (T 1)⟩,
    ⟨(some 19), (some (17, true)), 1023, false, .load none (T 18)⟩,
    ⟨(some 20), (some (17, true)), 511, false, .faddr 1 (T 1)⟩,
    ⟨(some 21), (some (17, true)), 2559, false, .load none (T 20)⟩,
    ⟨(some 22), (some (17, true)), 6655, false, .bin .sub (T 21) (C (.int .i64 1))⟩,
    ⟨(some 23), (some (17, true)), 14847, false, .call 39 [(T 22)]⟩,
    ⟨(some 24), (some (17, true)), 32767, false, .bin .geq (T 19) (T 23)⟩,
    ⟨(some 25), none, 65535, false, .pick (T 17) (T 24) (C (.bool false))⟩,
    ⟨(some 26), none, 131071, false, .mv (T 25)⟩,
    ⟨(some 27), (some (26, true)), 262143, false, .faddr 0 (T 1)⟩,
    ⟨(some 28), (some (26, true)), 524287, false, .load none (T 27)⟩,
    ⟨(some 29), (some (26, true)), 262143, false, .faddr 1 (T 1)⟩,
    ⟨(some 30), (some (26, true)), 1310719, false, .load none (T 29)⟩,
    ⟨(some 31), (some (26, true)), 3407871, false, .call 39 [(T 30)]⟩,
    ⟨(some 32), (some (26, true)), 8388607, false, .bin .lss (T 28) (T 31)⟩,
    ⟨(some 33), none, 16777215, false, .pick (T 26) (T 32) (C (.bool false))⟩,
    ⟨(some 2), none, 33554431, false, .mv (T 33)⟩])
  .ret))), [.tmp 2]⟩
theorem ac21_ok : compFn Try.prog Try.f21 = some ac21 := by kernel_rfl
/-- a loop of slices.Reverse[[]byte,byte]; it keeps [2, 3, 0] -/
def lb37_0 : ACode := (.seq (.seq (.region [
     D 7 (.mv (T 2)),
     D 8 (.mv (T 3)),
     D 9 (.bin .lss (T 7) (T 8))])
   (.cond (T 9)
    .skip
    (.exit 0)))
   (.seq (.block 1 (.drawn [
     ⟨(some 14), none, 0, false, .mv (T 0)⟩,
     ⟨(some 15), none, 0, false, .mv (T 2)⟩,
     ⟨(some 16), none, 0, false, .mv (T 0)⟩,
     ⟨(some 17), none, 0, false, .mv (T 3)⟩,
     ⟨(some 18), none, 0, false, .mv (T 0)⟩,
     ⟨(some 19), none, 0, false, .mv (T 3)⟩,
     ⟨(some 20), none, 48, false, .iaddr 1 (T 18) (T 19)⟩,
     ⟨(some 21), none, 112, false, .load none (T 20)⟩,
     ⟨(some 22), none, 0, false, .mv (T 0)⟩,
     ⟨(some 23), none, 0, false, .mv (T 2)⟩,
     ⟨(some 24), none, 768, false, .iaddr 1 (T 22) (T 23)⟩,
     ⟨(some 25), none, 1792, false, .load none (T 24)⟩,
     ⟨(some 26), none, 4083, false, .iaddr 1 (T 14) (T 15)⟩,
     ⟨none, none, 8179, true, .store 1 (T 26) (T 21)⟩,
     ⟨(some 27), none, 16383, false, .iaddr 1 (T 16) (T 17)⟩,
     ⟨none, none, 32767, true, .store 1 (T 27) (T 25)⟩]))
   (.region [
     D 10 (.mv (T 2)),
     D 11 (.bin .add (T 10) (C (.int .i64 1))),
     D 12 (.mv (T 3)),
     D 13 (.bin .sub (T 12) (C (.int .i64 1))),
     D 2 (.mv (T 11)),
     D 3 (.mv (T 13))])))
/-- slices.Reverse[[]byte,byte] -/
def ac37 : AFn := ⟨(.seq (.region [
    D 4 (.mv (T 0)),
    D 5 (.len (T 4)),
    D 6 (.bin .sub (T 5) (C (.int .i64 1))),
    D 2 (.mv (C (.int .i64 0))),
    D 3 (.mv (T 6))])
  (.block 0 (.loop [2, 3, 0] lb37_0))), []⟩
theorem ac37_ok : compFn Try.prog Try.f37 = some ac37 := by kernel_rfl
/-- bytes.Clone -/
def ac38 : AFn := ⟨(.seq (.region [
    D 2 (.mv (C (.slice none 0 0)))])
  (.seq (.seq (.region [
    D 3 (.mv (T 0)),
    D 4 (.eqs false .slice (T 3) (C (.slice none 0 0)))])
  (.cond (T 4)
   (.seq (.region [
     D 2 (.mv (C (.slice none 0 0)))])
   .ret)
   .skip))
  (.seq (.region [
    D 5 (.bslice true 1 0 [] []),
    D 6 (.mv (T 0)),
    D 7 (.append true 1 (T 5) (T 6)),
    D 2 (.mv (T 7))])
  .ret))), [.tmp 2]⟩
theorem ac38_ok : compFn Try.prog Try.f38 = some ac38 := by kernel_rfl
/-- a loop of winepress/winepressref05.power; it keeps [3, 4, 0] -/
def lb39_0 : ACode := (.seq (.seq (.region [
     D 5 (.mv (T 4)),
     D 6 (.mv (T 0)),
     D 7 (.bin .lss (T 5) (T 6))])
   (.cond (T 7)
    .skip
    (.exit 0)))
   (.seq (.block 1 (.region [
     D 10 (.mv (T 3)),
     D 11 (.bin .mul (T 10) (C (.int .i64 128))),
     D 3 (.mv (T 11))]))
   (.region [
     D 8 (.mv (T 4)),
     D 9 (.bin .add (T 8) (C (.int .i64 1))),
     D 4 (.mv (T 9))])))
/-- winepress/winepressref05.power -/
def ac39 : AFn := ⟨(.seq (.region [
    D 2 (.mv (C (.int .i64 0)))])
  (.seq (.region [
    D 3 (.mv (C (.int .i64 1)))])
  (.seq (.seq (.region [
    D 4 (.mv (C (.int .i64 0)))])
  (.block 0 (.loop [3, 4, 0] lb39_0)))
  (.seq (.region [
    D 12 (.mv (T 3)),
    D 2 (.mv (T 12))])
  .ret)))), [.tmp 2]⟩
theorem ac39_ok : compFn Try.prog Try.f39 = some ac39 := by kernel_rfl
def env0 : Env := [(3, ac3), (4, ac4), (5, ac5), (6, ac6), (7, ac7), (12, ac12), (13, ac13), (14, ac14), (15, ac15), (16, ac16), (17, ac17), (18, ac18), (19, ac19), (20, ac20), (21, ac21), (37, ac37), (38, ac38), (39, ac39)]
theorem env0_ok : EnvOk Try.prog env0 :=
  EnvOk.cons Try.func3 ac3_ok (of_decide_eq_true (by kernel_rfl)) <|
  EnvOk.cons Try.func4 ac4_ok (of_decide_eq_true (by kernel_rfl)) <|
  EnvOk.cons Try.func5 ac5_ok (of_decide_eq_true (by kernel_rfl)) <|
  EnvOk.cons Try.func6 ac6_ok (of_decide_eq_true (by kernel_rfl)) <|
  EnvOk.cons Try.func7 ac7_ok (of_decide_eq_true (by kernel_rfl)) <|
  EnvOk.cons Try.func12 ac12_ok (of_decide_eq_true (by kernel_rfl)) <|
  EnvOk.cons Try.func13 ac13_ok (of_decide_eq_true (by kernel_rfl)) <|
  EnvOk.cons Try.func14 ac14_ok (of_decide_eq_true (by kernel_rfl)) <|
  EnvOk.cons Try.func15 ac15_ok (of_decide_eq_true (by kernel_rfl)) <|
  EnvOk.cons Try.func16 ac16_ok (of_decide_eq_true (by kernel_rfl)) <|
  EnvOk.cons Try.func17 ac17_ok (of_decide_eq_true (by kernel_rfl)) <|
  EnvOk.cons Try.func18 ac18_ok (of_decide_eq_true (by kernel_rfl)) <|
  EnvOk.cons Try.func19 ac19_ok (of_decide_eq_true (by kernel_rfl)) <|
  EnvOk.cons Try.func20 ac20_ok (of_decide_eq_true (by kernel_rfl)) <|
  EnvOk.cons Try.func21 ac21_ok (of_decide_eq_true (by kernel_rfl)) <|
  EnvOk.cons Try.func37 ac37_ok (of_decide_eq_true (by kernel_rfl)) <|
  EnvOk.cons Try.func38 ac38_ok (of_decide_eq_true (by kernel_rfl)) <|
  EnvOk.cons Try.func39 ac39_ok (of_decide_eq_true (by kernel_rfl)) <|
  EnvOk.nil
theorem mixed : Try.prog.follows .mixedOrders = true := by kernel_rfl
theorem wakes12 : isTrue (run env0 2000 (.func 12) [] ⟨[], 0, [], []⟩) = true := by kernel_rfl
def env : Env := (12, constFn (.bool true)) :: env0
theorem env_or : EnvOr Try.prog env :=
  EnvOr.cons Try.func12 (of_decide_eq_true (by kernel_rfl)) (by kernel_rfl) (constTrue_ok env0_ok mixed wakes12) <|
  EnvOr.of env0_ok
theorem fn3 : env.fn 3 = some ac3 := rfl
theorem fn4 : env.fn 4 = some ac4 := rfl
theorem fn5 : env.fn 5 = some ac5 := rfl
theorem fn6 : env.fn 6 = some ac6 := rfl
theorem fn7 : env.fn 7 = some ac7 := rfl
theorem fn12 : env.fn 12 = some (constFn (.bool true)) := rfl
theorem fn13 : env.fn 13 = some ac13 := rfl
theorem fn14 : env.fn 14 = some ac14 := rfl
theorem fn15 : env.fn 15 = some ac15 := rfl
theorem fn16 : env.fn 16 = some ac16 := rfl
theorem fn17 : env.fn 17 = some ac17 := rfl
theorem fn18 : env.fn 18 = some ac18 := rfl
theorem fn19 : env.fn 19 = some ac19 := rfl
theorem fn20 : env.fn 20 = some ac20 := rfl
theorem fn21 : env.fn 21 = some ac21 := rfl
theorem fn37 : env.fn 37 = some ac37 := rfl
theorem fn38 : env.fn 38 = some ac38 := rfl
theorem fn39 : env.fn 39 = some ac39 := rfl
end VarEnv
end Go.Proofs.Ytceecoagooalpaa
