/-
 THE TRANSLATED FUNCTIONS, printed by a program, and that they are the program's functions. Conditions: none.
-/
import Derived.Test.YtlphmnhkkhcjfaaProg
import Derived.Test.YtlphmnhkkhcjfaaAOr
import Derived.KernelRfl
namespace Go.Proofs.Ytlphmnhkkhcjfaa
namespace ArEnv
open Go AM
abbrev T (n : Nat) : Operand := .tmp n
abbrev C (v : Value) : Operand := .const v
abbrev D (d : Nat) (o : AOp) : AOper := ⟨some d, none, 0, true, o⟩
abbrev E (o : AOp) : AOper := ⟨none, none, 0, true, o⟩
/-- a loop of winepress/winepresslaw10.LengthTableBack; it keeps [15, 7, 3, 16] -/
def lb3_0 : ACode := (.seq (.seq (.region [
 D 93 (.mv (T 16)),
 D 94 (.mv (T 7)),
 D 95 (.len (T 94)),
 D 96 (.bin .lss (T 93) (T 95))])
 (.cond (T 96)
 .skip
 (.exit 0)))
 (.seq (.block 1 (.seq (.drawn [
 ⟨(some 100), none, 0, false, .load (some 262) (T 15)⟩,
 ⟨(some 101), none, 0, false, .mv (T 7)⟩,
 ⟨(some 102), none, 0, false, .mv (T 16)⟩,
 ⟨(some 103), none, 6, false, .iaddr 1 (T 101) (T 102)⟩,
 ⟨(some 104), none, 14, false, .load none (T 103)⟩,
 ⟨(some 105), none, 31, true, .call 14 [(T 100), (T 104)]⟩,
 ⟨(some 99), none, 63, false, .mv (T 105)⟩,
 ⟨(some 106), none, 127, false, .ext (T 99) 0⟩,
 ⟨(some 107), none, 127, false, .ext (T 99) 1⟩,
 ⟨(some 108), none, 127, false, .ext (T 99) 2⟩,
 ⟨(some 17), none, 0, false, .alloc true (List.replicate 258 (.int .u8 0) ++ [(.int .i64 0), (.int .i64 0), (.int .i64 0), (.int .i64 0)])⟩,
 ⟨none, none, 1279, true, .store 262 (T 17) (T 106)⟩,
 ⟨(some 18), none, 3583, false, .mv (T 107)⟩,
 ⟨(some 19), none, 8191, false, .mv (T 108)⟩])
 (.seq (.seq (.region [
 D 109 (.mv (T 19)),
 D 110 (.bin .neq (T 109) (C (.int .i64 0))),
 D 111 (.mv (T 110)),
 ⟨(some 112), (some (111, false)), 0, true, .mv (T 18)⟩,
 ⟨(some 113), (some (111, false)), 0, true, .mv (T 16)⟩,
 ⟨(some 114), (some (111, false)), 0, true, .mv (T 7)⟩,
 ⟨(some 115), (some (111, false)), 0, true, .len (T 114)⟩,
 ⟨(some 116), (some (111, false)), 0, true, .bin .sub (T 115) (C (.int .i64 1))⟩,
 ⟨(some 117), (some (111, false)), 0, true, .bin .eql (T 113) (T 116)⟩,
 ⟨(some 118), (some (111, false)), 0, true, .eqs true .bool (T 112) (T 117)⟩,
 D 119 (.pick (T 111) (C (.bool true)) (T 118))])
 (.cond (T 119)
 (.seq (.region [
 D 6 (.mv (C (.bool false)))])
 .ret)
 .skip))
 (.region [
 D 120 (.load (some 262) (T 17)),
 E (.store 262 (T 15) (T 120))]))))
 (.region [
 D 97 (.mv (T 16)),
 D 98 (.bin .add (T 97) (C (.int .i64 1))),
 D 16 (.mv (T 98))])))
/-- winepress/winepresslaw10.LengthTableBack -/
def ac3 : AFn := ⟨(.seq (.region [
 D 3 (.box true (T 0)),
 D 6 (.mv (C (.bool false)))])
 (.seq (.seq (.region [
 D 20 (.mv (T 1)),
 D 21 (.len (T 20)),
 D 22 (.bin .gtr (T 21) (C (.int .i64 60)))])
 (.cond (T 22)
 (.seq (.region [
 D 23 (.call 10 []),
 D 6 (.mv (T 23))])
 .ret)
 .skip))
 (.seq (.region [
 D 25 (.load (some 258) (T 3)),
 D 26 (.call 11 [(T 25)]),
 D 24 (.mv (T 26)),
 D 27 (.ext (T 24) 0),
 D 28 (.ext (T 24) 1),
 D 7 (.mv (T 27)),
 D 8 (.mv (T 28))])
 (.seq (.seq (.region [
 D 29 (.mv (T 8)),
 D 30 (.bin .neq (T 29) (C (.int .i64 0)))])
 (.cond (T 30)
 (.seq (.region [
 D 31 (.mv (T 8)),
 D 32 (.bin .eql (T 31) (C (.int .i64 2))),
 D 33 (.mv (T 32)),
 ⟨(some 34), (some (33, true)), 0, true, .mv (T 7)⟩,
 ⟨(some 35), (some (33, true)), 0, true, .len (T 34)⟩,
 ⟨(some 36), (some (33, true)), 0, true, .bin .eql (T 35) (C (.int .i64 0))⟩,
 D 37 (.pick (T 33) (T 36) (C (.bool false))),
 D 38 (.mv (T 37)),
 ⟨(some 39), (some (38, true)), 0, true, .load (some 258) (T 3)⟩,
 ⟨(some 40), (some (38, true)), 0, true, .call 12 [(T 39)]⟩,
 ⟨(some 41), (some (38, true)), 0, true, .un .not (T 40)⟩,
 D 42 (.pick (T 38) (T 41) (C (.bool false))),
 D 43 (.mv (T 42)),
 ⟨(some 44), (some (43, true)), 0, true, .call 10 []⟩,
 D 45 (.pick (T 43) (T 44) (C (.bool false))),
 D 6 (.mv (T 45))])
 .ret)
 .skip))
 (.seq (.region [
 D 47 (.bslice true 1 0 [] []),
 D 48 (.mv (T 7)),
 D 49 (.append true 1 (T 47) (T 48)),
 D 50 (.mv (T 1)),
 D 51 (.append true 1 (T 49) (T 50)),
 D 52 (.call 13 [(T 51)]),
 D 46 (.mv (T 52)),
 D 53 (.ext (T 46) 0),
 D 54 (.ext (T 46) 1),
 D 55 (.ext (T 46) 2),
 D 9 (.alloc true (List.replicate 258 (.int .u8 0))),
 E (.store 258 (T 9) (T 53)),
 D 10 (.mv (T 54)),
 D 11 (.mv (T 55))])
 (.seq (.seq (.region [
 D 56 (.mv (T 11)),
 D 57 (.bin .neq (T 56) (C (.int .i64 0))),
 D 58 (.mv (T 57)),
 ⟨(some 59), (some (58, false)), 0, true, .load (some 258) (T 9)⟩,
 ⟨(some 60), (some (58, false)), 0, true, .load (some 258) (T 3)⟩,
 ⟨(some 61), (some (58, false)), 0, true, .eqs true (.agg (List.replicate 258 .nu)) (T 59) (T 60)⟩,
 D 62 (.pick (T 58) (C (.bool true)) (T 61)),
 D 63 (.mv (T 62)),
 ⟨(some 64), (some (63, false)), 0, true, .mv (T 10)⟩,
 ⟨(some 65), (some (63, false)), 0, true, .mv (T 7)⟩,
 ⟨(some 66), (some (63, false)), 0, true, .len (T 65)⟩,
 ⟨(some 67), (some (63, false)), 0, true, .bin .neq (T 64) (T 66)⟩,
 D 68 (.pick (T 63) (C (.bool true)) (T 67)),
 D 69 (.mv (T 68)),
 ⟨(some 70), (some (69, false)), 0, true, .mv (T 10)⟩,
 ⟨(some 71), (some (69, false)), 0, true, .bin .lss (T 70) (C (.int .i64 262))⟩,
 D 72 (.pick (T 69) (C (.bool true)) (T 71)),
 D 73 (.mv (T 72)),
 ⟨(some 74), (some (73, false)), 0, true, .mv (T 10)⟩,
 ⟨(some 75), (some (73, false)), 0, true, .bin .gtr (T 74) (C (.int .i64 8002))⟩,
 D 76 (.pick (T 73) (C (.bool true)) (T 75))])
 (.cond (T 76)
 (.seq (.region [
 D 6 (.mv (C (.bool false)))])
 .ret)
 .skip))
 (.seq (.region [
 D 77 (.mv (T 2)),
 D 78 (.mm true [(T 77), (C (.int .i64 0))]),
 D 79 (.mv (T 7)),
 D 80 (.len (T 79)),
 D 81 (.bin .sub (T 80) (C (.int .i64 1))),
 D 82 (.mm false [(T 78), (T 81)]),
 D 2 (.mv (T 82))])
 (.seq (.region [
 D 84 (.mv (T 7)),
 D 85 (.mv (T 2)),
 D 86 (.slice 1 (T 84) none (some (T 85)) none),
 D 87 (.call 13 [(T 86)]),
 D 83 (.mv (T 87)),
 D 88 (.ext (T 83) 0),
 D 89 (.ext (T 83) 1),
 D 90 (.ext (T 83) 2),
 D 12 (.alloc true (List.replicate 258 (.int .u8 0))),
 E (.store 258 (T 12) (T 88)),
 D 13 (.mv (T 89)),
 D 14 (.mv (T 90))])
 (.seq (.seq (.region [
 D 91 (.mv (T 14)),
 D 92 (.bin .neq (T 91) (C (.int .i64 50)))])
 (.cond (T 92)
 (.seq (.region [
 D 6 (.mv (C (.bool false)))])
 .ret)
 .skip))
 (.seq (.region [
 D 15 (.alloc true (List.replicate 258 (.int .u8 0) ++ [(.int .i64 0), (.int .i64 0), (.int .i64 0), (.int .i64 0)]))])
 (.seq (.seq (.region [
 D 16 (.mv (C (.int .i64 0)))])
 (.block 0 (.loop [15, 7, 3, 16] lb3_0)))
 (.seq (.region [
 D 121 (.faddr 0 (T 15)),
 D 122 (.load (some 258) (T 121)),
 D 123 (.load (some 258) (T 3)),
 D 124 (.eqs false (.agg (List.replicate 258 .nu)) (T 122) (T 123)),
 D 125 (.mv (T 124)),
 ⟨(some 126), (some (125, true)), 0, true, .load (some 262) (T 15)⟩,
 ⟨(some 127), (some (125, true)), 0, true, .call 15 [(T 126)]⟩,
 D 128 (.pick (T 125) (T 127) (C (.bool false))),
 D 129 (.mv (T 128)),
 ⟨(some 130), (some (129, true)), 0, true, .call 10 []⟩,
 D 131 (.pick (T 129) (T 130) (C (.bool false))),
 D 6 (.mv (T 131))])
 .ret)))))))))))), [.tmp 6]⟩
theorem ac3_ok : compFn Try.prog Try.f3 = some ac3 := by kernel_rfl
/-- a loop of winepress/winepresslaw10.LengthTableAny; it keeps [7, 6, 0, 5, 3, 4] -/
def lb4_0 : ACode := (.seq (.seq (.region [
 D 23 (.mv (T 7)),
 D 24 (.mv (T 0)),
 D 25 (.len (T 24)),
 D 26 (.bin .lss (T 23) (T 25)),
 D 27 (.mv (T 26)),
 ⟨(some 28), (some (27, true)), 0, true, .mv (T 7)⟩,
 ⟨(some 29), (some (27, true)), 0, true, .bin .lss (T 28) (C (.int .i64 600))⟩,
 D 30 (.pick (T 27) (T 29) (C (.bool false)))])
 (.cond (T 30)
 .skip
 (.exit 0)))
 (.seq (.block 1 (.seq (.drawn [
 ⟨(some 34), none, 0, false, .load (some 262) (T 6)⟩,
 ⟨(some 35), none, 0, false, .mv (T 0)⟩,
 ⟨(some 36), none, 0, false, .mv (T 7)⟩,
 ⟨(some 37), none, 6, false, .iaddr 1 (T 35) (T 36)⟩,
 ⟨(some 38), none, 14, false, .load none (T 37)⟩,
 ⟨(some 39), none, 31, true, .call 14 [(T 34), (T 38)]⟩,
 ⟨(some 33), none, 63, false, .mv (T 39)⟩,
 ⟨(some 40), none, 127, false, .ext (T 33) 0⟩,
 ⟨(some 41), none, 127, false, .ext (T 33) 1⟩,
 ⟨(some 42), none, 127, false, .ext (T 33) 2⟩,
 ⟨(some 8), none, 0, false, .alloc true (List.replicate 258 (.int .u8 0) ++ [(.int .i64 0), (.int .i64 0), (.int .i64 0), (.int .i64 0)])⟩,
 ⟨none, none, 1279, true, .store 262 (T 8) (T 40)⟩,
 ⟨(some 9), none, 3583, false, .mv (T 41)⟩,
 ⟨(some 10), none, 8191, false, .mv (T 42)⟩])
 (.seq (.seq (.region [
 D 43 (.mv (T 10)),
 D 44 (.bin .neq (T 43) (C (.int .i64 0)))])
 (.cond (T 44)
 (.seq (.region [
 D 45 (.mv (T 10)),
 D 46 (.mv (T 5)),
 D 47 (.bin .eql (T 45) (T 46)),
 D 48 (.mv (T 47)),
 ⟨(some 49), (some (48, true)), 0, true, .load (some 258) (T 3)⟩,
 ⟨(some 50), (some (48, true)), 0, true, .build (List.replicate 258 (.int .u8 0)) []⟩,
 ⟨(some 51), (some (48, true)), 0, true, .eqs false (.agg (List.replicate 258 .nu)) (T 49) (T 50)⟩,
 D 52 (.pick (T 48) (T 51) (C (.bool false))),
 D 53 (.mv (T 52)),
 ⟨(some 54), (some (53, true)), 0, true, .mv (T 4)⟩,
 ⟨(some 55), (some (53, true)), 0, true, .bin .eql (T 54) (C (.int .i64 0))⟩,
 D 56 (.pick (T 53) (T 55) (C (.bool false))),
 D 57 (.mv (T 56)),
 ⟨(some 58), (some (57, true)), 0, true, .call 10 []⟩,
 D 59 (.pick (T 57) (T 58) (C (.bool false))),
 D 2 (.mv (T 59))])
 .ret)
 .skip))
 (.seq (.seq (.region [
 D 60 (.mv (T 9))])
 (.cond (T 60)
 (.seq (.region [
 D 61 (.mv (T 5)),
 D 62 (.bin .eql (T 61) (C (.int .i64 0))),
 D 63 (.mv (T 62)),
 ⟨(some 64), (some (63, true)), 0, true, .mv (T 4)⟩,
 ⟨(some 65), (some (63, true)), 0, true, .mv (T 7)⟩,
 ⟨(some 66), (some (63, true)), 0, true, .bin .add (T 65) (C (.int .i64 1))⟩,
 ⟨(some 67), (some (63, true)), 0, true, .bin .eql (T 64) (T 66)⟩,
 D 68 (.pick (T 63) (T 67) (C (.bool false))),
 D 69 (.mv (T 68)),
 ⟨(some 70), (some (69, true)), 0, true, .load (some 258) (T 3)⟩,
 ⟨(some 71), (some (69, true)), 0, true, .faddr 0 (T 8)⟩,
 ⟨(some 72), (some (69, true)), 0, true, .load (some 258) (T 71)⟩,
 ⟨(some 73), (some (69, true)), 0, true, .eqs false (.agg (List.replicate 258 .nu)) (T 70) (T 72)⟩,
 D 74 (.pick (T 69) (T 73) (C (.bool false))),
 D 75 (.mv (T 74)),
 ⟨(some 76), (some (75, true)), 0, true, .call 10 []⟩,
 D 77 (.pick (T 75) (T 76) (C (.bool false))),
 D 2 (.mv (T 77))])
 .ret)
 .skip))
 (.seq (.seq (.region [
 D 78 (.load (some 262) (T 8)),
 D 79 (.call 15 [(T 78)]),
 D 80 (.un .not (T 79))])
 (.cond (T 80)
 (.seq (.region [
 D 2 (.mv (C (.bool false)))])
 .ret)
 .skip))
 (.region [
 D 81 (.load (some 262) (T 8)),
 E (.store 262 (T 6) (T 81))]))))))
 (.region [
 D 31 (.mv (T 7)),
 D 32 (.bin .add (T 31) (C (.int .i64 1))),
 D 7 (.mv (T 32))])))
/-- winepress/winepresslaw10.LengthTableAny -/
def ac4 : AFn := ⟨(.seq (.region [
 D 2 (.mv (C (.bool false)))])
 (.seq (.seq (.region [
 D 13 (.mv (T 0)),
 D 14 (.len (T 13)),
 D 15 (.bin .gtr (T 14) (C (.int .i64 9000)))])
 (.cond (T 15)
 (.seq (.region [
 D 16 (.call 10 []),
 D 2 (.mv (T 16))])
 .ret)
 .skip))
 (.seq (.region [
 D 18 (.mv (T 0)),
 D 19 (.call 13 [(T 18)]),
 D 17 (.mv (T 19)),
 D 20 (.ext (T 17) 0),
 D 21 (.ext (T 17) 1),
 D 22 (.ext (T 17) 2),
 D 3 (.alloc true (List.replicate 258 (.int .u8 0))),
 E (.store 258 (T 3) (T 20)),
 D 4 (.mv (T 21)),
 D 5 (.mv (T 22))])
 (.seq (.region [
 D 6 (.alloc true (List.replicate 258 (.int .u8 0) ++ [(.int .i64 0), (.int .i64 0), (.int .i64 0), (.int .i64 0)]))])
 (.seq (.seq (.region [
 D 7 (.mv (C (.int .i64 0)))])
 (.block 0 (.loop [7, 6, 0, 5, 3, 4] lb4_0)))
 (.seq (.seq (.region [
 D 82 (.mv (T 5)),
 D 83 (.bin .eql (T 82) (C (.int .i64 0)))])
 (.cond (T 83)
 (.seq (.region [
 D 85 (.load (some 258) (T 3)),
 D 86 (.call 11 [(T 85)]),
 D 84 (.mv (T 86)),
 D 87 (.ext (T 84) 0),
 D 88 (.ext (T 84) 1),
 D 11 (.mv (T 87)),
 D 12 (.mv (T 88))])
 (.seq (.region [
 D 89 (.mv (T 12)),
 D 90 (.bin .eql (T 89) (C (.int .i64 0))),
 D 91 (.mv (T 90)),
 ⟨(some 92), (some (91, true)), 0, true, .mv (T 11)⟩,
 ⟨(some 93), (some (91, true)), 0, true, .len (T 92)⟩,
 ⟨(some 94), (some (91, true)), 0, true, .mv (T 4)⟩,
 ⟨(some 95), (some (91, true)), 0, true, .bin .leq (T 93) (T 94)⟩,
 D 96 (.pick (T 91) (T 95) (C (.bool false))),
 D 97 (.mv (T 96)),
 ⟨(some 98), (some (97, true)), 0, true, .mv (T 4)⟩,
 ⟨(some 99), (some (97, true)), 0, true, .bin .leq (T 98) (C (.int .i64 8002))⟩,
 D 100 (.pick (T 97) (T 99) (C (.bool false))),
 D 101 (.mv (T 100)),
 ⟨(some 102), (some (101, true)), 0, true, .load (some 258) (T 3)⟩,
 ⟨(some 103), (some (101, true)), 0, true, .call 12 [(T 102)]⟩,
 D 104 (.pick (T 101) (T 103) (C (.bool false))),
 D 105 (.mv (T 104)),
 ⟨(some 106), (some (105, true)), 0, true, .call 10 []⟩,
 D 107 (.pick (T 105) (T 106) (C (.bool false))),
 D 2 (.mv (T 107))])
 .ret))
 .skip))
 (.seq (.region [
 D 108 (.mv (T 0)),
 D 109 (.len (T 108)),
 D 110 (.bin .gtr (T 109) (C (.int .i64 600))),
 D 111 (.mv (T 110)),
 ⟨(some 112), (some (111, false)), 0, true, .mv (T 5)⟩,
 ⟨(some 113), (some (111, false)), 0, true, .bin .eql (T 112) (C (.int .i64 50))⟩,
 D 114 (.pick (T 111) (C (.bool true)) (T 113)),
 D 115 (.mv (T 114)),
 ⟨(some 116), (some (115, true)), 0, true, .call 10 []⟩,
 D 117 (.pick (T 115) (T 116) (C (.bool false))),
 D 2 (.mv (T 117))])
 .ret))))))), [.tmp 2]⟩
theorem ac4_ok : compFn Try.prog Try.f4 = some ac4 := by kernel_rfl
/-- a loop of winepress/winepresslaw10.LengthTableWays; it keeps [7, 10, 1, 9, 8] -/
def lb5_0 : ACode := (.seq (.seq (.region [
 D 53 (.mv (T 10)),
 D 54 (.mv (T 1)),
 D 55 (.mv (T 9)),
 D 56 (.mm false [(T 54), (T 55)]),
 D 57 (.bin .lss (T 53) (T 56))])
 (.cond (T 57)
 .skip
 (.exit 0)))
 (.seq (.block 1 (.region [
 D 60 (.mv (T 7)),
 D 61 (.mv (T 8)),
 D 62 (.bslice true 1 2 [(.int .i64 0), (.int .i64 0)] [(0, 1, (C (.int .i64 1))), (1, 1, (T 61))]),
 D 63 (.append true 1 (T 60) (T 62)),
 D 7 (.mv (T 63))]))
 (.region [
 D 58 (.mv (T 10)),
 D 59 (.bin .add (T 58) (C (.int .i64 1))),
 D 10 (.mv (T 59))])))
/-- winepress/winepresslaw10.LengthTableWays -/
def ac5 : AFn := ⟨(.seq (.region [
 D 6 (.mv (C (.bool false)))])
 (.seq (.seq (.region [
 D 23 (.mv (T 0)),
 D 24 (.bin .lss (T 23) (C (.int .i64 0))),
 D 25 (.mv (T 24)),
 ⟨(some 26), (some (25, false)), 0, true, .mv (T 0)⟩,
 ⟨(some 27), (some (25, false)), 0, true, .bin .gtr (T 26) (C (.int .i64 15))⟩,
 D 28 (.pick (T 25) (C (.bool true)) (T 27)),
 D 29 (.mv (T 28)),
 ⟨(some 30), (some (29, false)), 0, true, .mv (T 1)⟩,
 ⟨(some 31), (some (29, false)), 0, true, .bin .lss (T 30) (C (.int .i64 1))⟩,
 D 32 (.pick (T 29) (C (.bool true)) (T 31)),
 D 33 (.mv (T 32)),
 ⟨(some 34), (some (33, false)), 0, true, .mv (T 1)⟩,
 ⟨(some 35), (some (33, false)), 0, true, .bin .gtr (T 34) (C (.int .i64 20))⟩,
 D 36 (.pick (T 33) (C (.bool true)) (T 35))])
 (.cond (T 36)
 (.seq (.region [
 D 37 (.call 10 []),
 D 6 (.mv (T 37))])
 .ret)
 .skip))
 (.seq (.region [
 D 38 (.mv (T 0)),
 D 39 (.bin .shr (T 38) (C (.int .u64 3))),
 D 40 (.mv (T 0)),
 D 41 (.bin .shr (T 40) (C (.int .u64 2))),
 D 42 (.bin .and (T 41) (C (.int .i64 1))),
 D 43 (.mv (T 0)),
 D 44 (.bin .shr (T 43) (C (.int .u64 1))),
 D 45 (.bin .and (T 44) (C (.int .i64 1))),
 D 46 (.mv (T 0)),
 D 47 (.bin .and (T 46) (C (.int .i64 1))),
 D 48 (.bslice true 1 4 [(.int .i64 0), (.int .i64 0), (.int .i64 0), (.int .i64 0)] [(0, 1, (T 39)), (1, 1, (T 42)), (2, 1, (T 45)), (3, 1, (T 47))]),
 D 7 (.mv (T 48))])
 (.seq (.region [
 D 49 (.mv (T 0)),
 D 50 (.bin .sub (C (.int .i64 15)) (T 49)),
 D 8 (.mv (C (.int .i64 0))),
 D 9 (.mv (T 50))])
 (.seq (.seq (.region [
 D 51 (.mv (T 2))])
 (.cond (T 51)
 (.region [
 D 52 (.mv (T 0)),
 D 8 (.mv (C (.int .i64 1))),
 D 9 (.mv (T 52))])
 .skip))
 (.seq (.seq (.region [
 D 10 (.mv (C (.int .i64 0)))])
 (.block 0 (.loop [7, 10, 1, 9, 8] lb5_0)))
 (.seq (.region [
 D 65 (.mv (T 7)),
 D 66 (.call 13 [(T 65)]),
 D 64 (.mv (T 66)),
 D 67 (.ext (T 64) 0),
 D 68 (.ext (T 64) 1),
 D 69 (.ext (T 64) 2),
 D 11 (.alloc true (List.replicate 258 (.int .u8 0))),
 E (.store 258 (T 11) (T 67)),
 D 12 (.mv (T 68)),
 D 13 (.mv (T 69))])
 (.seq (.seq (.region [
 D 70 (.mv (T 13)),
 D 71 (.bin .neq (T 70) (C (.int .i64 50)))])
 (.cond (T 71)
 (.seq (.region [
 D 6 (.mv (C (.bool false)))])
 .ret)
 .skip))
 (.seq (.seq (.region [
 D 72 (.mv (T 1)),
 D 73 (.mv (T 9)),
 D 74 (.bin .gtr (T 72) (T 73))])
 (.cond (T 74)
 (.seq (.region [
 D 76 (.mv (T 7)),
 D 77 (.mv (T 8)),
 D 78 (.bslice true 1 2 [(.int .i64 0), (.int .i64 0)] [(0, 1, (C (.int .i64 1))), (1, 1, (T 77))]),
 D 79 (.append true 1 (T 76) (T 78)),
 D 80 (.call 13 [(T 79)]),
 D 75 (.mv (T 80)),
 D 81 (.ext (T 75) 0),
 D 82 (.ext (T 75) 1),
 D 83 (.ext (T 75) 2),
 D 14 (.alloc true (List.replicate 258 (.int .u8 0))),
 E (.store 258 (T 14) (T 81)),
 D 15 (.mv (T 82)),
 D 16 (.mv (T 83))])
 (.seq (.region [
 D 84 (.mv (T 16)),
 D 85 (.bin .eql (T 84) (C (.int .i64 100))),
 D 86 (.mv (T 85)),
 ⟨(some 87), (some (86, true)), 0, true, .call 10 []⟩,
 D 88 (.pick (T 86) (T 87) (C (.bool false))),
 D 6 (.mv (T 88))])
 .ret))
 .skip))
 (.seq (.region [
 D 90 (.bslice true 1 0 [] []),
 D 91 (.mv (T 7)),
 D 92 (.append true 1 (T 90) (T 91)),
 D 93 (.mv (T 8)),
 D 94 (.bin .sub (C (.int .i64 1)) (T 93)),
 D 95 (.bslice true 1 2 [(.int .i64 0), (.int .i64 0)] [(0, 1, (C (.int .i64 1))), (1, 1, (T 94))]),
 D 96 (.append true 1 (T 92) (T 95)),
 D 97 (.call 13 [(T 96)]),
 D 89 (.mv (T 97)),
 D 98 (.ext (T 89) 0),
 D 99 (.ext (T 89) 1),
 D 100 (.ext (T 89) 2),
 D 17 (.alloc true (List.replicate 258 (.int .u8 0))),
 E (.store 258 (T 17) (T 98)),
 D 18 (.mv (T 99)),
 D 19 (.mv (T 100))])
 (.seq (.region [
 D 102 (.bslice true 1 0 [] []),
 D 103 (.mv (T 7)),
 D 104 (.append true 1 (T 102) (T 103)),
 D 105 (.bslice true 1 1 [(.int .i64 0)] [(0, 1, (C (.int .i64 1)))]),
 D 106 (.append true 1 (T 104) (T 105)),
 D 107 (.call 13 [(T 106)]),
 D 101 (.mv (T 107)),
 D 108 (.ext (T 101) 0),
 D 109 (.ext (T 101) 1),
 D 110 (.ext (T 101) 2),
 D 20 (.alloc true (List.replicate 258 (.int .u8 0))),
 E (.store 258 (T 20) (T 108)),
 D 21 (.mv (T 109)),
 D 22 (.mv (T 110))])
 (.seq (.region [
 D 111 (.mv (T 19)),
 D 112 (.bin .eql (T 111) (C (.int .i64 100))),
 D 113 (.mv (T 112)),
 ⟨(some 114), (some (113, true)), 0, true, .mv (T 22)⟩,
 ⟨(some 115), (some (113, true)), 0, true, .bin .eql (T 114) (C (.int .i64 50))⟩,
 D 116 (.pick (T 113) (T 115) (C (.bool false))),
 D 117 (.mv (T 116)),
 ⟨(some 118), (some (117, true)), 0, true, .call 10 []⟩,
 D 119 (.pick (T 117) (T 118) (C (.bool false))),
 D 6 (.mv (T 119))])
 .ret)))))))))))), [.tmp 6]⟩
theorem ac5_ok : compFn Try.prog Try.f5 = some ac5 := by kernel_rfl
/-- winepress/winepresslaw10.LengthTableMatches -/
def ac6 : AFn := ⟨(.seq (.region [
 D 4 (.box true (T 0)),
 D 6 (.box true (T 2)),
 D 8 (.mv (C (.bool false)))])
 (.seq (.seq (.region [
 D 27 (.mv (T 3)),
 D 28 (.len (T 27)),
 D 29 (.bin .gtr (T 28) (C (.int .i64 9000)))])
 (.cond (T 29)
 (.seq (.region [
 D 30 (.call 10 []),
 D 8 (.mv (T 30))])
 .ret)
 .skip))
 (.seq (.region [
 D 32 (.load (some 262) (T 4)),
 D 33 (.mv (T 1)),
 D 34 (.call 14 [(T 32), (T 33)]),
 D 31 (.mv (T 34)),
 D 35 (.ext (T 31) 0),
 D 36 (.ext (T 31) 1),
 D 37 (.ext (T 31) 2),
 D 9 (.alloc true (List.replicate 258 (.int .u8 0) ++ [(.int .i64 0), (.int .i64 0), (.int .i64 0), (.int .i64 0)])),
 E (.store 262 (T 9) (T 35)),
 D 10 (.mv (T 36)),
 D 11 (.mv (T 37))])
 (.seq (.region [
 D 39 (.load (some 262) (T 4)),
 D 40 (.mv (T 1)),
 D 41 (.call 16 [(T 39), (T 40)]),
 D 38 (.mv (T 41)),
 D 42 (.ext (T 38) 0),
 D 43 (.ext (T 38) 1),
 D 44 (.ext (T 38) 2),
 D 12 (.alloc true (List.replicate 258 (.int .u8 0) ++ [(.int .i64 0), (.int .i64 0), (.int .i64 0), (.int .i64 0)])),
 E (.store 262 (T 12) (T 42)),
 D 13 (.mv (T 43)),
 D 14 (.mv (T 44))])
 (.seq (.region [
 D 46 (.load (some 258) (T 6)),
 D 47 (.call 11 [(T 46)]),
 D 45 (.mv (T 47)),
 D 48 (.ext (T 45) 0),
 D 49 (.ext (T 45) 1),
 D 15 (.mv (T 48)),
 D 16 (.mv (T 49))])
 (.seq (.region [
 D 51 (.load (some 258) (T 6)),
 D 52 (.call 17 [(T 51)]),
 D 50 (.mv (T 52)),
 D 53 (.ext (T 50) 0),
 D 54 (.ext (T 50) 1),
 D 17 (.mv (T 53)),
 D 18 (.mv (T 54))])
 (.seq (.seq (.drawn [
 ⟨(some 55), none, 0, false, .load (some 262) (T 9)⟩,
 ⟨(some 56), none, 0, false, .load (some 262) (T 12)⟩,
 ⟨(some 57), none, 3, false, .eqs true (.agg (List.replicate 262 .nu)) (T 55) (T 56)⟩,
 ⟨(some 58), none, 7, false, .mv (T 57)⟩,
 ⟨(some 59), (some (58, false)), 15, false, .mv (T 10)⟩,
 ⟨(some 60), (some (58, false)), 15, false, .mv (T 13)⟩,
 ⟨(some 61), (some (58, false)), 63, false, .eqs true .bool (T 59) (T 60)⟩,
 ⟨(some 62), none, 127, false, .pick (T 58) (C (.bool true)) (T 61)⟩,
 ⟨(some 63), none, 255, false, .mv (T 62)⟩,
 ⟨(some 64), (some (63, false)), 511, false, .mv (T 11)⟩,
 ⟨(some 65), (some (63, false)), 511, false, .mv (T 14)⟩,
 ⟨(some 66), (some (63, false)), 2047, false, .bin .neq (T 64) (T 65)⟩,
 ⟨(some 67), none, 4095, false, .pick (T 63) (C (.bool true)) (T 66)⟩,
 ⟨(some 68), none, 8191, false, .mv (T 67)⟩,
 ⟨(some 69), (some (68, false)), 16383, false, .mv (T 15)⟩,
 ⟨(some 70), (some (68, false)), 16383, false, .mv (T 17)⟩,
 ⟨(some 71), (some (68, false)), 65535, true, .call 18 [(T 69), (T 70)]⟩,
 ⟨(some 72), (some (68, false)), 131071, false, .un .not (T 71)⟩,
 ⟨(some 73), none, 262143, false, .pick (T 68) (C (.bool true)) (T 72)⟩,
 ⟨(some 74), none, 524287, false, .mv (T 73)⟩,
 ⟨(some 75), (some (74, false)), 1048575, false, .mv (T 16)⟩,
 ⟨(some 76), (some (74, false)), 1048575, false, .mv (T 18)⟩,
 ⟨(some 77), (some (74, false)), 4194303, false, .bin .neq (T 75) (T 76)⟩,
 ⟨(some 78), none, 8388607, false, .pick (T 74) (C (.bool true)) (T 77)⟩,
 ⟨(some 79), none, 16777215, false, .mv (T 78)⟩,
 ⟨(some 80), (some (79, false)), 33554431, false, .load (some 262) (T 4)⟩,
 ⟨(some 81), (some (79, false)), 67108863, false, .call 15 [(T 80)]⟩,
 ⟨(some 82), (some (79, false)), 33554431, false, .load (some 262) (T 4)⟩,
 ⟨(some 83), (some (79, false)), 268435455, true, .call 19 [(T 82)]⟩,
 ⟨(some 84), (some (79, false)), 536870911, false, .eqs true .bool (T 81) (T 83)⟩,
 ⟨(some 85), none, 1073741823, false, .pick (T 79) (C (.bool true)) (T 84)⟩])
 (.cond (T 85)
 (.seq (.region [
 D 8 (.mv (C (.bool false)))])
 .ret)
 .skip))
 (.seq (.region [
 D 86 (.call 20 []),
 D 19 (.mv (T 86))])
 (.seq (.region [
 D 87 (.mv (T 19)),
 D 88 (.load (some 258) (T 6)),
 D 89 (.call 21 [(T 87), (T 88)]),
 D 20 (.mv (T 89))])
 (.seq (.region [
 D 91 (.mv (T 3)),
 D 92 (.call 13 [(T 91)]),
 D 90 (.mv (T 92)),
 D 93 (.ext (T 90) 0),
 D 94 (.ext (T 90) 1),
 D 95 (.ext (T 90) 2),
 D 21 (.alloc true (List.replicate 258 (.int .u8 0))),
 E (.store 258 (T 21) (T 93)),
 D 22 (.mv (T 94)),
 D 23 (.mv (T 95))])
 (.seq (.region [
 D 97 (.mv (T 3)),
 D 98 (.call 22 [(T 97)]),
 D 96 (.mv (T 98)),
 D 99 (.ext (T 96) 0),
 D 100 (.ext (T 96) 1),
 D 101 (.ext (T 96) 2),
 D 24 (.alloc true (List.replicate 258 (.int .u8 0))),
 E (.store 258 (T 24) (T 99)),
 D 25 (.mv (T 100)),
 D 26 (.mv (T 101))])
 (.seq (.drawn [
 ⟨(some 102), none, 0, false, .mv (T 20)⟩,
 ⟨(some 103), none, 0, false, .mv (T 18)⟩,
 ⟨(some 104), none, 3, false, .bin .eql (T 102) (T 103)⟩,
 ⟨(some 105), none, 7, false, .mv (T 104)⟩,
 ⟨(some 106), (some (105, true)), 15, false, .mv (T 19)⟩,
 ⟨(some 107), (some (105, true)), 31, true, .call 23 [(T 106)]⟩,
 ⟨(some 108), (some (105, true)), 15, false, .mv (T 17)⟩,
 ⟨(some 109), (some (105, true)), 79, false, .len (T 108)⟩,
 ⟨(some 110), (some (105, true)), 255, false, .bin .eql (T 107) (T 109)⟩,
 ⟨(some 111), none, 511, false, .pick (T 105) (T 110) (C (.bool false))⟩,
 ⟨(some 112), none, 1023, false, .mv (T 111)⟩,
 ⟨(some 113), (some (112, true)), 2047, false, .mv (T 19)⟩,
 ⟨(some 114), (some (112, true)), 4095, true, .call 24 [(T 113)]⟩,
 ⟨(some 115), (some (112, true)), 8191, false, .bstr (T 114)⟩,
 ⟨(some 116), (some (112, true)), 2047, false, .mv (T 17)⟩,
 ⟨(some 117), (some (112, true)), 24575, false, .call 25 [(T 116)]⟩,
 ⟨(some 118), (some (112, true)), 57343, false, .bstr (T 117)⟩,
 ⟨(some 119), (some (112, true)), 131071, false, .bin .eql (T 115) (T 118)⟩,
 ⟨(some 120), none, 262143, false, .pick (T 112) (T 119) (C (.bool false))⟩,
 ⟨(some 121), none, 524287, false, .mv (T 120)⟩,
 ⟨(some 122), (some (121, true)), 1048575, false, .load (some 258) (T 21)⟩,
 ⟨(some 123), (some (121, true)), 1048575, false, .load (some 258) (T 24)⟩,
 ⟨(some 124), (some (121, true)), 4194303, false, .eqs false (.agg (List.replicate 258 .nu)) (T 122) (T 123)⟩,
 ⟨(some 125), none, 8388607, false, .pick (T 121) (T 124) (C (.bool false))⟩,
 ⟨(some 126), none, 16777215, false, .mv (T 125)⟩,
 ⟨(some 127), (some (126, true)), 33554431, false, .mv (T 22)⟩,
 ⟨(some 128), (some (126, true)), 33554431, false, .mv (T 25)⟩,
 ⟨(some 129), (some (126, true)), 134217727, false, .bin .eql (T 127) (T 128)⟩,
 ⟨(some 130), none, 268435455, false, .pick (T 126) (T 129) (C (.bool false))⟩,
 ⟨(some 131), none, 536870911, false, .mv (T 130)⟩,
 ⟨(some 132), (some (131, true)), 1073741823, false, .mv (T 23)⟩,
 ⟨(some 133), (some (131, true)), 1073741823, false, .mv (T 26)⟩,
 ⟨(some 134), (some (131, true)), 4294967295, false, .bin .eql (T 132) (T 133)⟩,
 ⟨(some 135), none, 8589934591, false, .pick (T 131) (T 134) (C (.bool false))⟩,
 ⟨(some 136), none, 17179869183, false, .mv (T 135)⟩,
 ⟨(some 137), (some (136, true)), 34359738367, true, .call 10 []⟩,
 ⟨(some 138), none, 68719476735, false, .pick (T 136) (T 137) (C (.bool false))⟩,
 ⟨(some 8), none, 137438953471, false, .mv (T 138)⟩])
 .ret)))))))))))), [.tmp 8]⟩
theorem ac6_ok : compFn Try.prog Try.f6 = some ac6 := by kernel_rfl
/-- winepress/winepresslaw10.wakes -/
def ac10 : AFn := ⟨(.seq (.region [
 D 0 (.mv (C (.bool false)))])
 (.seq (.region [
 D 26 (.call 46 []),
 D 27 (.call 11 [(T 26)]),
 D 25 (.mv (T 27)),
 D 28 (.ext (T 25) 0),
 D 29 (.ext (T 25) 1),
 D 1 (.mv (T 28)),
 D 2 (.mv (T 29))])
 (.seq (.region [
 D 31 (.build (List.replicate 258 (.int .u8 0)) []),
 D 32 (.call 11 [(T 31)]),
 D 30 (.mv (T 32)),
 D 33 (.ext (T 30) 0),
 D 34 (.ext (T 30) 1),
 D 3 (.mv (T 33)),
 D 4 (.mv (T 34))])
 (.seq (.region [
 D 36 (.bslice true 1 0 [] []),
 D 37 (.mv (T 1)),
 D 38 (.append true 1 (T 36) (T 37)),
 D 39 (.bslice true 1 2 [(.int .i64 0), (.int .i64 0)] [(0, 1, (C (.int .i64 1))), (1, 1, (C (.int .i64 1)))]),
 D 40 (.append true 1 (T 38) (T 39)),
 D 41 (.call 13 [(T 40)]),
 D 35 (.mv (T 41)),
 D 42 (.ext (T 35) 0),
 D 43 (.ext (T 35) 1),
 D 44 (.ext (T 35) 2),
 D 5 (.alloc true (List.replicate 258 (.int .u8 0))),
 E (.store 258 (T 5) (T 42)),
 D 6 (.mv (T 43)),
 D 7 (.mv (T 44))])
 (.seq (.region [
 D 46 (.bslice true 1 8 (List.replicate 8 (.int .i64 0)) [(0, 1, (C (.int .i64 0))), (1, 1, (C (.int .i64 0))), (2, 1, (C (.int .i64 0))), (3, 1, (C (.int .i64 0))), (4, 1, (C (.int .i64 1))), (5, 1, (C (.int .i64 0))), (6, 1, (C (.int .i64 1))), (7, 1, (C (.int .i64 1)))]),
 D 47 (.call 13 [(T 46)]),
 D 45 (.mv (T 47)),
 D 48 (.ext (T 45) 0),
 D 49 (.ext (T 45) 1),
 D 50 (.ext (T 45) 2),
 D 8 (.alloc true (List.replicate 258 (.int .u8 0))),
 E (.store 258 (T 8) (T 48)),
 D 9 (.mv (T 49)),
 D 10 (.mv (T 50))])
 (.seq (.region [
 D 52 (.bslice true 1 3 [(.int .i64 0), (.int .i64 0), (.int .i64 0)] [(0, 1, (C (.int .i64 0))), (1, 1, (C (.int .i64 0))), (2, 1, (C (.int .i64 0)))]),
 D 53 (.call 13 [(T 52)]),
 D 51 (.mv (T 53)),
 D 54 (.ext (T 51) 0),
 D 55 (.ext (T 51) 1),
 D 56 (.ext (T 51) 2),
 D 11 (.alloc true (List.replicate 258 (.int .u8 0))),
 E (.store 258 (T 11) (T 54)),
 D 12 (.mv (T 55)),
 D 13 (.mv (T 56))])
 (.seq (.region [
 D 58 (.bslice true 1 2 [(.int .i64 0), (.int .i64 0)] [(0, 1, (C (.int .i64 0))), (1, 1, (C (.int .i64 2)))]),
 D 59 (.call 13 [(T 58)]),
 D 57 (.mv (T 59)),
 D 60 (.ext (T 57) 0),
 D 61 (.ext (T 57) 1),
 D 62 (.ext (T 57) 2),
 D 14 (.alloc true (List.replicate 258 (.int .u8 0))),
 E (.store 258 (T 14) (T 60)),
 D 15 (.mv (T 61)),
 D 16 (.mv (T 62))])
 (.seq (.region [
 D 63 (.call 20 []),
 D 17 (.mv (T 63))])
 (.seq (.region [
 D 64 (.mv (T 17)),
 D 65 (.call 46 []),
 D 66 (.call 21 [(T 64), (T 65)]),
 D 18 (.mv (T 66))])
 (.seq (.region [
 D 68 (.build (List.replicate 258 (.int .u8 0) ++ [(.int .i64 0), (.int .i64 0), (.int .i64 0), (.int .i64 0)]) []),
 D 69 (.call 14 [(T 68), (C (.int .i64 1))]),
 D 67 (.mv (T 69)),
 D 70 (.ext (T 67) 0),
 D 71 (.ext (T 67) 1),
 D 72 (.ext (T 67) 2),
 D 19 (.alloc true (List.replicate 258 (.int .u8 0) ++ [(.int .i64 0), (.int .i64 0), (.int .i64 0), (.int .i64 0)])),
 E (.store 262 (T 19) (T 70)),
 D 20 (.mv (T 71)),
 D 21 (.mv (T 72))])
 (.seq (.region [
 D 74 (.build (List.replicate 258 (.int .u8 0) ++ [(.int .i64 0), (.int .i64 0), (.int .i64 0), (.int .i64 0)]) [(259, 1, (C (.int .i64 9)))]),
 D 75 (.call 14 [(T 74), (C (.int .i64 1))]),
 D 73 (.mv (T 75)),
 D 76 (.ext (T 73) 0),
 D 77 (.ext (T 73) 1),
 D 78 (.ext (T 73) 2),
 D 22 (.alloc true (List.replicate 258 (.int .u8 0) ++ [(.int .i64 0), (.int .i64 0), (.int .i64 0), (.int .i64 0)])),
 E (.store 262 (T 22) (T 76)),
 D 23 (.mv (T 77)),
 D 24 (.mv (T 78))])
 (.seq (.seq (.region [
 D 79 (.mv (T 2)),
 D 80 (.bin .neq (T 79) (C (.int .i64 0))),
 D 81 (.mv (T 80)),
 ⟨(some 82), (some (81, false)), 0, true, .mv (T 1)⟩,
 ⟨(some 83), (some (81, false)), 0, true, .len (T 82)⟩,
 ⟨(some 84), (some (81, false)), 0, true, .bin .neq (T 83) (C (.int .i64 272))⟩,
 D 85 (.pick (T 81) (C (.bool true)) (T 84))])
 (.cond (T 85)
 (.seq (.region [
 D 0 (.mv (C (.bool false)))])
 .ret)
 .skip))
 (.seq (.drawn [
 ⟨(some 86), none, 0, false, .mv (T 1)⟩,
 ⟨(some 87), none, 1, false, .slice 1 (T 86) none (some (C (.int .i64 13))) none⟩,
 ⟨(some 88), none, 0, false, .bslice true 1 13 (List.replicate 13 (.int .i64 0)) [(0, 1, (C (.int .i64 0))), (1, 1, (C (.int .i64 0))), (2, 1, (C (.int .i64 0))), (3, 1, (C (.int .i64 1))), (4, 1, (C (.int .i64 0))), (5, 1, (C (.int .i64 1))), (6, 1, (C (.int .i64 0))), (7, 1, (C (.int .i64 0))), (8, 1, (C (.int .i64 1))), (9, 1, (C (.int .i64 1))), (10, 1, (C (.int .i64 1))), (11, 1, (C (.int .i64 1))), (12, 1, (C (.int .i64 0)))]⟩,
 ⟨(some 89), none, 7, true, .call 18 [(T 87), (T 88)]⟩,
 ⟨(some 90), none, 15, false, .mv (T 89)⟩,
 ⟨(some 91), (some (90, true)), 31, false, .mv (T 1)⟩,
 ⟨(some 92), (some (90, true)), 63, false, .slice 1 (T 91) (some (C (.int .i64 267))) none none⟩,
 ⟨(some 93), (some (90, true)), 31, false, .bslice true 1 5 (List.replicate 5 (.int .i64 0)) [(0, 1, (C (.int .i64 1))), (1, 1, (C (.int .i64 0))), (2, 1, (C (.int .i64 1))), (3, 1, (C (.int .i64 0))), (4, 1, (C (.int .i64 0)))]⟩,
 ⟨(some 94), (some (90, true)), 255, true, .call 18 [(T 92), (T 93)]⟩,
 ⟨(some 95), none, 511, false, .pick (T 90) (T 94) (C (.bool false))⟩,
 ⟨(some 96), none, 1023, false, .mv (T 95)⟩,
 ⟨(some 97), (some (96, true)), 2047, false, .mv (T 4)⟩,
 ⟨(some 98), (some (96, true)), 4095, false, .bin .eql (T 97) (C (.int .i64 2))⟩,
 ⟨(some 99), none, 8191, false, .pick (T 96) (T 98) (C (.bool false))⟩,
 ⟨(some 100), none, 16383, false, .mv (T 99)⟩,
 ⟨(some 101), (some (100, true)), 32767, false, .load (some 258) (T 5)⟩,
 ⟨(some 102), (some (100, true)), 32767, false, .call 46 []⟩,
 ⟨(some 103), (some (100, true)), 131071, false, .eqs false (.agg (List.replicate 258 .nu)) (T 101) (T 102)⟩,
 ⟨(some 104), none, 262143, false, .pick (T 100) (T 103) (C (.bool false))⟩,
 ⟨(some 105), none, 524287, false, .mv (T 104)⟩,
 ⟨(some 106), (some (105, true)), 1048575, false, .mv (T 6)⟩,
 ⟨(some 107), (some (105, true)), 2097151, false, .bin .eql (T 106) (C (.int .i64 272))⟩,
 ⟨(some 108), none, 4194303, false, .pick (T 105) (T 107) (C (.bool false))⟩,
 ⟨(some 109), none, 8388607, false, .mv (T 108)⟩,
 ⟨(some 110), (some (109, true)), 16777215, false, .mv (T 7)⟩,
 ⟨(some 111), (some (109, true)), 33554431, false, .bin .eql (T 110) (C (.int .i64 0))⟩,
 ⟨(some 112), none, 67108863, false, .pick (T 109) (T 111) (C (.bool false))⟩,
 ⟨(some 113), none, 134217727, false, .mv (T 112)⟩,
 ⟨(some 114), (some (113, true)), 268435455, false, .mv (T 10)⟩,
 ⟨(some 115), (some (113, true)), 536870911, false, .bin .eql (T 114) (C (.int .i64 100))⟩,
 ⟨(some 116), none, 1073741823, false, .pick (T 113) (T 115) (C (.bool false))⟩,
 ⟨(some 117), none, 2147483647, false, .mv (T 116)⟩,
 ⟨(some 118), (some (117, true)), 4294967295, false, .mv (T 13)⟩,
 ⟨(some 119), (some (117, true)), 8589934591, false, .bin .eql (T 118) (C (.int .i64 50))⟩,
 ⟨(some 120), none, 17179869183, false, .pick (T 117) (T 119) (C (.bool false))⟩,
 ⟨(some 121), none, 34359738367, false, .mv (T 120)⟩,
 ⟨(some 122), (some (121, true)), 68719476735, false, .mv (T 16)⟩,
 ⟨(some 123), (some (121, true)), 137438953471, false, .bin .eql (T 122) (C (.int .i64 2))⟩,
 ⟨(some 124), none, 274877906943, false, .pick (T 121) (T 123) (C (.bool false))⟩,
 ⟨(some 125), none, 549755813887, false, .mv (T 124)⟩,
 ⟨(some 126), (some (125, true)), 1099511627775, false, .mv (T 18)⟩,
 ⟨(some 127), (some (125, true)), 2199023255551, false, .bin .eql (T 126) (C (.int .i64 0))⟩,
 ⟨(some 128), none, 4398046511103, false, .pick (T 125) (T 127) (C (.bool false))⟩,
 ⟨(some 129), none, 8796093022207, false, .mv (T 128)⟩,
 ⟨(some 130), (some (129, true)), 17592186044415, false, .mv (T 17)⟩,
 ⟨(some 131), (some (129, true)), 35184372088831, true, .call 23 [(T 130)]⟩,
 ⟨(some 132), (some (129, true)), 70368744177663, false, .bin .eql (T 131) (C (.int .i64 272))⟩,
 ⟨(some 133), none, 140737488355327, false, .pick (T 129) (T 132) (C (.bool false))⟩,
 ⟨(some 134), none, 281474976710655, false, .mv (T 133)⟩,
 ⟨(some 135), (some (134, true)), 562949953421311, true, .call 46 []⟩,
 ⟨(some 136), (some (134, true)), 1125899906842623, true, .call 21 [(C (.pointer none)), (T 135)]⟩,
 ⟨(some 137), (some (134, true)), 2251799813685247, false, .bin .eql (T 136) (C (.int .i64 2))⟩,
 ⟨(some 138), none, 4503599627370495, false, .pick (T 134) (T 137) (C (.bool false))⟩,
 ⟨(some 139), none, 9007199254740991, false, .mv (T 138)⟩,
 ⟨(some 140), (some (139, true)), 18014398509481983, false, .mv (T 21)⟩,
 ⟨(some 141), (some (139, true)), 36028797018963967, false, .bin .eql (T 140) (C (.int .i64 0))⟩,
 ⟨(some 142), none, 72057594037927935, false, .pick (T 139) (T 141) (C (.bool false))⟩,
 ⟨(some 143), none, 144115188075855871, false, .mv (T 142)⟩,
 ⟨(some 144), (some (143, true)), 288230376151711743, false, .mv (T 20)⟩,
 ⟨(some 145), (some (143, true)), 576460752303423487, false, .un .not (T 144)⟩,
 ⟨(some 146), none, 1152921504606846975, false, .pick (T 143) (T 145) (C (.bool false))⟩,
 ⟨(some 147), none, 2305843009213693951, false, .mv (T 146)⟩,
 ⟨(some 148), (some (147, true)), 4611686018427387903, true, .load (some 262) (T 19)⟩,
 ⟨(some 149), (some (147, true)), 4611686018427387903, false, .build (List.replicate 258 (.int .u8 0) ++ [(.int .i64 0), (.int .i64 0), (.int .i64 0), (.int .i64 0)]) [(259, 1, (C (.int .i64 1))), (260, 1, (C (.int .i64 1)))]⟩,
 ⟨(some 150), (some (147, true)), 18446744073709551615, false, .eqs false (.agg (List.replicate 262 .nu)) (T 148) (T 149)⟩,
 ⟨(some 151), none, 36893488147419103231, false, .pick (T 147) (T 150) (C (.bool false))⟩,
 ⟨(some 152), none, 73786976294838206463, false, .mv (T 151)⟩,
 ⟨(some 153), (some (152, true)), 147573952589676412927, false, .mv (T 24)⟩,
 ⟨(some 154), (some (152, true)), 295147905179352825855, false, .bin .eql (T 153) (C (.int .i64 2))⟩,
 ⟨(some 155), none, 590295810358705651711, false, .pick (T 152) (T 154) (C (.bool false))⟩,
 ⟨(some 156), none, 1180591620717411303423, false, .mv (T 155)⟩,
 ⟨(some 157), (some (156, true)), 2361183241434822606847, true, .load (some 262) (T 19)⟩,
 ⟨(some 158), (some (156, true)), 4722366482869645213695, true, .call 15 [(T 157)]⟩,
 ⟨(some 159), none, 9444732965739290427391, false, .pick (T 156) (T 158) (C (.bool false))⟩,
 ⟨(some 160), none, 18889465931478580854783, false, .mv (T 159)⟩,
 ⟨(some 161), (some (160, true)), 37778931862957161709567, false, .build (List.replicate 258 (.int .u8 0) ++ [(.int .i64 0), (.int .i64 0), (.int .i64 0), (.int .i64 0)]) [(259, 1, (C (.int .i64 9)))]⟩,
 ⟨(some 162), (some (160, true)), 75557863725914323419135, true, .call 15 [(T 161)]⟩,
 ⟨(some 163), (some (160, true)), 151115727451828646838271, false, .un .not (T 162)⟩,
 ⟨(some 164), none, 302231454903657293676543, false, .pick (T 160) (T 163) (C (.bool false))⟩,
 ⟨(some 0), none, 604462909807314587353087, false, .mv (T 164)⟩])
 .ret))))))))))))), [.tmp 0]⟩
theorem ac10_ok : compFn Try.prog Try.f10 = some ac10 := by kernel_rfl
/-- a loop of winepress/lengthtable.Of; it keeps [4, 2, 0, 1] -/
def lb11_0 : ACode := (.seq (.seq (.region [
 D 8 (.load none (T 2)),
 D 9 (.load none (T 1)),
 D 10 (.bin .neq (T 8) (T 9))])
 (.cond (T 10)
 .skip
 (.exit 0)))
 (.seq (.block 1 (.seq (.region [
 D 16 (.mv (T 0)),
 D 17 (.callv (T 16) [(C (.int .i64 1))]),
 D 18 (.un .not (T 17)),
 D 19 (.mv (T 18)),
 ⟨(some 20), (some (19, false)), 0, true, .mv (T 0)⟩,
 ⟨(some 21), (some (19, false)), 0, true, .mv (T 4)⟩,
 ⟨(some 22), (some (19, false)), 0, true, .callv (T 20) [(T 21)]⟩,
 ⟨(some 23), (some (19, false)), 0, true, .un .not (T 22)⟩,
 D 24 (.pick (T 19) (C (.bool true)) (T 23))])
 (.cond (T 24)
 .ret
 .skip)))
 (.region [
 D 11 (.load none (T 2)),
 D 12 (.mv (T 4)),
 D 13 (.bin .mul (C (.int .i64 2)) (T 12)),
 D 14 (.bin .sub (C (.int .i64 1)) (T 13)),
 D 15 (.bin .add (T 11) (T 14)),
 E (.store 1 (T 2) (T 15))])))
/-- a loop of winepress/lengthtable.Of; it keeps [4, 28, 27, 2] -/
def lb11_1 : ACode := (.seq (.region [
 D 29 (.bin .lss (T 28) (C (.int .i64 258)))])
 (.seq (.cond (T 29)
 .skip
 (.exit 2))
 (.seq (.block 3 (.seq (.region [
 D 30 (.idx 1 258 none (T 27) (T 28)),
 D 7 (.mv (T 30))])
 (.seq (.seq (.region [
 D 31 (.mv (T 4)),
 D 32 (.mv (T 7)),
 D 33 (.conv .i64 (T 32)),
 D 34 (.call 48 [(T 31), (T 33)])])
 (.block 4 (.each (T 34) 76
 (.seq (.region [
 D 4 (.mv (C (.int .i64 0)))])
 (.seq (.seq (.region [
 D 5 (.load none (T 1)),
 D 6 (.load none (T 2)),
 D 7 (.bin .lss (T 5) (T 6))])
 (.cond (T 7)
 (.region [
 D 4 (.mv (C (.int .i64 1)))])
 .skip))
 (.seq (.block 0 (.loop [4, 2, 0, 1] lb11_0))
 (.region [
 D 25 (.mv (T 0)),
 D 26 (.callv (T 25) [(C (.int .i64 0))])]))))
 [35]
 (.region [
 D 8 (.mv (T 35))])
 (.block 5 (.region [
 D 36 (.load none (T 2)),
 D 37 (.mv (T 8)),
 D 38 (.bslice true 1 1 [(.int .i64 0)] [(0, 1, (T 37))]),
 D 39 (.append true 1 (T 36) (T 38)),
 E (.store 1 (T 2) (T 39))])))))
 (.region [
 D 40 (.mv (T 7)),
 D 41 (.conv .i64 (T 40)),
 D 4 (.mv (T 41))]))))
 (.region [
 D 42 (.bin .add (T 28) (C (.int .i64 1))),
 D 28 (.mv (T 42))]))))
/-- a loop of winepress/lengthtable.Of; it keeps [15, 1, 4, 2] -/
def lb11_2 : ACode := (.seq (.region [
 D 16 (.bin .lss (T 15) (C (.int .i64 4)))])
 (.seq (.cond (T 16)
 .skip
 (.exit 0))
 (.seq (.block 1 (.seq (.region [
 D 17 (.mv (T 15)),
 D 5 (.mv (T 17))])
 (.drawn [
 D 18 (.load none (T 2)),
 ⟨(some 19), none, 0, false, .mv (T 4)⟩,
 ⟨(some 20), none, 0, false, .mv (T 5)⟩,
 ⟨(some 21), none, 4, false, .bin .sub (C (.int .i64 3)) (T 20)⟩,
 ⟨(some 22), none, 14, false, .bin .shr (T 19) (T 21)⟩,
 ⟨(some 23), none, 30, false, .bin .and (T 22) (C (.int .i64 1))⟩,
 ⟨(some 24), none, 62, false, .bslice true 1 1 [(.int .i64 0)] [(0, 1, (T 23))]⟩,
 ⟨(some 25), none, 127, true, .append true 1 (T 18) (T 24)⟩,
 ⟨none, none, 255, true, .store 1 (T 2) (T 25)⟩])))
 (.region [
 D 26 (.bin .add (T 15) (C (.int .i64 1))),
 D 15 (.mv (T 26))]))))
/-- winepress/lengthtable.Of -/
def ac11 : AFn := ⟨(.seq (.region [
 D 1 (.box true (T 0)),
 D 2 (.alloc false [(.slice none 0 0)]),
 D 3 (.mv (C (.int .i64 0)))])
 (.seq (.seq (.region [
 D 9 (.load (some 258) (T 1)),
 D 10 (.call 47 [(T 9)]),
 D 11 (.un .not (T 10))])
 (.cond (T 11)
 (.seq (.region [
 E (.store 1 (T 2) (C (.slice none 0 0))),
 D 3 (.mv (C (.int .i64 2)))])
 .ret)
 .skip))
 (.seq (.region [
 D 12 (.iaddra 1 258 (T 1) (C (.int .i64 0))),
 D 13 (.load none (T 12)),
 D 14 (.conv .i64 (T 13)),
 D 4 (.mv (T 14))])
 (.seq (.seq (.region [
 D 15 (.mv (C (.int .i64 0)))])
 (.block 0 (.loop [15, 1, 4, 2] lb11_2)))
 (.seq (.seq (.region [
 D 27 (.load (some 258) (T 1)),
 D 28 (.mv (C (.int .i64 0)))])
 (.block 2 (.loop [4, 28, 27, 2] lb11_1)))
 (.seq (.region [
 D 43 (.load none (T 2)),
 E (.store 1 (T 2) (T 43)),
 D 3 (.mv (C (.int .i64 0)))])
 .ret)))))), [.cell 2 none, .tmp 3]⟩
theorem ac11_ok : compFn Try.prog Try.f11 = some ac11 := by kernel_rfl
/-- winepress/winepressref08.Table -/
def ac12 : AFn := ⟨(.seq (.region [
 D 1 (.box true (T 0)),
 D 2 (.mv (C (.bool false)))])
 (.seq (.region [
 D 3 (.load (some 258) (T 1)),
 D 4 (.call 49 [(T 3)]),
 D 5 (.bin .eql (T 4) (C (.int .i64 32768))),
 D 6 (.mv (T 5)),
 ⟨(some 7), (some (6, true)), 0, true, .iaddra 1 258 (T 1) (C (.int .i64 257))⟩,
 ⟨(some 8), (some (6, true)), 0, true, .load none (T 7)⟩,
 ⟨(some 9), (some (6, true)), 0, true, .bin .neq (T 8) (C (.int .u8 0))⟩,
 D 10 (.pick (T 6) (T 9) (C (.bool false))),
 D 2 (.mv (T 10))])
 .ret)), [.tmp 2]⟩
theorem ac12_ok : compFn Try.prog Try.f12 = some ac12 := by kernel_rfl
/-- a loop of winepress/lengthtable.Read; it keeps [10, 11, 12, 5, 2] -/
def lb13_0 : ACode := (.seq (.region [
 D 13 (.bin .lss (T 12) (T 11))])
 (.seq (.cond (T 13)
 .skip
 (.exit 0))
 (.seq (.block 1 (.seq (.region [
 D 14 (.mv (T 12)),
 D 15 (.iaddr 1 (T 10) (T 12)),
 D 16 (.load none (T 15)),
 D 6 (.mv (T 14)),
 D 7 (.mv (T 16))])
 (.seq (.seq (.region [
 D 17 (.mv (T 7)),
 D 18 (.bin .shr (T 17) (C (.int .u64 1))),
 D 19 (.bin .neq (T 18) (C (.int .i64 0)))])
 (.cond (T 19)
 (.seq (.region [
 D 20 (.load (some 258) (T 2)),
 E (.store 258 (T 2) (T 20)),
 D 3 (.mv (C (.int .i64 0))),
 D 4 (.mv (C (.int .i64 2)))])
 .ret)
 .skip))
 (.seq (.region [
 D 22 (.load (some 262) (T 5)),
 D 23 (.mv (T 7)),
 D 24 (.call 50 [(T 22), (T 23)]),
 D 21 (.mv (T 24)),
 D 25 (.ext (T 21) 0),
 D 26 (.ext (T 21) 1),
 D 8 (.alloc true (List.replicate 258 (.int .u8 0) ++ [(.int .i64 0), (.int .i64 0), (.int .i64 0), (.int .i64 0)])),
 E (.store 262 (T 8) (T 25)),
 D 9 (.mv (T 26))])
 (.seq (.seq (.region [
 D 27 (.mv (T 9)),
 D 28 (.un .not (T 27))])
 (.cond (T 28)
 (.seq (.region [
 D 29 (.load (some 258) (T 2)),
 E (.store 258 (T 2) (T 29)),
 D 3 (.mv (C (.int .i64 0))),
 D 4 (.mv (C (.int .i64 100)))])
 .ret)
 .skip))
 (.seq (.region [
 D 30 (.load (some 262) (T 8)),
 E (.store 262 (T 5) (T 30))])
 (.seq (.region [
 D 31 (.faddr 258 (T 5)),
 D 32 (.load none (T 31)),
 D 33 (.bin .eql (T 32) (C (.int .i64 258)))])
 (.cond (T 33)
 (.seq (.region [
 D 34 (.faddr 0 (T 5)),
 D 35 (.load (some 258) (T 34)),
 D 36 (.mv (T 6)),
 D 37 (.bin .add (T 36) (C (.int .i64 1))),
 E (.store 258 (T 2) (T 35)),
 D 3 (.mv (T 37)),
 D 4 (.mv (C (.int .i64 0)))])
 .ret)
 .skip))))))))
 (.region [
 D 38 (.bin .add (T 12) (C (.int .i64 1))),
 D 12 (.mv (T 38))]))))
/-- winepress/lengthtable.Read -/
def ac13 : AFn := ⟨(.seq (.region [
 D 2 (.alloc true (List.replicate 258 (.int .u8 0))),
 D 3 (.mv (C (.int .i64 0))),
 D 4 (.mv (C (.int .i64 0)))])
 (.seq (.region [
 D 5 (.alloc true (List.replicate 258 (.int .u8 0) ++ [(.int .i64 0), (.int .i64 0), (.int .i64 0), (.int .i64 0)]))])
 (.seq (.seq (.region [
 D 10 (.mv (T 0)),
 D 11 (.len (T 10)),
 D 12 (.mv (C (.int .i64 0)))])
 (.block 0 (.loop [10, 11, 12, 5, 2] lb13_0)))
 (.seq (.region [
 D 39 (.load (some 258) (T 2)),
 E (.store 258 (T 2) (T 39)),
 D 3 (.mv (C (.int .i64 0))),
 D 4 (.mv (C (.int .i64 50)))])
 .ret)))), [.cell 2 (some 258), .tmp 3, .tmp 4]⟩
theorem ac13_ok : compFn Try.prog Try.f13 = some ac13 := by kernel_rfl
/-- winepress/lengthtable.Step -/
def ac14 : AFn := ⟨(.seq (.region [
 D 2 (.box true (T 0)),
 D 4 (.alloc true (List.replicate 258 (.int .u8 0) ++ [(.int .i64 0), (.int .i64 0), (.int .i64 0), (.int .i64 0)])),
 D 5 (.mv (C (.bool false))),
 D 6 (.mv (C (.int .i64 0)))])
 (.seq (.seq (.region [
 D 8 (.load (some 262) (T 2)),
 D 9 (.call 15 [(T 8)]),
 D 10 (.un .not (T 9)),
 D 11 (.mv (T 10)),
 ⟨(some 12), (some (11, false)), 0, true, .faddr 258 (T 2)⟩,
 ⟨(some 13), (some (11, false)), 0, true, .load none (T 12)⟩,
 ⟨(some 14), (some (11, false)), 0, true, .bin .eql (T 13) (C (.int .i64 258))⟩,
 D 15 (.pick (T 11) (C (.bool true)) (T 14)),
 D 16 (.mv (T 15)),
 ⟨(some 17), (some (16, false)), 0, true, .mv (T 1)⟩,
 ⟨(some 18), (some (16, false)), 0, true, .bin .shr (T 17) (C (.int .u64 1))⟩,
 ⟨(some 19), (some (16, false)), 0, true, .bin .neq (T 18) (C (.int .i64 0))⟩,
 D 20 (.pick (T 16) (C (.bool true)) (T 19))])
 (.cond (T 20)
 (.seq (.region [
 D 21 (.load (some 262) (T 4)),
 E (.store 262 (T 4) (T 21)),
 D 5 (.mv (C (.bool false))),
 D 6 (.mv (C (.int .i64 2)))])
 .ret)
 .skip))
 (.seq (.region [
 D 23 (.load (some 262) (T 2)),
 D 24 (.mv (T 1)),
 D 25 (.call 50 [(T 23), (T 24)]),
 D 22 (.mv (T 25)),
 D 26 (.ext (T 22) 0),
 D 27 (.ext (T 22) 1),
 E (.store 262 (T 2) (T 26)),
 D 7 (.mv (T 27))])
 (.seq (.seq (.region [
 D 28 (.mv (T 7)),
 D 29 (.un .not (T 28))])
 (.cond (T 29)
 (.seq (.region [
 D 30 (.load (some 262) (T 4)),
 E (.store 262 (T 4) (T 30)),
 D 5 (.mv (C (.bool false))),
 D 6 (.mv (C (.int .i64 100)))])
 .ret)
 .skip))
 (.seq (.moves [] false [
 ⟨(some 31), none, 0, false, .load (some 262) (T 2)⟩,
 ⟨(some 32), none, 0, false, .faddr 258 (T 2)⟩,
 ⟨(some 33), none, 0, false, .load none (T 32)⟩,
 ⟨(some 34), none, 0, false, .bin .eql (T 33) (C (.int .i64 258))⟩,
 ⟨none, none, 0, false, .store 262 (T 4) (T 31)⟩,
 ⟨(some 5), none, 0, false, .mv (T 34)⟩,
 ⟨(some 6), none, 0, false, .mv (C (.int .i64 0))⟩])
 .ret))))), [.cell 4 (some 262), .tmp 5, .tmp 6]⟩
theorem ac14_ok : compFn Try.prog Try.f14 = some ac14 := by kernel_rfl
/-- winepress/lengthtable.Valid -/
def ac15 : AFn := ⟨(.seq (.region [
 D 1 (.box true (T 0)),
 D 2 (.mv (C (.bool false)))])
 (.seq (.seq (.region [
 D 3 (.load (some 262) (T 1)),
 D 4 (.call 51 [(T 3)])])
 (.cond (T 4)
 (.seq (.region [
 D 2 (.mv (C (.bool true)))])
 .ret)
 .skip))
 (.seq (.seq (.region [
 D 5 (.faddr 259 (T 1)),
 D 6 (.load none (T 5)),
 D 7 (.call 52 [(T 6), (C (.int .i64 4)), (C (.int .i64 5))]),
 D 8 (.un .not (T 7)),
 D 9 (.mv (T 8)),
 ⟨(some 10), (some (9, false)), 0, true, .faddr 258 (T 1)⟩,
 ⟨(some 11), (some (9, false)), 0, true, .load none (T 10)⟩,
 ⟨(some 12), (some (9, false)), 0, true, .call 52 [(T 11), (C (.int .i64 0)), (C (.int .i64 258))]⟩,
 ⟨(some 13), (some (9, false)), 0, true, .un .not (T 12)⟩,
 D 14 (.pick (T 9) (C (.bool true)) (T 13)),
 D 15 (.mv (T 14)),
 ⟨(some 16), (some (15, false)), 0, true, .faddr 260 (T 1)⟩,
 ⟨(some 17), (some (15, false)), 0, true, .load none (T 16)⟩,
 ⟨(some 18), (some (15, false)), 0, true, .call 52 [(T 17), (C (.int .i64 0)), (C (.int .i64 15))]⟩,
 ⟨(some 19), (some (15, false)), 0, true, .un .not (T 18)⟩,
 D 20 (.pick (T 15) (C (.bool true)) (T 19)),
 D 21 (.mv (T 20)),
 ⟨(some 22), (some (21, false)), 0, true, .faddr 261 (T 1)⟩,
 ⟨(some 23), (some (21, false)), 0, true, .load none (T 22)⟩,
 ⟨(some 24), (some (21, false)), 0, true, .call 52 [(T 23), (C (.int .i64 0)), (C (.int .i64 2))]⟩,
 ⟨(some 25), (some (21, false)), 0, true, .un .not (T 24)⟩,
 D 26 (.pick (T 21) (C (.bool true)) (T 25)),
 D 27 (.mv (T 26)),
 ⟨(some 28), (some (27, false)), 0, true, .load (some 262) (T 1)⟩,
 ⟨(some 29), (some (27, false)), 0, true, .call 53 [(T 28)]⟩,
 ⟨(some 30), (some (27, false)), 0, true, .un .not (T 29)⟩,
 D 31 (.pick (T 27) (C (.bool true)) (T 30))])
 (.cond (T 31)
 (.seq (.region [
 D 2 (.mv (C (.bool false)))])
 .ret)
 .skip))
 (.seq (.seq (.region [
 D 32 (.faddr 258 (T 1)),
 D 33 (.load none (T 32))])
 (.block 0 (.seq (.region [
 D 35 (.bin .eql (T 33) (C (.int .i64 0))),
 D 34 (.mv (T 35))])
 (.cond (T 34)
 (.seq (.region [
 D 36 (.faddr 261 (T 1)),
 D 37 (.load none (T 36)),
 D 38 (.bin .eql (T 37) (C (.int .i64 0))),
 D 39 (.mv (T 38)),
 ⟨(some 40), (some (39, false)), 0, true, .faddr 261 (T 1)⟩,
 ⟨(some 41), (some (39, false)), 0, true, .load none (T 40)⟩,
 ⟨(some 42), (some (39, false)), 0, true, .bin .eql (T 41) (C (.int .i64 1))⟩,
 ⟨(some 43), (some (39, false)), 0, true, .mv (T 42)⟩,
 ⟨(some 44), (some (43, true)), 0, true, .faddr 260 (T 1)⟩,
 ⟨(some 45), (some (43, true)), 0, true, .load none (T 44)⟩,
 ⟨(some 46), (some (43, true)), 0, true, .bin .gtr (T 45) (C (.int .i64 0))⟩,
 ⟨(some 47), (some (39, false)), 0, true, .pick (T 43) (T 46) (C (.bool false))⟩,
 D 48 (.pick (T 39) (C (.bool true)) (T 47)),
 D 49 (.mv (T 48)),
 ⟨(some 50), (some (49, false)), 0, true, .faddr 261 (T 1)⟩,
 ⟨(some 51), (some (49, false)), 0, true, .load none (T 50)⟩,
 ⟨(some 52), (some (49, false)), 0, true, .bin .eql (T 51) (C (.int .i64 2))⟩,
 ⟨(some 53), (some (49, false)), 0, true, .mv (T 52)⟩,
 ⟨(some 54), (some (53, true)), 0, true, .faddr 260 (T 1)⟩,
 ⟨(some 55), (some (53, true)), 0, true, .load none (T 54)⟩,
 ⟨(some 56), (some (53, true)), 0, true, .bin .lss (T 55) (C (.int .i64 15))⟩,
 ⟨(some 57), (some (49, false)), 0, true, .pick (T 53) (T 56) (C (.bool false))⟩,
 D 58 (.pick (T 49) (C (.bool true)) (T 57)),
 D 2 (.mv (T 58))])
 .ret)
 (.seq (.region [
 D 60 (.bin .eql (T 33) (C (.int .i64 258))),
 D 59 (.mv (T 60))])
 (.cond (T 59)
 (.seq (.drawn [
 ⟨(some 61), none, 0, false, .faddr 259 (T 1)⟩,
 ⟨(some 62), none, 1, true, .load none (T 61)⟩,
 ⟨(some 63), none, 3, false, .bin .eql (T 62) (C (.int .i64 4))⟩,
 ⟨(some 64), none, 7, false, .mv (T 63)⟩,
 ⟨(some 65), (some (64, true)), 15, false, .faddr 261 (T 1)⟩,
 ⟨(some 66), (some (64, true)), 31, true, .load none (T 65)⟩,
 ⟨(some 67), (some (64, true)), 63, false, .bin .eql (T 66) (C (.int .i64 0))⟩,
 ⟨(some 68), none, 127, false, .pick (T 64) (T 67) (C (.bool false))⟩,
 ⟨(some 69), none, 255, false, .mv (T 68)⟩,
 ⟨(some 70), (some (69, true)), 511, false, .faddr 260 (T 1)⟩,
 ⟨(some 71), (some (69, true)), 1023, false, .load none (T 70)⟩,
 ⟨(some 72), (some (69, true)), 511, false, .faddr 258 (T 1)⟩,
 ⟨(some 73), (some (69, true)), 2559, false, .load none (T 72)⟩,
 ⟨(some 74), (some (69, true)), 6655, false, .bin .sub (T 73) (C (.int .i64 1))⟩,
 ⟨(some 75), (some (69, true)), 511, false, .faddr 0 (T 1)⟩,
 ⟨(some 76), (some (69, true)), 31231, false, .iaddra 1 258 (T 75) (T 74)⟩,
 ⟨(some 77), (some (69, true)), 63999, false, .load none (T 76)⟩,
 ⟨(some 78), (some (69, true)), 129535, false, .conv .i64 (T 77)⟩,
 ⟨(some 79), (some (69, true)), 262143, false, .bin .eql (T 71) (T 78)⟩,
 ⟨(some 80), none, 524287, false, .pick (T 69) (T 79) (C (.bool false))⟩,
 ⟨(some 81), none, 1048575, false, .mv (T 80)⟩,
 ⟨(some 82), (some (81, true)), 2097151, false, .faddr 0 (T 1)⟩,
 ⟨(some 83), (some (81, true)), 4194303, true, .load (some 258) (T 82)⟩,
 ⟨(some 84), (some (81, true)), 8388607, true, .call 47 [(T 83)]⟩,
 ⟨(some 85), none, 16777215, false, .pick (T 81) (T 84) (C (.bool false))⟩,
 ⟨(some 2), none, 33554431, false, .mv (T 85)⟩])
 .ret)
 .skip))))))
 (.seq (.drawn [
 ⟨(some 86), none, 0, false, .faddr 258 (T 1)⟩,
 ⟨(some 87), none, 1, false, .load none (T 86)⟩,
 ⟨(some 88), none, 3, false, .bin .sub (T 87) (C (.int .i64 1))⟩,
 ⟨(some 89), none, 0, false, .faddr 0 (T 1)⟩,
 ⟨(some 90), none, 15, false, .iaddra 1 258 (T 89) (T 88)⟩,
 ⟨(some 91), none, 31, false, .load none (T 90)⟩,
 ⟨(some 92), none, 63, false, .conv .i64 (T 91)⟩,
 ⟨(some 93), none, 0, false, .faddr 260 (T 1)⟩,
 ⟨(some 94), none, 128, false, .load none (T 93)⟩,
 ⟨(some 95), none, 0, false, .faddr 261 (T 1)⟩,
 ⟨(some 96), none, 512, false, .load none (T 95)⟩,
 ⟨(some 97), none, 2047, true, .call 54 [(T 92), (T 94), (T 96)]⟩,
 ⟨(some 2), none, 4095, false, .mv (T 97)⟩])
 .ret))))), [.tmp 2]⟩
theorem ac15_ok : compFn Try.prog Try.f15 = some ac15 := by kernel_rfl
/-- winepress/winepressref10.Step -/
def ac16 : AFn := ⟨(.seq (.region [
 D 2 (.box true (T 0)),
 D 4 (.alloc true (List.replicate 258 (.int .u8 0) ++ [(.int .i64 0), (.int .i64 0), (.int .i64 0), (.int .i64 0)])),
 D 5 (.mv (C (.bool false))),
 D 6 (.mv (C (.int .i64 0)))])
 (.seq (.seq (.region [
 D 9 (.load (some 262) (T 2)),
 D 10 (.call 19 [(T 9)]),
 D 11 (.un .not (T 10)),
 D 12 (.mv (T 11)),
 ⟨(some 13), (some (12, false)), 0, true, .faddr 258 (T 2)⟩,
 ⟨(some 14), (some (12, false)), 0, true, .load none (T 13)⟩,
 ⟨(some 15), (some (12, false)), 0, true, .bin .eql (T 14) (C (.int .i64 258))⟩,
 D 16 (.pick (T 12) (C (.bool true)) (T 15)),
 D 17 (.mv (T 16)),
 ⟨(some 18), (some (17, false)), 0, true, .mv (T 1)⟩,
 ⟨(some 19), (some (17, false)), 0, true, .bin .neq (T 18) (C (.int .i64 0))⟩,
 ⟨(some 20), (some (17, false)), 0, true, .mv (T 19)⟩,
 ⟨(some 21), (some (20, true)), 0, true, .mv (T 1)⟩,
 ⟨(some 22), (some (20, true)), 0, true, .bin .neq (T 21) (C (.int .i64 1))⟩,
 ⟨(some 23), (some (17, false)), 0, true, .pick (T 20) (T 22) (C (.bool false))⟩,
 D 24 (.pick (T 17) (C (.bool true)) (T 23))])
 (.cond (T 24)
 (.seq (.region [
 D 25 (.build (List.replicate 258 (.int .u8 0) ++ [(.int .i64 0), (.int .i64 0), (.int .i64 0), (.int .i64 0)]) []),
 E (.store 262 (T 4) (T 25)),
 D 5 (.mv (C (.bool false))),
 D 6 (.mv (C (.int .i64 2)))])
 .ret)
 .skip))
 (.seq (.region [
 D 27 (.load (some 262) (T 2)),
 D 28 (.mv (T 1)),
 D 29 (.call 55 [(T 27), (T 28)]),
 D 26 (.mv (T 29)),
 D 30 (.ext (T 26) 0),
 D 31 (.ext (T 26) 1),
 D 7 (.alloc true (List.replicate 258 (.int .u8 0) ++ [(.int .i64 0), (.int .i64 0), (.int .i64 0), (.int .i64 0)])),
 E (.store 262 (T 7) (T 30)),
 D 8 (.mv (T 31))])
 (.seq (.seq (.region [
 D 32 (.mv (T 8)),
 D 33 (.un .not (T 32))])
 (.cond (T 33)
 (.seq (.region [
 D 34 (.build (List.replicate 258 (.int .u8 0) ++ [(.int .i64 0), (.int .i64 0), (.int .i64 0), (.int .i64 0)]) []),
 E (.store 262 (T 4) (T 34)),
 D 5 (.mv (C (.bool false))),
 D 6 (.mv (C (.int .i64 100)))])
 .ret)
 .skip))
 (.seq (.moves [] false [
 ⟨(some 35), none, 0, false, .load (some 262) (T 7)⟩,
 ⟨(some 36), none, 0, false, .faddr 258 (T 7)⟩,
 ⟨(some 37), none, 0, false, .load none (T 36)⟩,
 ⟨(some 38), none, 0, false, .bin .eql (T 37) (C (.int .i64 258))⟩,
 ⟨none, none, 0, false, .store 262 (T 4) (T 35)⟩,
 ⟨(some 5), none, 0, false, .mv (T 38)⟩,
 ⟨(some 6), none, 0, false, .mv (C (.int .i64 0))⟩])
 .ret))))), [.cell 4 (some 262), .tmp 5, .tmp 6]⟩
theorem ac16_ok : compFn Try.prog Try.f16 = some ac16 := by kernel_rfl
/-- winepress/winepressref10.Of -/
def ac17 : AFn := ⟨(.seq (.region [
 D 1 (.box true (T 0)),
 D 2 (.mv (C (.slice none 0 0))),
 D 3 (.mv (C (.int .i64 0)))])
 (.seq (.seq (.region [
 D 4 (.load (some 258) (T 1)),
 D 5 (.call 12 [(T 4)]),
 D 6 (.un .not (T 5))])
 (.cond (T 6)
 (.seq (.region [
 D 2 (.mv (C (.slice none 0 0))),
 D 3 (.mv (C (.int .i64 2)))])
 .ret)
 .skip))
 (.seq (.region [
 D 7 (.load (some 258) (T 1)),
 D 8 (.iaddra 1 258 (T 1) (C (.int .i64 0))),
 D 9 (.load none (T 8)),
 D 10 (.conv .i64 (T 9)),
 D 11 (.call 56 [(T 7), (T 10)]),
 D 2 (.mv (T 11)),
 D 3 (.mv (C (.int .i64 0)))])
 .ret))), [.tmp 2, .tmp 3]⟩
theorem ac17_ok : compFn Try.prog Try.f17 = some ac17 := by kernel_rfl
/-- a loop of winepress/winepressref02.Ints; it keeps [1, 0, 5] -/
def lb18_0 : ACode := (.seq (.seq (.region [
 D 11 (.mv (T 5)),
 D 12 (.mv (T 0)),
 D 13 (.len (T 12)),
 D 14 (.bin .lss (T 11) (T 13))])
 (.cond (T 14)
 .skip
 (.exit 0)))
 (.seq (.block 1 (.seq (.drawn [
 ⟨(some 17), none, 0, false, .mv (T 0)⟩,
 ⟨(some 18), none, 0, false, .mv (T 5)⟩,
 ⟨(some 19), none, 3, false, .iaddr 1 (T 17) (T 18)⟩,
 ⟨(some 20), none, 7, false, .load none (T 19)⟩,
 ⟨(some 21), none, 0, false, .mv (T 1)⟩,
 ⟨(some 22), none, 0, false, .mv (T 5)⟩,
 ⟨(some 23), none, 48, false, .iaddr 1 (T 21) (T 22)⟩,
 ⟨(some 24), none, 112, false, .load none (T 23)⟩,
 ⟨(some 25), none, 255, false, .bin .neq (T 20) (T 24)⟩])
 (.cond (T 25)
 (.seq (.region [
 D 4 (.mv (C (.bool false)))])
 .ret)
 .skip)))
 (.region [
 D 15 (.mv (T 5)),
 D 16 (.bin .add (T 15) (C (.int .i64 1))),
 D 5 (.mv (T 16))])))
/-- winepress/winepressref02.Ints -/
def ac18 : AFn := ⟨(.seq (.region [
 D 4 (.mv (C (.bool false)))])
 (.seq (.seq (.region [
 D 6 (.mv (T 0)),
 D 7 (.len (T 6)),
 D 8 (.mv (T 1)),
 D 9 (.len (T 8)),
 D 10 (.bin .neq (T 7) (T 9))])
 (.cond (T 10)
 (.seq (.region [
 D 4 (.mv (C (.bool false)))])
 .ret)
 .skip))
 (.seq (.seq (.region [
 D 5 (.mv (C (.int .i64 0)))])
 (.block 0 (.loop [1, 0, 5] lb18_0)))
 (.seq (.region [
 D 4 (.mv (C (.bool true)))])
 .ret)))), [.tmp 4]⟩
theorem ac18_ok : compFn Try.prog Try.f18 = some ac18 := by kernel_rfl
/-- a loop of winepress/winepressref10.Valid; it keeps [10, 1, 3, 7] -/
def lb19_0 : ACode := (.seq (.seq (.region [
 D 150 (.mv (T 10)),
 D 151 (.mv (T 7)),
 D 152 (.len (T 151)),
 D 153 (.bin .lss (T 150) (T 152))])
 (.cond (T 153)
 .skip
 (.exit 6)))
 (.seq (.block 7 (.seq (.seq (.region [
 D 156 (.faddr 258 (T 3)),
 D 157 (.load none (T 156)),
 D 158 (.bin .eql (T 157) (C (.int .i64 258)))])
 (.cond (T 158)
 (.seq (.region [
 D 2 (.mv (C (.bool false)))])
 .ret)
 .skip))
 (.seq (.drawn [
 ⟨(some 160), none, 0, false, .load (some 262) (T 3)⟩,
 ⟨(some 161), none, 0, false, .mv (T 7)⟩,
 ⟨(some 162), none, 0, false, .mv (T 10)⟩,
 ⟨(some 163), none, 6, false, .iaddr 1 (T 161) (T 162)⟩,
 ⟨(some 164), none, 14, false, .load none (T 163)⟩,
 ⟨(some 165), none, 31, true, .call 55 [(T 160), (T 164)]⟩,
 ⟨(some 159), none, 63, false, .mv (T 165)⟩,
 ⟨(some 166), none, 127, false, .ext (T 159) 0⟩,
 ⟨(some 167), none, 127, false, .ext (T 159) 1⟩,
 ⟨(some 11), none, 0, false, .alloc true (List.replicate 258 (.int .u8 0) ++ [(.int .i64 0), (.int .i64 0), (.int .i64 0), (.int .i64 0)])⟩,
 ⟨none, none, 767, true, .store 262 (T 11) (T 166)⟩,
 ⟨(some 12), none, 2047, false, .mv (T 167)⟩])
 (.seq (.seq (.region [
 D 168 (.mv (T 12)),
 D 169 (.un .not (T 168))])
 (.cond (T 169)
 (.seq (.region [
 D 2 (.mv (C (.bool false)))])
 .ret)
 .skip))
 (.region [
 D 170 (.load (some 262) (T 11)),
 E (.store 262 (T 3) (T 170))])))))
 (.region [
 D 154 (.mv (T 10)),
 D 155 (.bin .add (T 154) (C (.int .i64 1))),
 D 10 (.mv (T 155))])))
/-- a loop of winepress/winepressref10.Valid; it keeps [7, 6, 8, 3, 1] -/
def lb19_1 : ACode := (.seq (.seq (.region [
 D 110 (.mv (T 8)),
 D 111 (.faddr 258 (T 1)),
 D 112 (.load none (T 111)),
 D 113 (.bin .lss (T 110) (T 112))])
 (.cond (T 113)
 .skip
 (.exit 4)))
 (.seq (.block 5 (.seq (.region [
 D 116 (.mv (T 7)),
 D 117 (.mv (T 6)),
 D 118 (.mv (T 8)),
 D 119 (.faddr 0 (T 1)),
 D 120 (.iaddra 1 258 (T 119) (T 118)),
 D 121 (.load none (T 120)),
 D 122 (.conv .i64 (T 121)),
 D 123 (.call 57 [(T 117), (T 122)]),
 D 124 (.append true 1 (T 116) (T 123)),
 D 7 (.mv (T 124))])
 (.region [
 D 125 (.mv (T 8)),
 D 126 (.faddr 0 (T 1)),
 D 127 (.iaddra 1 258 (T 126) (T 125)),
 D 128 (.load none (T 127)),
 D 129 (.conv .i64 (T 128)),
 D 6 (.mv (T 129))])))
 (.region [
 D 114 (.mv (T 8)),
 D 115 (.bin .add (T 114) (C (.int .i64 1))),
 D 8 (.mv (T 115))])))
/-- a loop of winepress/winepressref10.Valid; it keeps [1, 3, 5] -/
def lb19_2 : ACode := (.seq (.seq (.region [
 D 60 (.mv (T 5)),
 D 61 (.faddr 258 (T 1)),
 D 62 (.load none (T 61)),
 D 63 (.bin .lss (T 60) (T 62))])
 (.cond (T 63)
 .skip
 (.exit 2)))
 (.seq (.block 3 (.seq (.region [
 D 66 (.mv (T 5)),
 D 67 (.faddr 0 (T 1)),
 D 68 (.iaddra 1 258 (T 67) (T 66)),
 D 69 (.load none (T 68)),
 D 70 (.bin .gtr (T 69) (C (.int .u8 15)))])
 (.cond (T 70)
 (.seq (.region [
 D 2 (.mv (C (.bool false)))])
 .ret)
 .skip)))
 (.region [
 D 64 (.mv (T 5)),
 D 65 (.bin .add (T 64) (C (.int .i64 1))),
 D 5 (.mv (T 65))])))
/-- a loop of winepress/winepressref10.Valid; it keeps [4, 1, 3] -/
def lb19_3 : ACode := (.seq (.seq (.region [
 D 42 (.mv (T 4)),
 D 43 (.bin .geq (T 42) (C (.int .i64 0)))])
 (.cond (T 43)
 .skip
 (.exit 0)))
 (.seq (.block 1 (.region [
 D 47 (.load (some 262) (T 3)),
 D 48 (.faddr 260 (T 1)),
 D 49 (.load none (T 48)),
 D 50 (.mv (T 4)),
 D 51 (.conv .u64 (T 50)),
 D 52 (.bin .shr (T 49) (T 51)),
 D 53 (.bin .rem (T 52) (C (.int .i64 2))),
 D 54 (.call 55 [(T 47), (T 53)]),
 D 46 (.mv (T 54)),
 D 55 (.ext (T 46) 0),
 D 56 (.ext (T 46) 1),
 E (.store 262 (T 3) (T 55))]))
 (.region [
 D 44 (.mv (T 4)),
 D 45 (.bin .sub (T 44) (C (.int .i64 1))),
 D 4 (.mv (T 45))])))
/-- winepress/winepressref10.Valid -/
def ac19 : AFn := ⟨(.seq (.region [
 D 1 (.box true (T 0)),
 D 2 (.mv (C (.bool false)))])
 (.seq (.seq (.region [
 D 13 (.faddr 260 (T 1)),
 D 14 (.load none (T 13)),
 D 15 (.bin .lss (T 14) (C (.int .i64 0))),
 D 16 (.mv (T 15)),
 ⟨(some 17), (some (16, false)), 0, true, .faddr 260 (T 1)⟩,
 ⟨(some 18), (some (16, false)), 0, true, .load none (T 17)⟩,
 ⟨(some 19), (some (16, false)), 0, true, .bin .gtr (T 18) (C (.int .i64 15))⟩,
 D 20 (.pick (T 16) (C (.bool true)) (T 19)),
 D 21 (.mv (T 20)),
 ⟨(some 22), (some (21, false)), 0, true, .faddr 258 (T 1)⟩,
 ⟨(some 23), (some (21, false)), 0, true, .load none (T 22)⟩,
 ⟨(some 24), (some (21, false)), 0, true, .bin .lss (T 23) (C (.int .i64 0))⟩,
 D 25 (.pick (T 21) (C (.bool true)) (T 24)),
 D 26 (.mv (T 25)),
 ⟨(some 27), (some (26, false)), 0, true, .faddr 258 (T 1)⟩,
 ⟨(some 28), (some (26, false)), 0, true, .load none (T 27)⟩,
 ⟨(some 29), (some (26, false)), 0, true, .bin .gtr (T 28) (C (.int .i64 258))⟩,
 D 30 (.pick (T 26) (C (.bool true)) (T 29))])
 (.cond (T 30)
 (.seq (.region [
 D 2 (.mv (C (.bool false)))])
 .ret)
 .skip))
 (.seq (.region [
 D 3 (.alloc true (List.replicate 258 (.int .u8 0) ++ [(.int .i64 0), (.int .i64 0), (.int .i64 0), (.int .i64 0)]))])
 (.seq (.seq (.region [
 D 31 (.faddr 259 (T 1)),
 D 32 (.load none (T 31)),
 D 33 (.bin .geq (T 32) (C (.int .i64 0))),
 D 34 (.mv (T 33)),
 ⟨(some 35), (some (34, true)), 0, true, .faddr 259 (T 1)⟩,
 ⟨(some 36), (some (34, true)), 0, true, .load none (T 35)⟩,
 ⟨(some 37), (some (34, true)), 0, true, .bin .lss (T 36) (C (.int .i64 4))⟩,
 D 38 (.pick (T 34) (T 37) (C (.bool false)))])
 (.cond (T 38)
 (.seq (.seq (.region [
 D 39 (.faddr 259 (T 1)),
 D 40 (.load none (T 39)),
 D 41 (.bin .sub (T 40) (C (.int .i64 1))),
 D 4 (.mv (T 41))])
 (.block 0 (.loop [4, 1, 3] lb19_3)))
 (.seq (.region [
 D 57 (.load (some 262) (T 3)),
 D 58 (.load (some 262) (T 1)),
 D 59 (.eqs false (.agg (List.replicate 262 .nu)) (T 57) (T 58)),
 D 2 (.mv (T 59))])
 .ret))
 .skip))
 (.seq (.seq (.region [
 D 5 (.mv (C (.int .i64 0)))])
 (.block 2 (.loop [1, 3, 5] lb19_2)))
 (.seq (.region [
 D 71 (.faddr 0 (T 1)),
 D 72 (.iaddra 1 258 (T 71) (C (.int .i64 0))),
 D 73 (.load none (T 72)),
 D 74 (.conv .i64 (T 73)),
 D 6 (.mv (T 74))])
 (.seq (.seq (.region [
 D 75 (.faddr 258 (T 1)),
 D 76 (.load none (T 75)),
 D 77 (.bin .eql (T 76) (C (.int .i64 0)))])
 (.cond (T 77)
 (.seq (.region [
 D 78 (.faddr 260 (T 1)),
 D 79 (.load none (T 78)),
 D 6 (.mv (T 79))])
 (.seq (.seq (.region [
 D 80 (.faddr 261 (T 1)),
 D 81 (.load none (T 80)),
 D 82 (.bin .eql (T 81) (C (.int .i64 1)))])
 (.cond (T 82)
 (.region [
 D 83 (.faddr 260 (T 1)),
 D 84 (.load none (T 83)),
 D 85 (.bin .sub (T 84) (C (.int .i64 1))),
 D 6 (.mv (T 85))])
 .skip))
 (.seq (.seq (.region [
 D 86 (.faddr 261 (T 1)),
 D 87 (.load none (T 86)),
 D 88 (.bin .eql (T 87) (C (.int .i64 2)))])
 (.cond (T 88)
 (.region [
 D 89 (.faddr 260 (T 1)),
 D 90 (.load none (T 89)),
 D 91 (.bin .add (T 90) (C (.int .i64 1))),
 D 6 (.mv (T 91))])
 .skip))
 (.seq (.region [
 D 92 (.mv (T 6)),
 D 93 (.bin .lss (T 92) (C (.int .i64 0))),
 D 94 (.mv (T 93)),
 ⟨(some 95), (some (94, false)), 0, true, .mv (T 6)⟩,
 ⟨(some 96), (some (94, false)), 0, true, .bin .gtr (T 95) (C (.int .i64 15))⟩,
 D 97 (.pick (T 94) (C (.bool true)) (T 96))])
 (.cond (T 97)
 (.seq (.region [
 D 2 (.mv (C (.bool false)))])
 .ret)
 .skip)))))
 .skip))
 (.seq (.region [
 D 98 (.mv (T 6)),
 D 99 (.bin .quo (T 98) (C (.int .i64 8))),
 D 100 (.bin .rem (T 99) (C (.int .i64 2))),
 D 101 (.mv (T 6)),
 D 102 (.bin .quo (T 101) (C (.int .i64 4))),
 D 103 (.bin .rem (T 102) (C (.int .i64 2))),
 D 104 (.mv (T 6)),
 D 105 (.bin .quo (T 104) (C (.int .i64 2))),
 D 106 (.bin .rem (T 105) (C (.int .i64 2))),
 D 107 (.mv (T 6)),
 D 108 (.bin .rem (T 107) (C (.int .i64 2))),
 D 109 (.bslice true 1 4 [(.int .i64 0), (.int .i64 0), (.int .i64 0), (.int .i64 0)] [(0, 1, (T 100)), (1, 1, (T 103)), (2, 1, (T 106)), (3, 1, (T 108))]),
 D 7 (.mv (T 109))])
 (.seq (.seq (.region [
 D 8 (.mv (C (.int .i64 0)))])
 (.block 4 (.loop [7, 6, 8, 3, 1] lb19_1)))
 (.seq (.seq (.region [
 D 130 (.faddr 258 (T 1)),
 D 131 (.load none (T 130)),
 D 132 (.bin .lss (T 131) (C (.int .i64 258)))])
 (.cond (T 132)
 (.seq (.region [
 D 133 (.mv (T 6)),
 D 134 (.faddr 260 (T 1)),
 D 135 (.load none (T 134)),
 D 136 (.call 57 [(T 133), (T 135)]),
 D 9 (.mv (T 136))])
 (.region [
 D 137 (.mv (T 7)),
 D 138 (.mv (T 9)),
 D 139 (.mv (T 9)),
 D 140 (.len (T 139)),
 D 141 (.bin .sub (T 140) (C (.int .i64 1))),
 D 142 (.slice 1 (T 138) none (some (T 141)) none),
 D 143 (.append true 1 (T 137) (T 142)),
 D 7 (.mv (T 143))]))
 .skip))
 (.seq (.seq (.region [
 D 144 (.faddr 259 (T 1)),
 D 145 (.load none (T 144)),
 D 146 (.bin .eql (T 145) (C (.int .i64 5)))])
 (.cond (T 146)
 (.region [
 D 147 (.mv (T 7)),
 D 148 (.bslice true 1 1 [(.int .i64 0)] [(0, 1, (C (.int .i64 1)))]),
 D 149 (.append true 1 (T 147) (T 148)),
 D 7 (.mv (T 149))])
 .skip))
 (.seq (.seq (.region [
 D 10 (.mv (C (.int .i64 0)))])
 (.block 6 (.loop [10, 1, 3, 7] lb19_0)))
 (.seq (.region [
 D 171 (.load (some 262) (T 3)),
 D 172 (.load (some 262) (T 1)),
 D 173 (.eqs false (.agg (List.replicate 262 .nu)) (T 171) (T 172)),
 D 2 (.mv (T 173))])
 .ret))))))))))))), [.tmp 2]⟩
theorem ac19_ok : compFn Try.prog Try.f19 = some ac19 := by kernel_rfl
/-- winepress/bitwriter.New -/
def ac20 : AFn := ⟨(.seq (.region [
 D 0 (.mv (C (.pointer none)))])
 (.seq (.region [
 D 1 (.build [(.slice none 0 0), (.int .i64 0)] []),
 D 2 (.box false (T 1)),
 D 0 (.mv (T 2))])
 .ret)), [.tmp 0]⟩
theorem ac20_ok : compFn Try.prog Try.f20 = some ac20 := by kernel_rfl
/-- a loop of winepress/lengthtable.Put; it keeps [22, 21, 20, 0] -/
def lb21_0 : ACode := (.seq (.region [
 D 23 (.bin .lss (T 22) (T 21))])
 (.seq (.cond (T 23)
 .skip
 (.exit 0))
 (.seq (.block 1 (.seq (.region [
 D 24 (.iaddr 1 (T 20) (T 22)),
 D 25 (.load none (T 24)),
 D 8 (.mv (T 25))])
 (.region [
 D 26 (.mv (T 0)),
 D 27 (.mv (T 8)),
 D 28 (.conv .u32 (T 27)),
 D 29 (.call 58 [(T 26), (T 28), (C (.int .i64 1))])])))
 (.region [
 D 30 (.bin .add (T 22) (C (.int .i64 1))),
 D 22 (.mv (T 30))]))))
/-- winepress/lengthtable.Put -/
def ac21 : AFn := ⟨(.seq (.region [
 D 3 (.box true (T 1)),
 D 4 (.mv (C (.int .i64 0)))])
 (.seq (.region [
 D 10 (.load (some 258) (T 3)),
 D 11 (.call 11 [(T 10)]),
 D 9 (.mv (T 11)),
 D 12 (.ext (T 9) 0),
 D 13 (.ext (T 9) 1),
 D 5 (.mv (T 12)),
 D 6 (.mv (T 13))])
 (.seq (.seq (.region [
 D 14 (.mv (T 6)),
 D 15 (.bin .neq (T 14) (C (.int .i64 0))),
 D 16 (.mv (T 15)),
 ⟨(some 17), (some (16, false)), 0, true, .mv (T 0)⟩,
 ⟨(some 18), (some (16, false)), 0, true, .eqs false .ptr (T 17) (C (.pointer none))⟩,
 D 19 (.pick (T 16) (C (.bool true)) (T 18))])
 (.cond (T 19)
 (.seq (.region [
 D 4 (.mv (C (.int .i64 2)))])
 .ret)
 .skip))
 (.seq (.seq (.region [
 D 20 (.mv (T 5)),
 D 21 (.len (T 20)),
 D 22 (.mv (C (.int .i64 0)))])
 (.block 0 (.loop [22, 21, 20, 0] lb21_0)))
 (.seq (.region [
 D 4 (.mv (C (.int .i64 0)))])
 .ret))))), [.tmp 4]⟩
theorem ac21_ok : compFn Try.prog Try.f21 = some ac21 := by kernel_rfl
/-- a loop of winepress/winepressref10.Read; it keeps [0, 5, 6, 2] -/
def lb22_0 : ACode := (.seq (.seq (.region [
 D 9 (.mv (T 6)),
 D 10 (.mv (T 0)),
 D 11 (.len (T 10)),
 D 12 (.bin .lss (T 9) (T 11))])
 (.cond (T 12)
 .skip
 (.exit 0)))
 (.seq (.block 1 (.seq (.seq (.region [
 D 15 (.mv (T 0)),
 D 16 (.mv (T 6)),
 D 17 (.iaddr 1 (T 15) (T 16)),
 D 18 (.load none (T 17)),
 D 19 (.bin .neq (T 18) (C (.int .i64 0))),
 D 20 (.mv (T 19)),
 ⟨(some 21), (some (20, true)), 0, true, .mv (T 0)⟩,
 ⟨(some 22), (some (20, true)), 0, true, .mv (T 6)⟩,
 ⟨(some 23), (some (20, true)), 0, true, .iaddr 1 (T 21) (T 22)⟩,
 ⟨(some 24), (some (20, true)), 0, true, .load none (T 23)⟩,
 ⟨(some 25), (some (20, true)), 0, true, .bin .neq (T 24) (C (.int .i64 1))⟩,
 D 26 (.pick (T 20) (T 25) (C (.bool false)))])
 (.cond (T 26)
 (.seq (.region [
 D 27 (.build (List.replicate 258 (.int .u8 0)) []),
 E (.store 258 (T 2) (T 27)),
 D 3 (.mv (C (.int .i64 0))),
 D 4 (.mv (C (.int .i64 2)))])
 .ret)
 .skip))
 (.seq (.drawn [
 ⟨(some 29), none, 0, false, .load (some 262) (T 5)⟩,
 ⟨(some 30), none, 0, false, .mv (T 0)⟩,
 ⟨(some 31), none, 0, false, .mv (T 6)⟩,
 ⟨(some 32), none, 6, false, .iaddr 1 (T 30) (T 31)⟩,
 ⟨(some 33), none, 14, false, .load none (T 32)⟩,
 ⟨(some 34), none, 31, true, .call 55 [(T 29), (T 33)]⟩,
 ⟨(some 28), none, 63, false, .mv (T 34)⟩,
 ⟨(some 35), none, 127, false, .ext (T 28) 0⟩,
 ⟨(some 36), none, 127, false, .ext (T 28) 1⟩,
 ⟨(some 7), none, 0, false, .alloc true (List.replicate 258 (.int .u8 0) ++ [(.int .i64 0), (.int .i64 0), (.int .i64 0), (.int .i64 0)])⟩,
 ⟨none, none, 767, true, .store 262 (T 7) (T 35)⟩,
 ⟨(some 8), none, 2047, false, .mv (T 36)⟩])
 (.seq (.seq (.region [
 D 37 (.mv (T 8)),
 D 38 (.un .not (T 37))])
 (.cond (T 38)
 (.seq (.region [
 D 39 (.build (List.replicate 258 (.int .u8 0)) []),
 E (.store 258 (T 2) (T 39)),
 D 3 (.mv (C (.int .i64 0))),
 D 4 (.mv (C (.int .i64 100)))])
 .ret)
 .skip))
 (.seq (.region [
 D 40 (.load (some 262) (T 7)),
 E (.store 262 (T 5) (T 40))])
 (.seq (.region [
 D 41 (.faddr 258 (T 5)),
 D 42 (.load none (T 41)),
 D 43 (.bin .eql (T 42) (C (.int .i64 258)))])
 (.cond (T 43)
 (.seq (.region [
 D 44 (.faddr 0 (T 5)),
 D 45 (.load (some 258) (T 44)),
 D 46 (.mv (T 6)),
 D 47 (.bin .add (T 46) (C (.int .i64 1))),
 E (.store 258 (T 2) (T 45)),
 D 3 (.mv (T 47)),
 D 4 (.mv (C (.int .i64 0)))])
 .ret)
 .skip)))))))
 (.region [
 D 13 (.mv (T 6)),
 D 14 (.bin .add (T 13) (C (.int .i64 1))),
 D 6 (.mv (T 14))])))
/-- winepress/winepressref10.Read -/
def ac22 : AFn := ⟨(.seq (.region [
 D 2 (.alloc true (List.replicate 258 (.int .u8 0))),
 D 3 (.mv (C (.int .i64 0))),
 D 4 (.mv (C (.int .i64 0)))])
 (.seq (.region [
 D 5 (.alloc true (List.replicate 258 (.int .u8 0) ++ [(.int .i64 0), (.int .i64 0), (.int .i64 0), (.int .i64 0)]))])
 (.seq (.seq (.region [
 D 6 (.mv (C (.int .i64 0)))])
 (.block 0 (.loop [0, 5, 6, 2] lb22_0)))
 (.seq (.region [
 D 48 (.build (List.replicate 258 (.int .u8 0)) []),
 E (.store 258 (T 2) (T 48)),
 D 3 (.mv (C (.int .i64 0))),
 D 4 (.mv (C (.int .i64 50)))])
 .ret)))), [.cell 2 (some 258), .tmp 3, .tmp 4]⟩
theorem ac22_ok : compFn Try.prog Try.f22 = some ac22 := by kernel_rfl
/-- (*winepress/bitwriter.Writer).Len -/
def ac23 : AFn := ⟨(.seq (.region [
 D 2 (.mv (C (.int .i64 0)))])
 (.seq (.seq (.region [
 D 3 (.mv (T 0)),
 D 4 (.eqs false .ptr (T 3) (C (.pointer none)))])
 (.cond (T 4)
 (.seq (.region [
 D 2 (.mv (C (.int .i64 0)))])
 .ret)
 .skip))
 (.seq (.region [
 D 5 (.mv (T 0)),
 D 6 (.nilck (T 5)),
 D 7 (.faddr 1 (T 6)),
 D 8 (.load none (T 7)),
 D 2 (.mv (T 8))])
 .ret))), [.tmp 2]⟩
theorem ac23_ok : compFn Try.prog Try.f23 = some ac23 := by kernel_rfl
/-- (*winepress/bitwriter.Writer).Bytes -/
def ac24 : AFn := ⟨(.seq (.region [
 D 2 (.mv (C (.slice none 0 0)))])
 (.seq (.seq (.region [
 D 3 (.mv (T 0)),
 D 4 (.eqs false .ptr (T 3) (C (.pointer none)))])
 (.cond (T 4)
 (.seq (.region [
 D 2 (.mv (C (.slice none 0 0)))])
 .ret)
 .skip))
 (.seq (.region [
 D 5 (.mv (T 0)),
 D 6 (.nilck (T 5)),
 D 7 (.faddr 0 (T 6)),
 D 8 (.load none (T 7)),
 D 9 (.call 59 [(T 8)]),
 D 2 (.mv (T 9))])
 .ret))), [.tmp 2]⟩
theorem ac24_ok : compFn Try.prog Try.f24 = some ac24 := by kernel_rfl
/-- a loop of winepress/winepressref02.Bytes; it keeps [5, 6, 4, 3, 0] -/
def lb25_0 : ACode := (.seq (.seq (.region [
 D 14 (.mv (T 6)),
 D 15 (.mv (T 4)),
 D 16 (.bin .add (T 15) (C (.int .i64 8))),
 D 17 (.bin .lss (T 14) (T 16))])
 (.cond (T 17)
 .skip
 (.exit 2)))
 (.seq (.block 3 (.seq (.region [
 D 20 (.mv (T 5)),
 D 21 (.bin .mul (C (.int .i64 2)) (T 20)),
 D 5 (.mv (T 21))])
 (.seq (.region [
 D 22 (.mv (T 6)),
 D 23 (.mv (T 0)),
 D 24 (.len (T 23)),
 D 25 (.bin .lss (T 22) (T 24))])
 (.cond (T 25)
 (.region [
 D 26 (.mv (T 5)),
 D 27 (.mv (T 0)),
 D 28 (.mv (T 6)),
 D 29 (.iaddr 1 (T 27) (T 28)),
 D 30 (.load none (T 29)),
 D 31 (.bin .add (T 26) (T 30)),
 D 5 (.mv (T 31))])
 .skip))))
 (.region [
 D 18 (.mv (T 6)),
 D 19 (.bin .add (T 18) (C (.int .i64 1))),
 D 6 (.mv (T 19))])))
/-- a loop of winepress/winepressref02.Bytes; it keeps [4, 3, 0] -/
def lb25_1 : ACode := (.seq (.seq (.region [
 D 7 (.mv (T 4)),
 D 8 (.mv (T 0)),
 D 9 (.len (T 8)),
 D 10 (.bin .lss (T 7) (T 9))])
 (.cond (T 10)
 .skip
 (.exit 0)))
 (.seq (.block 1 (.seq (.region [
 D 5 (.mv (C (.int .i64 0)))])
 (.seq (.seq (.region [
 D 13 (.mv (T 4)),
 D 6 (.mv (T 13))])
 (.block 2 (.loop [5, 6, 4, 3, 0] lb25_0)))
 (.region [
 D 32 (.mv (T 3)),
 D 33 (.mv (T 5)),
 D 34 (.conv .u8 (T 33)),
 D 35 (.bslice true 1 1 [(.int .u8 0)] [(0, 1, (T 34))]),
 D 36 (.append true 1 (T 32) (T 35)),
 D 3 (.mv (T 36))]))))
 (.region [
 D 11 (.mv (T 4)),
 D 12 (.bin .add (T 11) (C (.int .i64 8))),
 D 4 (.mv (T 12))])))
/-- winepress/winepressref02.Bytes -/
def ac25 : AFn := ⟨(.seq (.region [
 D 2 (.mv (C (.slice none 0 0)))])
 (.seq (.region [
 D 3 (.mv (C (.slice none 0 0)))])
 (.seq (.seq (.region [
 D 4 (.mv (C (.int .i64 0)))])
 (.block 0 (.loop [4, 3, 0] lb25_1)))
 (.seq (.region [
 D 37 (.mv (T 3)),
 D 2 (.mv (T 37))])
 .ret)))), [.tmp 2]⟩
theorem ac25_ok : compFn Try.prog Try.f25 = some ac25 := by kernel_rfl
/-- winepress/winepresslaw10.three -/
def ac46 : AFn := ⟨(.seq (.region [
 D 0 (.alloc true (List.replicate 258 (.int .u8 0)))])
 (.seq (.region [
 D 1 (.alloc true (List.replicate 258 (.int .u8 0)))])
 (.seq (.region [
 D 2 (.iaddra 1 258 (T 1) (C (.int .i64 0))),
 E (.store 1 (T 2) (C (.int .u8 1))),
 D 3 (.iaddra 1 258 (T 1) (C (.int .i64 1))),
 E (.store 1 (T 3) (C (.int .u8 2))),
 D 4 (.iaddra 1 258 (T 1) (C (.int .i64 257))),
 E (.store 1 (T 4) (C (.int .u8 2)))])
 (.seq (.region [
 D 5 (.load (some 258) (T 1)),
 E (.store 258 (T 0) (T 5))])
 .ret)))), [.cell 0 (some 258)]⟩
theorem ac46_ok : compFn Try.prog Try.f46 = some ac46 := by kernel_rfl
/-- winepress/kraft.Table -/
def ac47 : AFn := ⟨(.seq (.region [
 D 1 (.box true (T 0)),
 D 2 (.mv (C (.bool false)))])
 (.seq (.region [
 D 3 (.load (some 258) (T 1)),
 D 4 (.call 75 [(T 3)]),
 D 5 (.mv (T 4)),
 ⟨(some 6), (some (5, true)), 0, true, .iaddra 1 258 (T 1) (C (.int .i64 257))⟩,
 ⟨(some 7), (some (5, true)), 0, true, .load none (T 6)⟩,
 ⟨(some 8), (some (5, true)), 0, true, .bin .gtr (T 7) (C (.int .u8 0))⟩,
 D 9 (.pick (T 5) (T 8) (C (.bool false))),
 D 2 (.mv (T 9))])
 .ret)), [.tmp 2]⟩
theorem ac47_ok : compFn Try.prog Try.f47 = some ac47 := by kernel_rfl
/-- winepress/lengthtable.changes -/
def ac48 : AFn := ⟨(.seq (.region [
 D 2 (.box true (T 0)),
 D 3 (.box true (T 1)),
 D 4 (.mv (C .nilFunc))])
 (.seq (.region [
 D 5 (.mkfn 76 [] [(T 3), (T 2)]),
 D 4 (.mv (T 5))])
 .ret)), [.tmp 4]⟩
theorem ac48_ok : compFn Try.prog Try.f48 = some ac48 := by kernel_rfl
/-- a loop of winepress/winepressref08.Sum; it keeps [3, 4, 1] -/
def lb49_0 : ACode := (.seq (.seq (.region [
 D 5 (.mv (T 4)),
 D 6 (.bin .lss (T 5) (C (.int .i64 258)))])
 (.cond (T 6)
 .skip
 (.exit 0)))
 (.seq (.block 1 (.region [
 D 9 (.mv (T 3)),
 D 10 (.mv (T 4)),
 D 11 (.iaddra 1 258 (T 1) (T 10)),
 D 12 (.load none (T 11)),
 D 13 (.call 77 [(T 12)]),
 D 14 (.bin .add (T 9) (T 13)),
 D 3 (.mv (T 14))]))
 (.region [
 D 7 (.mv (T 4)),
 D 8 (.bin .add (T 7) (C (.int .i64 1))),
 D 4 (.mv (T 8))])))
/-- winepress/winepressref08.Sum -/
def ac49 : AFn := ⟨(.seq (.region [
 D 1 (.box true (T 0)),
 D 2 (.mv (C (.int .i64 0)))])
 (.seq (.region [
 D 3 (.mv (C (.int .i64 0)))])
 (.seq (.seq (.region [
 D 4 (.mv (C (.int .i64 0)))])
 (.block 0 (.loop [3, 4, 1] lb49_0)))
 (.seq (.region [
 D 15 (.mv (T 3)),
 D 2 (.mv (T 15))])
 .ret)))), [.tmp 2]⟩
theorem ac49_ok : compFn Try.prog Try.f49 = some ac49 := by kernel_rfl
/-- winepress/lengthtable.next -/
def ac50 : AFn := ⟨(.seq (.region [
 D 2 (.box true (T 0)),
 D 4 (.alloc true (List.replicate 258 (.int .u8 0) ++ [(.int .i64 0), (.int .i64 0), (.int .i64 0), (.int .i64 0)])),
 D 5 (.mv (C (.bool false)))])
 (.seq (.block 0 (.seq (.region [
 D 25 (.faddr 259 (T 2)),
 D 26 (.load none (T 25)),
 D 27 (.bin .lss (T 26) (C (.int .i64 4))),
 D 24 (.mv (T 27))])
 (.cond (T 24)
 (.region [
 D 28 (.faddr 260 (T 2)),
 D 29 (.load none (T 28)),
 D 30 (.bin .shl (T 29) (C (.int .u64 1))),
 D 31 (.mv (T 1)),
 D 32 (.bin .or (T 30) (T 31)),
 D 33 (.faddr 259 (T 2)),
 D 34 (.load none (T 33)),
 D 35 (.bin .add (T 34) (C (.int .i64 1))),
 D 36 (.faddr 260 (T 2)),
 E (.store 1 (T 36) (T 32)),
 D 37 (.faddr 259 (T 2)),
 E (.store 1 (T 37) (T 35))])
 (.seq (.region [
 D 39 (.faddr 259 (T 2)),
 D 40 (.load none (T 39)),
 D 41 (.bin .eql (T 40) (C (.int .i64 4))),
 D 42 (.mv (T 41)),
 ⟨(some 43), (some (42, true)), 0, true, .mv (T 1)⟩,
 ⟨(some 44), (some (42, true)), 0, true, .bin .eql (T 43) (C (.int .i64 0))⟩,
 D 45 (.pick (T 42) (T 44) (C (.bool false))),
 D 38 (.mv (T 45))])
 (.cond (T 38)
 (.seq (.region [
 D 46 (.faddr 258 (T 2)),
 D 47 (.load none (T 46)),
 D 48 (.faddr 260 (T 2)),
 D 49 (.load none (T 48)),
 D 50 (.conv .u8 (T 49)),
 D 51 (.faddr 0 (T 2)),
 D 52 (.iaddra 1 258 (T 51) (T 47)),
 E (.store 1 (T 52) (T 50))])
 (.seq (.region [
 D 53 (.faddr 258 (T 2)),
 D 54 (.load none (T 53)),
 D 55 (.bin .add (T 54) (C (.int .i64 1))),
 D 56 (.faddr 258 (T 2)),
 E (.store 1 (T 56) (T 55)),
 D 57 (.faddr 261 (T 2)),
 E (.store 1 (T 57) (C (.int .i64 0)))])
 (.seq (.drawn [
 ⟨(some 58), none, 0, false, .load (some 262) (T 2)⟩,
 ⟨(some 59), none, 0, false, .faddr 258 (T 2)⟩,
 ⟨(some 60), none, 2, false, .load none (T 59)⟩,
 ⟨(some 61), none, 6, false, .bin .lss (T 60) (C (.int .i64 258))⟩,
 ⟨(some 62), none, 14, false, .mv (T 61)⟩,
 ⟨(some 63), (some (62, false)), 30, false, .faddr 0 (T 2)⟩,
 ⟨(some 64), (some (62, false)), 62, false, .load (some 258) (T 63)⟩,
 ⟨(some 65), (some (62, false)), 126, false, .call 47 [(T 64)]⟩,
 ⟨(some 66), none, 254, false, .pick (T 62) (C (.bool true)) (T 65)⟩,
 ⟨none, none, 255, true, .store 262 (T 4) (T 58)⟩,
 ⟨(some 5), none, 1023, false, .mv (T 66)⟩])
 .ret)))
 (.seq (.region [
 D 68 (.faddr 259 (T 2)),
 D 69 (.load none (T 68)),
 D 70 (.bin .eql (T 69) (C (.int .i64 4))),
 D 67 (.mv (T 70))])
 (.cond (T 67)
 (.region [
 D 71 (.faddr 259 (T 2)),
 E (.store 1 (T 71) (C (.int .i64 5)))])
 (.seq (.region [
 D 73 (.mv (T 1)),
 D 74 (.bin .eql (T 73) (C (.int .i64 0))),
 D 72 (.mv (T 74))])
 (.cond (T 72)
 (.seq (.region [
 D 75 (.faddr 261 (T 2)),
 D 76 (.load none (T 75)),
 D 77 (.bin .neq (T 76) (C (.int .i64 2))),
 D 78 (.mv (T 77)),
 ⟨(some 79), (some (78, true)), 0, true, .faddr 260 (T 2)⟩,
 ⟨(some 80), (some (78, true)), 0, true, .load none (T 79)⟩,
 ⟨(some 81), (some (78, true)), 0, true, .bin .lss (T 80) (C (.int .i64 15))⟩,
 D 82 (.pick (T 78) (T 81) (C (.bool false))),
 D 6 (.mv (T 82))])
 (.seq (.region [
 D 83 (.faddr 260 (T 2)),
 D 84 (.load none (T 83)),
 D 85 (.bin .add (T 84) (C (.int .i64 1))),
 D 86 (.faddr 260 (T 2)),
 E (.store 1 (T 86) (T 85)),
 D 87 (.faddr 261 (T 2)),
 E (.store 1 (T 87) (C (.int .i64 1))),
 D 88 (.faddr 259 (T 2)),
 E (.store 1 (T 88) (C (.int .i64 4)))])
 (.seq (.region [
 D 89 (.load (some 262) (T 2)),
 D 90 (.mv (T 6)),
 E (.store 262 (T 4) (T 89)),
 D 5 (.mv (T 90))])
 .ret)))
 (.seq (.region [
 D 8 (.faddr 261 (T 2)),
 D 9 (.load none (T 8)),
 D 10 (.bin .neq (T 9) (C (.int .i64 1))),
 D 11 (.mv (T 10)),
 ⟨(some 12), (some (11, true)), 0, true, .faddr 260 (T 2)⟩,
 ⟨(some 13), (some (11, true)), 0, true, .load none (T 12)⟩,
 ⟨(some 14), (some (11, true)), 0, true, .bin .gtr (T 13) (C (.int .i64 0))⟩,
 D 15 (.pick (T 11) (T 14) (C (.bool false))),
 D 7 (.mv (T 15))])
 (.seq (.region [
 D 16 (.faddr 260 (T 2)),
 D 17 (.load none (T 16)),
 D 18 (.bin .sub (T 17) (C (.int .i64 1))),
 D 19 (.faddr 260 (T 2)),
 E (.store 1 (T 19) (T 18)),
 D 20 (.faddr 261 (T 2)),
 E (.store 1 (T 20) (C (.int .i64 2))),
 D 21 (.faddr 259 (T 2)),
 E (.store 1 (T 21) (C (.int .i64 4)))])
 (.seq (.region [
 D 22 (.load (some 262) (T 2)),
 D 23 (.mv (T 7)),
 E (.store 262 (T 4) (T 22)),
 D 5 (.mv (T 23))])
 .ret))))))))))))
 (.seq (.region [
 D 91 (.load (some 262) (T 2)),
 E (.store 262 (T 4) (T 91)),
 D 5 (.mv (C (.bool true)))])
 .ret))), [.cell 4 (some 262), .tmp 5]⟩
theorem ac50_ok : compFn Try.prog Try.f50 = some ac50 := by kernel_rfl
/-- winepress/lengthtable.beginning -/
def ac51 : AFn := ⟨(.seq (.region [
 D 1 (.box true (T 0)),
 D 2 (.mv (C (.bool false)))])
 (.seq (.drawn [
 ⟨(some 3), none, 0, false, .faddr 259 (T 1)⟩,
 ⟨(some 4), none, 1, true, .load none (T 3)⟩,
 ⟨(some 5), none, 3, true, .call 52 [(T 4), (C (.int .i64 0)), (C (.int .i64 3))]⟩,
 ⟨(some 6), none, 7, false, .mv (T 5)⟩,
 ⟨(some 7), (some (6, true)), 15, false, .faddr 260 (T 1)⟩,
 ⟨(some 8), (some (6, true)), 31, false, .load none (T 7)⟩,
 ⟨(some 9), (some (6, true)), 15, false, .faddr 259 (T 1)⟩,
 ⟨(some 10), (some (6, true)), 79, false, .load none (T 9)⟩,
 ⟨(some 11), (some (6, true)), 207, false, .bin .shl (C (.int .i64 1)) (T 10)⟩,
 ⟨(some 12), (some (6, true)), 463, false, .bin .sub (T 11) (C (.int .i64 1))⟩,
 ⟨(some 13), (some (6, true)), 1023, true, .call 52 [(T 8), (C (.int .i64 0)), (T 12)]⟩,
 ⟨(some 14), none, 2047, false, .pick (T 6) (T 13) (C (.bool false))⟩,
 ⟨(some 15), none, 4095, false, .mv (T 14)⟩,
 ⟨(some 16), (some (15, true)), 8191, false, .load (some 262) (T 1)⟩,
 ⟨(some 17), (some (15, true)), 8191, false, .faddr 259 (T 1)⟩,
 ⟨(some 18), (some (15, true)), 24575, false, .load none (T 17)⟩,
 ⟨(some 19), (some (15, true)), 8191, false, .faddr 260 (T 1)⟩,
 ⟨(some 20), (some (15, true)), 73727, false, .load none (T 19)⟩,
 ⟨(some 21), (some (15, true)), 253951, false, .build (List.replicate 258 (.int .u8 0) ++ [(.int .i64 0), (.int .i64 0), (.int .i64 0), (.int .i64 0)]) [(259, 1, (T 18)), (260, 1, (T 20))]⟩,
 ⟨(some 22), (some (15, true)), 524287, false, .eqs false (.agg (List.replicate 262 .nu)) (T 16) (T 21)⟩,
 ⟨(some 23), none, 1048575, false, .pick (T 15) (T 22) (C (.bool false))⟩,
 ⟨(some 2), none, 2097151, false, .mv (T 23)⟩])
 .ret)), [.tmp 2]⟩
theorem ac51_ok : compFn Try.prog Try.f51 = some ac51 := by kernel_rfl
/-- winepress/lengthtable.within -/
def ac52 : AFn := ⟨(.seq (.region [
 D 6 (.mv (C (.bool false)))])
 (.seq (.region [
 D 7 (.mv (T 0)),
 D 8 (.mv (T 1)),
 D 9 (.bin .geq (T 7) (T 8)),
 D 10 (.mv (T 9)),
 ⟨(some 11), (some (10, true)), 0, true, .mv (T 0)⟩,
 ⟨(some 12), (some (10, true)), 0, true, .mv (T 2)⟩,
 ⟨(some 13), (some (10, true)), 0, true, .bin .leq (T 11) (T 12)⟩,
 D 14 (.pick (T 10) (T 13) (C (.bool false))),
 D 6 (.mv (T 14))])
 .ret)), [.tmp 6]⟩
theorem ac52_ok : compFn Try.prog Try.f52 = some ac52 := by kernel_rfl
/-- a loop of winepress/lengthtable.known; it keeps [1, 6, 7] -/
def lb53_0 : ACode := (.seq (.region [
 D 8 (.bin .lss (T 7) (C (.int .i64 258)))])
 (.seq (.cond (T 8)
 .skip
 (.exit 0))
 (.seq (.block 1 (.seq (.region [
 D 9 (.mv (T 7)),
 D 10 (.idx 1 258 none (T 6) (T 7)),
 D 3 (.mv (T 9)),
 D 4 (.mv (T 10))])
 (.seq (.region [
 D 11 (.mv (T 4)),
 D 12 (.bin .gtr (T 11) (C (.int .u8 15))),
 D 13 (.mv (T 12)),
 ⟨(some 14), (some (13, false)), 0, true, .mv (T 3)⟩,
 ⟨(some 15), (some (13, false)), 0, true, .faddr 258 (T 1)⟩,
 ⟨(some 16), (some (13, false)), 0, true, .load none (T 15)⟩,
 ⟨(some 17), (some (13, false)), 0, true, .bin .geq (T 14) (T 16)⟩,
 ⟨(some 18), (some (13, false)), 0, true, .mv (T 17)⟩,
 ⟨(some 19), (some (18, true)), 0, true, .mv (T 4)⟩,
 ⟨(some 20), (some (18, true)), 0, true, .bin .gtr (T 19) (C (.int .u8 0))⟩,
 ⟨(some 21), (some (13, false)), 0, true, .pick (T 18) (T 20) (C (.bool false))⟩,
 D 22 (.pick (T 13) (C (.bool true)) (T 21))])
 (.cond (T 22)
 (.seq (.region [
 D 2 (.mv (C (.bool false)))])
 .ret)
 .skip))))
 (.region [
 D 23 (.bin .add (T 7) (C (.int .i64 1))),
 D 7 (.mv (T 23))]))))
/-- winepress/lengthtable.known -/
def ac53 : AFn := ⟨(.seq (.region [
 D 1 (.box true (T 0)),
 D 2 (.mv (C (.bool false)))])
 (.seq (.seq (.region [
 D 5 (.faddr 0 (T 1)),
 D 6 (.load (some 258) (T 5)),
 D 7 (.mv (C (.int .i64 0)))])
 (.block 0 (.loop [1, 6, 7] lb53_0)))
 (.seq (.region [
 D 2 (.mv (C (.bool true)))])
 .ret))), [.tmp 2]⟩
theorem ac53_ok : compFn Try.prog Try.f53 = some ac53 := by kernel_rfl
/-- winepress/lengthtable.turned -/
def ac54 : AFn := ⟨(.seq (.region [
 D 6 (.mv (C (.bool false)))])
 (.seq (.seq (.region [
 D 7 (.mv (T 2))])
 (.block 0 (.seq (.region [
 D 9 (.bin .eql (T 7) (C (.int .i64 0))),
 D 8 (.mv (T 9))])
 (.cond (T 8)
 (.seq (.region [
 D 10 (.mv (T 0)),
 D 11 (.mv (T 1)),
 D 12 (.bin .eql (T 10) (T 11)),
 D 6 (.mv (T 12))])
 .ret)
 (.seq (.region [
 D 14 (.bin .eql (T 7) (C (.int .i64 1))),
 D 13 (.mv (T 14))])
 (.cond (T 13)
 (.seq (.region [
 D 15 (.mv (T 0)),
 D 16 (.mv (T 1)),
 D 17 (.bin .lss (T 15) (T 16)),
 D 6 (.mv (T 17))])
 .ret)
 .skip))))))
 (.seq (.region [
 D 18 (.mv (T 0)),
 D 19 (.mv (T 1)),
 D 20 (.bin .gtr (T 18) (T 19)),
 D 6 (.mv (T 20))])
 .ret))), [.tmp 6]⟩
theorem ac54_ok : compFn Try.prog Try.f54 = some ac54 := by kernel_rfl
/-- winepress/winepressref10.Way -/
def ac55 : AFn := ⟨(.seq (.region [
 D 2 (.box true (T 0)),
 D 4 (.alloc true (List.replicate 258 (.int .u8 0) ++ [(.int .i64 0), (.int .i64 0), (.int .i64 0), (.int .i64 0)])),
 D 5 (.mv (C (.bool false)))])
 (.seq (.seq (.region [
 D 6 (.faddr 259 (T 2)),
 D 7 (.load none (T 6))])
 (.block 0 (.seq (.seq (.region [
 D 9 (.bin .eql (T 7) (C (.int .i64 0))),
 D 8 (.mv (T 9))])
 (.cond (T 8)
 .skip
 (.seq (.region [
 D 10 (.bin .eql (T 7) (C (.int .i64 1))),
 D 8 (.mv (T 10))])
 (.cond (T 8)
 .skip
 (.seq (.region [
 D 11 (.bin .eql (T 7) (C (.int .i64 2))),
 D 8 (.mv (T 11))])
 (.cond (T 8)
 .skip
 (.region [
 D 12 (.bin .eql (T 7) (C (.int .i64 3))),
 D 8 (.mv (T 12))])))))))
 (.cond (T 8)
 (.seq (.region [
 D 13 (.faddr 260 (T 2)),
 D 14 (.load none (T 13)),
 D 15 (.bin .mul (C (.int .i64 2)) (T 14)),
 D 16 (.mv (T 1)),
 D 17 (.bin .add (T 15) (T 16)),
 D 18 (.faddr 260 (T 2)),
 E (.store 1 (T 18) (T 17))])
 (.seq (.region [
 D 19 (.faddr 259 (T 2)),
 D 20 (.load none (T 19)),
 D 21 (.bin .add (T 20) (C (.int .i64 1))),
 D 22 (.faddr 259 (T 2)),
 E (.store 1 (T 22) (T 21))])
 (.seq (.region [
 D 23 (.load (some 262) (T 2)),
 E (.store 262 (T 4) (T 23)),
 D 5 (.mv (C (.bool true)))])
 .ret)))
 (.seq (.region [
 D 25 (.bin .eql (T 7) (C (.int .i64 4))),
 D 24 (.mv (T 25))])
 (.cond (T 24)
 (.seq (.seq (.region [
 D 26 (.mv (T 1)),
 D 27 (.bin .eql (T 26) (C (.int .i64 1)))])
 (.cond (T 27)
 (.seq (.region [
 D 28 (.faddr 259 (T 2)),
 E (.store 1 (T 28) (C (.int .i64 5)))])
 (.seq (.region [
 D 29 (.load (some 262) (T 2)),
 E (.store 262 (T 4) (T 29)),
 D 5 (.mv (C (.bool true)))])
 .ret))
 .skip))
 (.seq (.region [
 D 30 (.faddr 258 (T 2)),
 D 31 (.load none (T 30)),
 D 32 (.faddr 260 (T 2)),
 D 33 (.load none (T 32)),
 D 34 (.conv .u8 (T 33)),
 D 35 (.faddr 0 (T 2)),
 D 36 (.iaddra 1 258 (T 35) (T 31)),
 E (.store 1 (T 36) (T 34))])
 (.seq (.region [
 D 37 (.faddr 258 (T 2)),
 D 38 (.load none (T 37)),
 D 39 (.bin .add (T 38) (C (.int .i64 1))),
 D 40 (.faddr 258 (T 2)),
 E (.store 1 (T 40) (T 39))])
 (.seq (.region [
 D 41 (.faddr 261 (T 2)),
 E (.store 1 (T 41) (C (.int .i64 0)))])
 (.seq (.drawn [
 ⟨(some 42), none, 0, false, .load (some 262) (T 2)⟩,
 ⟨(some 43), none, 0, false, .faddr 258 (T 2)⟩,
 ⟨(some 44), none, 2, false, .load none (T 43)⟩,
 ⟨(some 45), none, 6, false, .bin .lss (T 44) (C (.int .i64 258))⟩,
 ⟨(some 46), none, 14, false, .mv (T 45)⟩,
 ⟨(some 47), (some (46, false)), 30, false, .faddr 0 (T 2)⟩,
 ⟨(some 48), (some (46, false)), 62, false, .load (some 258) (T 47)⟩,
 ⟨(some 49), (some (46, false)), 126, false, .call 12 [(T 48)]⟩,
 ⟨(some 50), none, 254, false, .pick (T 46) (C (.bool true)) (T 49)⟩,
 ⟨none, none, 255, true, .store 262 (T 4) (T 42)⟩,
 ⟨(some 5), none, 1023, false, .mv (T 50)⟩])
 .ret)))))
 .skip))))))
 (.seq (.region [
 D 51 (.faddr 259 (T 2)),
 E (.store 1 (T 51) (C (.int .i64 4)))])
 (.seq (.seq (.region [
 D 52 (.mv (T 1)),
 D 53 (.bin .eql (T 52) (C (.int .i64 0)))])
 (.cond (T 53)
 (.seq (.seq (.region [
 D 54 (.faddr 261 (T 2)),
 D 55 (.load none (T 54)),
 D 56 (.bin .eql (T 55) (C (.int .i64 2))),
 D 57 (.mv (T 56)),
 ⟨(some 58), (some (57, false)), 0, true, .faddr 260 (T 2)⟩,
 ⟨(some 59), (some (57, false)), 0, true, .load none (T 58)⟩,
 ⟨(some 60), (some (57, false)), 0, true, .bin .eql (T 59) (C (.int .i64 15))⟩,
 D 61 (.pick (T 57) (C (.bool true)) (T 60))])
 (.cond (T 61)
 (.seq (.region [
 D 62 (.load (some 262) (T 2)),
 E (.store 262 (T 4) (T 62)),
 D 5 (.mv (C (.bool false)))])
 .ret)
 .skip))
 (.seq (.region [
 D 63 (.faddr 260 (T 2)),
 D 64 (.load none (T 63)),
 D 65 (.bin .add (T 64) (C (.int .i64 1))),
 D 66 (.faddr 260 (T 2)),
 E (.store 1 (T 66) (T 65))])
 (.seq (.region [
 D 67 (.faddr 261 (T 2)),
 E (.store 1 (T 67) (C (.int .i64 1)))])
 (.seq (.region [
 D 68 (.load (some 262) (T 2)),
 E (.store 262 (T 4) (T 68)),
 D 5 (.mv (C (.bool true)))])
 .ret))))
 .skip))
 (.seq (.seq (.region [
 D 69 (.faddr 261 (T 2)),
 D 70 (.load none (T 69)),
 D 71 (.bin .eql (T 70) (C (.int .i64 1))),
 D 72 (.mv (T 71)),
 ⟨(some 73), (some (72, false)), 0, true, .faddr 260 (T 2)⟩,
 ⟨(some 74), (some (72, false)), 0, true, .load none (T 73)⟩,
 ⟨(some 75), (some (72, false)), 0, true, .bin .eql (T 74) (C (.int .i64 0))⟩,
 D 76 (.pick (T 72) (C (.bool true)) (T 75))])
 (.cond (T 76)
 (.seq (.region [
 D 77 (.load (some 262) (T 2)),
 E (.store 262 (T 4) (T 77)),
 D 5 (.mv (C (.bool false)))])
 .ret)
 .skip))
 (.seq (.region [
 D 78 (.faddr 260 (T 2)),
 D 79 (.load none (T 78)),
 D 80 (.bin .sub (T 79) (C (.int .i64 1))),
 D 81 (.faddr 260 (T 2)),
 E (.store 1 (T 81) (T 80))])
 (.seq (.region [
 D 82 (.faddr 261 (T 2)),
 E (.store 1 (T 82) (C (.int .i64 2)))])
 (.seq (.region [
 D 83 (.load (some 262) (T 2)),
 E (.store 262 (T 4) (T 83)),
 D 5 (.mv (C (.bool true)))])
 .ret)))))))), [.cell 4 (some 262), .tmp 5]⟩
theorem ac55_ok : compFn Try.prog Try.f55 = some ac55 := by kernel_rfl
/-- a loop of winepress/winepressref10.Bits; it keeps [5, 1, 6, 2] -/
def lb56_0 : ACode := (.seq (.seq (.region [
 D 19 (.mv (T 6)),
 D 20 (.bin .lss (T 19) (C (.int .i64 258)))])
 (.cond (T 20)
 .skip
 (.exit 0)))
 (.seq (.block 1 (.seq (.region [
 D 23 (.mv (T 5)),
 D 24 (.mv (T 1)),
 D 25 (.mv (T 6)),
 D 26 (.iaddra 1 258 (T 2) (T 25)),
 D 27 (.load none (T 26)),
 D 28 (.conv .i64 (T 27)),
 D 29 (.call 57 [(T 24), (T 28)]),
 D 30 (.append true 1 (T 23) (T 29)),
 D 5 (.mv (T 30))])
 (.region [
 D 31 (.mv (T 6)),
 D 32 (.iaddra 1 258 (T 2) (T 31)),
 D 33 (.load none (T 32)),
 D 34 (.conv .i64 (T 33)),
 D 1 (.mv (T 34))])))
 (.region [
 D 21 (.mv (T 6)),
 D 22 (.bin .add (T 21) (C (.int .i64 1))),
 D 6 (.mv (T 22))])))
/-- winepress/winepressref10.Bits -/
def ac56 : AFn := ⟨(.seq (.region [
 D 2 (.box true (T 0)),
 D 4 (.mv (C (.slice none 0 0)))])
 (.seq (.region [
 D 7 (.mv (T 1)),
 D 8 (.bin .quo (T 7) (C (.int .i64 8))),
 D 9 (.bin .rem (T 8) (C (.int .i64 2))),
 D 10 (.mv (T 1)),
 D 11 (.bin .quo (T 10) (C (.int .i64 4))),
 D 12 (.bin .rem (T 11) (C (.int .i64 2))),
 D 13 (.mv (T 1)),
 D 14 (.bin .quo (T 13) (C (.int .i64 2))),
 D 15 (.bin .rem (T 14) (C (.int .i64 2))),
 D 16 (.mv (T 1)),
 D 17 (.bin .rem (T 16) (C (.int .i64 2))),
 D 18 (.bslice true 1 4 [(.int .i64 0), (.int .i64 0), (.int .i64 0), (.int .i64 0)] [(0, 1, (T 9)), (1, 1, (T 12)), (2, 1, (T 15)), (3, 1, (T 17))]),
 D 5 (.mv (T 18))])
 (.seq (.seq (.region [
 D 6 (.mv (C (.int .i64 0)))])
 (.block 0 (.loop [5, 1, 6, 2] lb56_0)))
 (.seq (.region [
 D 35 (.mv (T 5)),
 D 4 (.mv (T 35))])
 .ret)))), [.tmp 4]⟩
theorem ac56_ok : compFn Try.prog Try.f56 = some ac56 := by kernel_rfl
/-- a loop of winepress/winepressref10.put; it keeps [5, 0, 1] -/
def lb57_0 : ACode := (.seq (.seq (.region [
 D 14 (.mv (T 0)),
 D 15 (.mv (T 1)),
 D 16 (.bin .gtr (T 14) (T 15))])
 (.cond (T 16)
 .skip
 (.exit 2)))
 (.block 3 (.seq (.region [
 D 17 (.mv (T 5)),
 D 18 (.bslice true 1 2 [(.int .i64 0), (.int .i64 0)] [(0, 1, (C (.int .i64 1))), (1, 1, (C (.int .i64 1)))]),
 D 19 (.append true 1 (T 17) (T 18)),
 D 5 (.mv (T 19))])
 (.region [
 D 20 (.mv (T 0)),
 D 21 (.bin .sub (T 20) (C (.int .i64 1))),
 D 0 (.mv (T 21))]))))
/-- a loop of winepress/winepressref10.put; it keeps [5, 0, 1] -/
def lb57_1 : ACode := (.seq (.seq (.region [
 D 6 (.mv (T 0)),
 D 7 (.mv (T 1)),
 D 8 (.bin .lss (T 6) (T 7))])
 (.cond (T 8)
 .skip
 (.exit 0)))
 (.block 1 (.seq (.region [
 D 9 (.mv (T 5)),
 D 10 (.bslice true 1 2 [(.int .i64 0), (.int .i64 0)] [(0, 1, (C (.int .i64 1))), (1, 1, (C (.int .i64 0)))]),
 D 11 (.append true 1 (T 9) (T 10)),
 D 5 (.mv (T 11))])
 (.region [
 D 12 (.mv (T 0)),
 D 13 (.bin .add (T 12) (C (.int .i64 1))),
 D 0 (.mv (T 13))]))))
/-- winepress/winepressref10.put -/
def ac57 : AFn := ⟨(.seq (.region [
 D 4 (.mv (C (.slice none 0 0)))])
 (.seq (.region [
 D 5 (.mv (C (.slice none 0 0)))])
 (.seq (.block 0 (.loop [5, 0, 1] lb57_1))
 (.seq (.block 2 (.loop [5, 0, 1] lb57_0))
 (.seq (.region [
 D 22 (.mv (T 5)),
 D 23 (.bslice true 1 1 [(.int .i64 0)] [(0, 1, (C (.int .i64 0)))]),
 D 24 (.append true 1 (T 22) (T 23)),
 D 4 (.mv (T 24))])
 .ret))))), [.tmp 4]⟩
theorem ac57_ok : compFn Try.prog Try.f57 = some ac57 := by kernel_rfl
/-- a loop of (*winepress/bitwriter.Writer).Put; it keeps [2, 0, 4] -/
def lb58_0 : ACode := (.seq (.seq (.region [
 D 7 (.mv (T 4)),
 D 8 (.bin .geq (T 7) (C (.int .i64 0)))])
 (.cond (T 8)
 .skip
 (.exit 0)))
 (.seq (.block 1 (.seq (.region [
 D 11 (.mv (T 0)),
 D 12 (.load none (T 2)),
 D 13 (.mv (T 4)),
 D 14 (.bin .shr (T 12) (T 13)),
 D 15 (.conv .u8 (T 14)),
 D 16 (.bin .and (T 15) (C (.int .u8 1))),
 D 17 (.callv (T 11) [(T 16)]),
 D 18 (.un .not (T 17))])
 (.cond (T 18)
 .ret
 .skip)))
 (.region [
 D 9 (.mv (T 4)),
 D 10 (.bin .sub (T 9) (C (.int .i64 1))),
 D 4 (.mv (T 10))])))
/-- (*winepress/bitwriter.Writer).Put -/
def ac58 : AFn := ⟨(.seq (.region [
 D 3 (.box false (T 0)),
 D 6 (.mv (C (.bool false)))])
 (.seq (.seq (.region [
 D 8 (.load none (T 3)),
 D 9 (.eqs false .ptr (T 8) (C (.pointer none))),
 D 10 (.mv (T 9)),
 ⟨(some 11), (some (10, false)), 0, true, .mv (T 1)⟩,
 ⟨(some 12), (some (10, false)), 0, true, .mv (T 2)⟩,
 ⟨(some 13), (some (10, false)), 0, true, .call 78 [(T 11), (T 12)]⟩,
 ⟨(some 14), (some (10, false)), 0, true, .un .not (T 13)⟩,
 D 15 (.pick (T 10) (C (.bool true)) (T 14))])
 (.cond (T 15)
 (.seq (.region [
 D 6 (.mv (C (.bool false)))])
 .ret)
 .skip))
 (.seq (.seq (.region [
 D 16 (.mv (T 1)),
 D 17 (.mv (T 2)),
 D 18 (.call 79 [(T 16), (T 17)])])
 (.block 0 (.each (T 18) 88
 (.seq (.region [
 D 5 (.load none (T 1)),
 D 6 (.bin .sub (T 5) (C (.int .i64 1))),
 D 4 (.mv (T 6))])
 (.block 0 (.loop [2, 0, 4] lb58_0)))
 [19]
 (.region [
 D 7 (.mv (T 19))])
 (.block 1 (.region [
 D 20 (.load none (T 3)),
 D 21 (.mv (T 7)),
 D 22 (.call 80 [(T 20), (T 21)])])))))
 (.seq (.region [
 D 6 (.mv (C (.bool true)))])
 .ret)))), [.tmp 6]⟩
theorem ac58_ok : compFn Try.prog Try.f58 = some ac58 := by kernel_rfl
/-- bytes.Clone -/
def ac59 : AFn := ⟨(.seq (.region [
 D 2 (.mv (C (.slice none 0 0)))])
 (.seq (.seq (.region [
 D 3 (.mv (T 0)),
 D 4 (.eqs false .slice (T 3) (C (.slice none 0 0)))])
 (.cond (T 4)
 (.seq (.region [
 D 2 (.mv (C (.slice none 0 0)))])
 .ret)
 .skip))
 (.seq (.region [
 D 5 (.bslice true 1 0 [] []),
 D 6 (.mv (T 0)),
 D 7 (.append true 1 (T 5) (T 6)),
 D 2 (.mv (T 7))])
 .ret))), [.tmp 2]⟩
theorem ac59_ok : compFn Try.prog Try.f59 = some ac59 := by kernel_rfl
/-- winepress/kraft.Complete -/
def ac75 : AFn := ⟨(.seq (.region [
 D 1 (.box true (T 0)),
 D 2 (.mv (C (.bool false)))])
 (.seq (.region [
 D 3 (.load (some 258) (T 1)),
 D 4 (.call 87 [(T 3)]),
 D 5 (.bin .eql (T 4) (C (.int .i64 32768))),
 D 2 (.mv (T 5))])
 .ret)), [.tmp 2]⟩
theorem ac75_ok : compFn Try.prog Try.f75 = some ac75 := by kernel_rfl
/-- a loop of winepress/lengthtable.changes$1; it keeps [4, 2, 0, 1] -/
def lb76_0 : ACode := (.seq (.seq (.region [
 D 8 (.load none (T 2)),
 D 9 (.load none (T 1)),
 D 10 (.bin .neq (T 8) (T 9))])
 (.cond (T 10)
 .skip
 (.exit 0)))
 (.seq (.block 1 (.seq (.region [
 D 16 (.mv (T 0)),
 D 17 (.callv (T 16) [(C (.int .i64 1))]),
 D 18 (.un .not (T 17)),
 D 19 (.mv (T 18)),
 ⟨(some 20), (some (19, false)), 0, true, .mv (T 0)⟩,
 ⟨(some 21), (some (19, false)), 0, true, .mv (T 4)⟩,
 ⟨(some 22), (some (19, false)), 0, true, .callv (T 20) [(T 21)]⟩,
 ⟨(some 23), (some (19, false)), 0, true, .un .not (T 22)⟩,
 D 24 (.pick (T 19) (C (.bool true)) (T 23))])
 (.cond (T 24)
 .ret
 .skip)))
 (.region [
 D 11 (.load none (T 2)),
 D 12 (.mv (T 4)),
 D 13 (.bin .mul (C (.int .i64 2)) (T 12)),
 D 14 (.bin .sub (C (.int .i64 1)) (T 13)),
 D 15 (.bin .add (T 11) (T 14)),
 E (.store 1 (T 2) (T 15))])))
/-- winepress/lengthtable.changes$1 -/
def ac76 : AFn := ⟨(.seq (.region [
 D 4 (.mv (C (.int .i64 0)))])
 (.seq (.seq (.region [
 D 5 (.load none (T 1)),
 D 6 (.load none (T 2)),
 D 7 (.bin .lss (T 5) (T 6))])
 (.cond (T 7)
 (.region [
 D 4 (.mv (C (.int .i64 1)))])
 .skip))
 (.seq (.block 0 (.loop [4, 2, 0, 1] lb76_0))
 (.region [
 D 25 (.mv (T 0)),
 D 26 (.callv (T 25) [(C (.int .i64 0))])])))), []⟩
theorem ac76_ok : compFn Try.prog Try.f76 = some ac76 := by kernel_rfl
/-- a loop of winepress/winepressref08.Share; it keeps [3, 4, 0] -/
def lb77_0 : ACode := (.seq (.seq (.region [
 D 9 (.mv (T 4)),
 D 10 (.mv (T 0)),
 D 11 (.bin .lss (T 9) (T 10))])
 (.cond (T 11)
 .skip
 (.exit 0)))
 (.seq (.block 1 (.region [
 D 14 (.mv (T 3)),
 D 15 (.bin .quo (T 14) (C (.int .i64 2))),
 D 3 (.mv (T 15))]))
 (.region [
 D 12 (.mv (T 4)),
 D 13 (.bin .add (T 12) (C (.int .u8 1))),
 D 4 (.mv (T 13))])))
/-- winepress/winepressref08.Share -/
def ac77 : AFn := ⟨(.seq (.region [
 D 2 (.mv (C (.int .i64 0)))])
 (.seq (.seq (.region [
 D 5 (.mv (T 0)),
 D 6 (.bin .eql (T 5) (C (.int .u8 0)))])
 (.cond (T 6)
 (.seq (.region [
 D 2 (.mv (C (.int .i64 0)))])
 .ret)
 .skip))
 (.seq (.seq (.region [
 D 7 (.mv (T 0)),
 D 8 (.bin .gtr (T 7) (C (.int .u8 15)))])
 (.cond (T 8)
 (.seq (.region [
 D 2 (.mv (C (.int .i64 32769)))])
 .ret)
 .skip))
 (.seq (.region [
 D 3 (.mv (C (.int .i64 32768)))])
 (.seq (.seq (.region [
 D 4 (.mv (C (.int .u8 0)))])
 (.block 0 (.loop [3, 4, 0] lb77_0)))
 (.seq (.region [
 D 16 (.mv (T 3)),
 D 2 (.mv (T 16))])
 .ret)))))), [.tmp 2]⟩
theorem ac77_ok : compFn Try.prog Try.f77 = some ac77 := by kernel_rfl
/-- winepress/bitwriter.fits -/
def ac78 : AFn := ⟨(.seq (.region [
 D 4 (.mv (C (.bool false)))])
 (.seq (.region [
 D 5 (.mv (T 1)),
 D 6 (.bin .geq (T 5) (C (.int .i64 0))),
 D 7 (.mv (T 6)),
 ⟨(some 8), (some (7, true)), 0, true, .mv (T 1)⟩,
 ⟨(some 9), (some (7, true)), 0, true, .bin .leq (T 8) (C (.int .i64 32))⟩,
 D 10 (.pick (T 7) (T 9) (C (.bool false))),
 D 11 (.mv (T 10)),
 ⟨(some 12), (some (11, true)), 0, true, .mv (T 0)⟩,
 ⟨(some 13), (some (11, true)), 0, true, .conv .u64 (T 12)⟩,
 ⟨(some 14), (some (11, true)), 0, true, .mv (T 1)⟩,
 ⟨(some 15), (some (11, true)), 0, true, .bin .shr (T 13) (T 14)⟩,
 ⟨(some 16), (some (11, true)), 0, true, .bin .eql (T 15) (C (.int .u64 0))⟩,
 D 17 (.pick (T 11) (T 16) (C (.bool false))),
 D 4 (.mv (T 17))])
 .ret)), [.tmp 4]⟩
theorem ac78_ok : compFn Try.prog Try.f78 = some ac78 := by kernel_rfl
/-- winepress/bitwriter.down -/
def ac79 : AFn := ⟨(.seq (.region [
 D 2 (.box true (T 0)),
 D 3 (.box true (T 1)),
 D 4 (.mv (C .nilFunc))])
 (.seq (.region [
 D 5 (.mkfn 88 [] [(T 3), (T 2)]),
 D 4 (.mv (T 5))])
 .ret)), [.tmp 4]⟩
theorem ac79_ok : compFn Try.prog Try.f79 = some ac79 := by kernel_rfl
/-- (*winepress/bitwriter.Writer).add -/
def ac80 : AFn := ⟨(.seq (.seq (.region [
 D 4 (.mv (T 0)),
 D 5 (.nilck (T 4)),
 D 6 (.faddr 1 (T 5)),
 D 7 (.load none (T 6)),
 D 8 (.bin .and (T 7) (C (.int .i64 7))),
 D 9 (.bin .eql (T 8) (C (.int .i64 0)))])
 (.cond (T 9)
 (.region [
 D 10 (.mv (T 0)),
 D 11 (.mv (T 0)),
 D 12 (.nilck (T 11)),
 D 13 (.faddr 0 (T 12)),
 D 14 (.load none (T 13)),
 D 15 (.bslice true 1 1 [(.int .u8 0)] [(0, 1, (C (.int .u8 0)))]),
 D 16 (.append true 1 (T 14) (T 15)),
 D 17 (.nilck (T 10)),
 D 18 (.faddr 0 (T 17)),
 E (.store 1 (T 18) (T 16))])
 .skip))
 (.seq (.drawn [
 ⟨(some 19), none, 0, false, .mv (T 0)⟩,
 ⟨(some 20), none, 1, false, .nilck (T 19)⟩,
 ⟨(some 21), none, 3, false, .faddr 0 (T 20)⟩,
 ⟨(some 22), none, 7, false, .load none (T 21)⟩,
 ⟨(some 23), none, 0, false, .mv (T 0)⟩,
 ⟨(some 24), none, 16, false, .nilck (T 23)⟩,
 ⟨(some 25), none, 48, false, .faddr 1 (T 24)⟩,
 ⟨(some 26), none, 112, false, .load none (T 25)⟩,
 ⟨(some 27), none, 240, false, .bin .shr (T 26) (C (.int .u64 3))⟩,
 ⟨(some 28), none, 511, false, .iaddr 1 (T 22) (T 27)⟩,
 ⟨(some 29), none, 1023, false, .load none (T 28)⟩,
 ⟨(some 30), none, 0, false, .mv (T 1)⟩,
 ⟨(some 31), none, 0, false, .mv (T 0)⟩,
 ⟨(some 32), none, 4096, false, .nilck (T 31)⟩,
 ⟨(some 33), none, 12288, false, .faddr 1 (T 32)⟩,
 ⟨(some 34), none, 28672, false, .load none (T 33)⟩,
 ⟨(some 35), none, 61440, false, .bin .and (T 34) (C (.int .i64 7))⟩,
 ⟨(some 36), none, 126976, false, .bin .sub (C (.int .i64 7)) (T 35)⟩,
 ⟨(some 37), none, 260096, false, .bin .shl (T 30) (T 36)⟩,
 ⟨(some 38), none, 524287, false, .bin .or (T 29) (T 37)⟩,
 ⟨(some 39), none, 1048575, false, .iaddr 1 (T 22) (T 27)⟩,
 ⟨none, none, 2097151, true, .store 1 (T 39) (T 38)⟩])
 (.region [
 D 40 (.mv (T 0)),
 D 41 (.nilck (T 40)),
 D 42 (.faddr 1 (T 41)),
 D 43 (.load none (T 42)),
 D 44 (.bin .add (T 43) (C (.int .i64 1))),
 D 45 (.nilck (T 40)),
 D 46 (.faddr 1 (T 45)),
 E (.store 1 (T 46) (T 44))]))), []⟩
theorem ac80_ok : compFn Try.prog Try.f80 = some ac80 := by kernel_rfl
/-- a loop of winepress/kraft.Sum; it keeps [2, 6, 5] -/
def lb87_0 : ACode := (.seq (.region [
 D 7 (.bin .lss (T 6) (C (.int .i64 258)))])
 (.seq (.cond (T 7)
 .skip
 (.exit 0))
 (.seq (.block 1 (.seq (.region [
 D 8 (.idx 1 258 none (T 5) (T 6)),
 D 4 (.mv (T 8))])
 (.region [
 D 9 (.mv (T 2)),
 D 10 (.mv (T 4)),
 D 11 (.call 91 [(T 10)]),
 D 12 (.bin .add (T 9) (T 11)),
 D 2 (.mv (T 12))])))
 (.region [
 D 13 (.bin .add (T 6) (C (.int .i64 1))),
 D 6 (.mv (T 13))]))))
/-- winepress/kraft.Sum -/
def ac87 : AFn := ⟨(.seq (.region [
 D 1 (.box true (T 0)),
 D 2 (.mv (C (.int .i64 0)))])
 (.seq (.seq (.region [
 D 5 (.load (some 258) (T 1)),
 D 6 (.mv (C (.int .i64 0)))])
 (.block 0 (.loop [2, 6, 5] lb87_0)))
 (.seq (.region [
 D 14 (.mv (T 2)),
 D 2 (.mv (T 14))])
 .ret))), [.tmp 2]⟩
theorem ac87_ok : compFn Try.prog Try.f87 = some ac87 := by kernel_rfl
/-- a loop of winepress/bitwriter.down$1; it keeps [2, 0, 4] -/
def lb88_0 : ACode := (.seq (.seq (.region [
 D 7 (.mv (T 4)),
 D 8 (.bin .geq (T 7) (C (.int .i64 0)))])
 (.cond (T 8)
 .skip
 (.exit 0)))
 (.seq (.block 1 (.seq (.region [
 D 11 (.mv (T 0)),
 D 12 (.load none (T 2)),
 D 13 (.mv (T 4)),
 D 14 (.bin .shr (T 12) (T 13)),
 D 15 (.conv .u8 (T 14)),
 D 16 (.bin .and (T 15) (C (.int .u8 1))),
 D 17 (.callv (T 11) [(T 16)]),
 D 18 (.un .not (T 17))])
 (.cond (T 18)
 .ret
 .skip)))
 (.region [
 D 9 (.mv (T 4)),
 D 10 (.bin .sub (T 9) (C (.int .i64 1))),
 D 4 (.mv (T 10))])))
/-- winepress/bitwriter.down$1 -/
def ac88 : AFn := ⟨(.seq (.region [
 D 5 (.load none (T 1)),
 D 6 (.bin .sub (T 5) (C (.int .i64 1))),
 D 4 (.mv (T 6))])
 (.block 0 (.loop [2, 0, 4] lb88_0))), []⟩
theorem ac88_ok : compFn Try.prog Try.f88 = some ac88 := by kernel_rfl
/-- winepress/kraft.share -/
def ac91 : AFn := ⟨(.seq (.region [
 D 2 (.mv (C (.int .i64 0)))])
 (.seq (.block 0 (.seq (.region [
 D 4 (.mv (T 0)),
 D 5 (.bin .eql (T 4) (C (.int .u8 0))),
 D 3 (.mv (T 5))])
 (.cond (T 3)
 (.seq (.region [
 D 2 (.mv (C (.int .i64 0)))])
 .ret)
 (.seq (.region [
 D 7 (.mv (T 0)),
 D 8 (.bin .gtr (T 7) (C (.int .u8 15))),
 D 6 (.mv (T 8))])
 (.cond (T 6)
 (.seq (.region [
 D 2 (.mv (C (.int .i64 32769)))])
 .ret)
 .skip)))))
 (.seq (.region [
 D 9 (.mv (T 0)),
 D 10 (.bin .shr (C (.int .i64 32768)) (T 9)),
 D 2 (.mv (T 10))])
 .ret))), [.tmp 2]⟩
theorem ac91_ok : compFn Try.prog Try.f91 = some ac91 := by kernel_rfl
def env0L : List (Nat × AFn) := [(3, ac3), (4, ac4), (5, ac5), (6, ac6), (10, ac10), (11, ac11), (12, ac12), (13, ac13), (14, ac14), (15, ac15), (16, ac16), (17, ac17), (18, ac18), (19, ac19), (20, ac20), (21, ac21), (22, ac22), (23, ac23), (24, ac24), (25, ac25), (46, ac46), (47, ac47), (48, ac48), (49, ac49), (50, ac50), (51, ac51), (52, ac52), (53, ac53), (54, ac54), (55, ac55), (56, ac56), (57, ac57), (58, ac58), (59, ac59), (75, ac75), (76, ac76), (77, ac77), (78, ac78), (79, ac79), (80, ac80), (87, ac87), (88, ac88), (91, ac91)]
def env0 : Env := .base env0L
theorem env0_ok : EnvOk Try.prog env0 :=
 EnvOk.cons Try.func3 ac3_ok (of_decide_eq_true (by kernel_rfl)) <|
 EnvOk.cons Try.func4 ac4_ok (of_decide_eq_true (by kernel_rfl)) <|
 EnvOk.cons Try.func5 ac5_ok (of_decide_eq_true (by kernel_rfl)) <|
 EnvOk.cons Try.func6 ac6_ok (of_decide_eq_true (by kernel_rfl)) <|
 EnvOk.cons Try.func10 ac10_ok (of_decide_eq_true (by kernel_rfl)) <|
 EnvOk.cons Try.func11 ac11_ok (of_decide_eq_true (by kernel_rfl)) <|
 EnvOk.cons Try.func12 ac12_ok (of_decide_eq_true (by kernel_rfl)) <|
 EnvOk.cons Try.func13 ac13_ok (of_decide_eq_true (by kernel_rfl)) <|
 EnvOk.cons Try.func14 ac14_ok (of_decide_eq_true (by kernel_rfl)) <|
 EnvOk.cons Try.func15 ac15_ok (of_decide_eq_true (by kernel_rfl)) <|
 EnvOk.cons Try.func16 ac16_ok (of_decide_eq_true (by kernel_rfl)) <|
 EnvOk.cons Try.func17 ac17_ok (of_decide_eq_true (by kernel_rfl)) <|
 EnvOk.cons Try.func18 ac18_ok (of_decide_eq_true (by kernel_rfl)) <|
 EnvOk.cons Try.func19 ac19_ok (of_decide_eq_true (by kernel_rfl)) <|
 EnvOk.cons Try.func20 ac20_ok (of_decide_eq_true (by kernel_rfl)) <|
 EnvOk.cons Try.func21 ac21_ok (of_decide_eq_true (by kernel_rfl)) <|
 EnvOk.cons Try.func22 ac22_ok (of_decide_eq_true (by kernel_rfl)) <|
 EnvOk.cons Try.func23 ac23_ok (of_decide_eq_true (by kernel_rfl)) <|
 EnvOk.cons Try.func24 ac24_ok (of_decide_eq_true (by kernel_rfl)) <|
 EnvOk.cons Try.func25 ac25_ok (of_decide_eq_true (by kernel_rfl)) <|
 EnvOk.cons Try.func46 ac46_ok (of_decide_eq_true (by kernel_rfl)) <|
 EnvOk.cons Try.func47 ac47_ok (of_decide_eq_true (by kernel_rfl)) <|
 EnvOk.cons Try.func48 ac48_ok (of_decide_eq_true (by kernel_rfl)) <|
 EnvOk.cons Try.func49 ac49_ok (of_decide_eq_true (by kernel_rfl)) <|
 EnvOk.cons Try.func50 ac50_ok (of_decide_eq_true (by kernel_rfl)) <|
 EnvOk.cons Try.func51 ac51_ok (of_decide_eq_true (by kernel_rfl)) <|
 EnvOk.cons Try.func52 ac52_ok (of_decide_eq_true (by kernel_rfl)) <|
 EnvOk.cons Try.func53 ac53_ok (of_decide_eq_true (by kernel_rfl)) <|
 EnvOk.cons Try.func54 ac54_ok (of_decide_eq_true (by kernel_rfl)) <|
 EnvOk.cons Try.func55 ac55_ok (of_decide_eq_true (by kernel_rfl)) <|
 EnvOk.cons Try.func56 ac56_ok (of_decide_eq_true (by kernel_rfl)) <|
 EnvOk.cons Try.func57 ac57_ok (of_decide_eq_true (by kernel_rfl)) <|
 EnvOk.cons Try.func58 ac58_ok (of_decide_eq_true (by kernel_rfl)) <|
 EnvOk.cons Try.func59 ac59_ok (of_decide_eq_true (by kernel_rfl)) <|
 EnvOk.cons Try.func75 ac75_ok (of_decide_eq_true (by kernel_rfl)) <|
 EnvOk.cons Try.func76 ac76_ok (of_decide_eq_true (by kernel_rfl)) <|
 EnvOk.cons Try.func77 ac77_ok (of_decide_eq_true (by kernel_rfl)) <|
 EnvOk.cons Try.func78 ac78_ok (of_decide_eq_true (by kernel_rfl)) <|
 EnvOk.cons Try.func79 ac79_ok (of_decide_eq_true (by kernel_rfl)) <|
 EnvOk.cons Try.func80 ac80_ok (of_decide_eq_true (by kernel_rfl)) <|
 EnvOk.cons Try.func87 ac87_ok (of_decide_eq_true (by kernel_rfl)) <|
 EnvOk.cons Try.func88 ac88_ok (of_decide_eq_true (by kernel_rfl)) <|
 EnvOk.cons Try.func91 ac91_ok (of_decide_eq_true (by kernel_rfl)) <|
 EnvOk.nil
theorem mixed : Try.prog.follows .mixedOrders = true := by kernel_rfl
def env : Env := .base (env0L)
theorem env_or : EnvOr Try.prog env :=
 EnvOr.of env0_ok
theorem fn3 : env.fn 3 = some ac3 := rfl
theorem fn4 : env.fn 4 = some ac4 := rfl
theorem fn5 : env.fn 5 = some ac5 := rfl
theorem fn6 : env.fn 6 = some ac6 := rfl
theorem fn10 : env.fn 10 = some ac10 := rfl
theorem fn11 : env.fn 11 = some ac11 := rfl
theorem fn12 : env.fn 12 = some ac12 := rfl
theorem fn13 : env.fn 13 = some ac13 := rfl
theorem fn14 : env.fn 14 = some ac14 := rfl
theorem fn15 : env.fn 15 = some ac15 := rfl
theorem fn16 : env.fn 16 = some ac16 := rfl
theorem fn17 : env.fn 17 = some ac17 := rfl
theorem fn18 : env.fn 18 = some ac18 := rfl
theorem fn19 : env.fn 19 = some ac19 := rfl
theorem fn20 : env.fn 20 = some ac20 := rfl
theorem fn21 : env.fn 21 = some ac21 := rfl
theorem fn22 : env.fn 22 = some ac22 := rfl
theorem fn23 : env.fn 23 = some ac23 := rfl
theorem fn24 : env.fn 24 = some ac24 := rfl
theorem fn25 : env.fn 25 = some ac25 := rfl
theorem fn46 : env.fn 46 = some ac46 := rfl
theorem fn47 : env.fn 47 = some ac47 := rfl
theorem fn48 : env.fn 48 = some ac48 := rfl
theorem fn49 : env.fn 49 = some ac49 := rfl
theorem fn50 : env.fn 50 = some ac50 := rfl
theorem fn51 : env.fn 51 = some ac51 := rfl
theorem fn52 : env.fn 52 = some ac52 := rfl
theorem fn53 : env.fn 53 = some ac53 := rfl
theorem fn54 : env.fn 54 = some ac54 := rfl
theorem fn55 : env.fn 55 = some ac55 := rfl
theorem fn56 : env.fn 56 = some ac56 := rfl
theorem fn57 : env.fn 57 = some ac57 := rfl
theorem fn58 : env.fn 58 = some ac58 := rfl
theorem fn59 : env.fn 59 = some ac59 := rfl
theorem fn75 : env.fn 75 = some ac75 := rfl
theorem fn76 : env.fn 76 = some ac76 := rfl
theorem fn77 : env.fn 77 = some ac77 := rfl
theorem fn78 : env.fn 78 = some ac78 := rfl
theorem fn79 : env.fn 79 = some ac79 := rfl
theorem fn80 : env.fn 80 = some ac80 := rfl
theorem fn87 : env.fn 87 = some ac87 := rfl
theorem fn88 : env.fn 88 = some ac88 := rfl
theorem fn91 : env.fn 91 = some ac91 := rfl
end ArEnv
end Go.Proofs.Ytlphmnhkkhcjfaa
