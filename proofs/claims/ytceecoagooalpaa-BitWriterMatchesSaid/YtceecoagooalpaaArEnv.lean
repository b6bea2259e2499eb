/-
 THE TRANSLATED FUNCTIONS, printed by a program, and that they are the program's functions. Conditions: none.
-/
import Derived.Test.YtceecoagooalpaaProg
import Derived.Test.YtceecoagooalpaaAOr
import Derived.KernelRfl
namespace Go.Proofs.Ytceecoagooalpaa
namespace ArEnv
open Go AM
abbrev T (n : Nat) : Operand := .tmp n
abbrev C (v : Value) : Operand := .const v
abbrev D (d : Nat) (o : AOp) : AOper := ⟨some d, none, 0, true, o⟩
abbrev E (o : AOp) : AOper := ⟨none, none, 0, true, o⟩
/-- a loop of winepress/winepresslaw02.BitWriterMatches; it keeps [10, 9, 0, 2, 3, 1, 11] -/
def lb8_0 : ACode := (.seq (.seq (.region [
 D 32 (.mv (T 11)),
 D 33 (.mv (T 0)),
 D 34 (.len (T 33)),
 D 35 (.bin .lss (T 32) (T 34))])
 (.cond (T 35)
 .skip
 (.exit 0)))
 (.seq (.block 1 (.seq (.region [
 D 39 (.mv (T 9)),
 D 40 (.mv (T 0)),
 D 41 (.mv (T 11)),
 D 42 (.iaddr 3 (T 40) (T 41)),
 D 43 (.load (some 3) (T 42)),
 D 44 (.call 24 [(T 39), (T 43)]),
 D 38 (.mv (T 44)),
 D 45 (.ext (T 38) 0),
 D 46 (.ext (T 38) 1),
 D 12 (.mv (T 45)),
 D 13 (.mv (T 46))])
 (.seq (.region [
 D 14 (.mv (C (.int .i64 0))),
 D 15 (.mv (C (.bool true)))])
 (.seq (.seq (.region [
 D 47 (.mv (T 0)),
 D 48 (.mv (T 11)),
 D 49 (.iaddr 3 (T 47) (T 48)),
 D 50 (.faddr 2 (T 49)),
 D 51 (.load none (T 50))])
 (.cond (T 51)
 (.region [
 D 52 (.mv (T 10)),
 D 53 (.call 25 [(T 52)]),
 D 14 (.mv (T 53))])
 (.drawn [
 ⟨(some 54), none, 0, false, .mv (T 10)⟩,
 ⟨(some 55), none, 0, false, .mv (T 0)⟩,
 ⟨(some 56), none, 0, false, .mv (T 11)⟩,
 ⟨(some 57), none, 6, false, .iaddr 3 (T 55) (T 56)⟩,
 ⟨(some 58), none, 14, false, .faddr 0 (T 57)⟩,
 ⟨(some 59), none, 30, false, .load none (T 58)⟩,
 ⟨(some 60), none, 0, false, .mv (T 0)⟩,
 ⟨(some 61), none, 0, false, .mv (T 11)⟩,
 ⟨(some 62), none, 192, false, .iaddr 3 (T 60) (T 61)⟩,
 ⟨(some 63), none, 448, false, .faddr 1 (T 62)⟩,
 ⟨(some 64), none, 960, false, .load none (T 63)⟩,
 ⟨(some 65), none, 2047, true, .call 26 [(T 54), (T 59), (T 64)]⟩,
 ⟨(some 15), none, 4095, false, .mv (T 65)⟩])))
 (.seq (.drawn [
 ⟨(some 66), none, 0, false, .mv (T 12)⟩,
 ⟨(some 67), none, 0, false, .mv (T 14)⟩,
 ⟨(some 68), none, 3, false, .bin .neq (T 66) (T 67)⟩,
 ⟨(some 69), none, 7, false, .mv (T 68)⟩,
 ⟨(some 70), (some (69, false)), 15, false, .mv (T 13)⟩,
 ⟨(some 71), (some (69, false)), 15, false, .mv (T 15)⟩,
 ⟨(some 72), (some (69, false)), 63, false, .eqs true .bool (T 70) (T 71)⟩,
 ⟨(some 73), none, 127, false, .pick (T 69) (C (.bool true)) (T 72)⟩,
 ⟨(some 74), none, 255, false, .mv (T 73)⟩,
 ⟨(some 75), (some (74, false)), 511, false, .mv (T 9)⟩,
 ⟨(some 76), (some (74, false)), 1023, false, .call 27 [(T 75)]⟩,
 ⟨(some 77), (some (74, false)), 511, false, .mv (T 10)⟩,
 ⟨(some 78), (some (74, false)), 2559, false, .nilck (T 77)⟩,
 ⟨(some 79), (some (74, false)), 6655, false, .faddr 0 (T 78)⟩,
 ⟨(some 80), (some (74, false)), 14847, false, .load none (T 79)⟩,
 ⟨(some 81), (some (74, false)), 31231, false, .len (T 80)⟩,
 ⟨(some 82), (some (74, false)), 65535, false, .bin .neq (T 76) (T 81)⟩,
 ⟨(some 83), none, 131071, false, .pick (T 74) (C (.bool true)) (T 82)⟩,
 ⟨(some 84), none, 262143, false, .mv (T 83)⟩,
 ⟨(some 85), (some (84, false)), 524287, false, .mv (T 9)⟩,
 ⟨(some 86), (some (84, false)), 1048575, false, .call 28 [(T 85)]⟩,
 ⟨(some 87), (some (84, false)), 2097151, false, .bstr (T 86)⟩,
 ⟨(some 88), (some (84, false)), 524287, false, .mv (T 10)⟩,
 ⟨(some 89), (some (84, false)), 4718591, false, .nilck (T 88)⟩,
 ⟨(some 90), (some (84, false)), 13107199, false, .faddr 0 (T 89)⟩,
 ⟨(some 91), (some (84, false)), 29884415, false, .load none (T 90)⟩,
 ⟨(some 92), (some (84, false)), 65011711, false, .call 29 [(T 91)]⟩,
 ⟨(some 93), (some (84, false)), 132120575, false, .bstr (T 92)⟩,
 ⟨(some 94), (some (84, false)), 268435455, false, .bin .neq (T 87) (T 93)⟩,
 ⟨(some 95), none, 536870911, false, .pick (T 84) (C (.bool true)) (T 94)⟩])
 (.cond (T 95)
 (.seq (.region [
 D 8 (.mv (C (.bool false)))])
 .ret)
 .skip))))))
 (.region [
 D 36 (.mv (T 11)),
 D 37 (.bin .add (T 36) (C (.int .i64 1))),
 D 11 (.mv (T 37))])))
/-- winepress/winepresslaw02.BitWriterMatches -/
def ac8 : AFn := ⟨(.seq (.region [
 D 8 (.mv (C (.bool false)))])
 (.seq (.seq (.region [
 D 20 (.mv (T 0)),
 D 21 (.len (T 20)),
 D 22 (.bin .gtr (T 21) (C (.int .i64 60))),
 D 23 (.mv (T 22)),
 ⟨(some 24), (some (23, false)), 0, true, .mv (T 1)⟩,
 ⟨(some 25), (some (23, false)), 0, true, .len (T 24)⟩,
 ⟨(some 26), (some (23, false)), 0, true, .bin .gtr (T 25) (C (.int .i64 300))⟩,
 D 27 (.pick (T 23) (C (.bool true)) (T 26))])
 (.cond (T 27)
 (.seq (.region [
 D 28 (.call 22 []),
 D 8 (.mv (T 28))])
 .ret)
 .skip))
 (.seq (.region [
 D 29 (.call 23 []),
 D 9 (.mv (T 29))])
 (.seq (.region [
 D 30 (.build [(.slice none 0 0)] []),
 D 31 (.box false (T 30)),
 D 10 (.mv (T 31))])
 (.seq (.seq (.region [
 D 11 (.mv (C (.int .i64 0)))])
 (.block 0 (.loop [10, 9, 0, 2, 3, 1, 11] lb8_0)))
 (.seq (.region [
 D 97 (.mv (T 1)),
 D 98 (.mv (T 2)),
 D 99 (.mv (T 3)),
 D 100 (.call 30 [(T 97), (T 98), (T 99)]),
 D 96 (.mv (T 100)),
 D 101 (.ext (T 96) 0),
 D 102 (.ext (T 96) 1),
 D 16 (.mv (T 101)),
 D 17 (.mv (T 102))])
 (.seq (.region [
 D 104 (.mv (T 1)),
 D 105 (.mv (T 2)),
 D 106 (.mv (T 3)),
 D 107 (.call 31 [(T 104), (T 105), (T 106)]),
 D 103 (.mv (T 107)),
 D 108 (.ext (T 103) 0),
 D 109 (.ext (T 103) 1),
 D 18 (.mv (T 108)),
 D 19 (.mv (T 109))])
 (.seq (.region [
 D 110 (.mv (T 16)),
 D 111 (.mv (T 18)),
 D 112 (.bin .eql (T 110) (T 111)),
 D 113 (.mv (T 112)),
 ⟨(some 114), (some (113, true)), 0, true, .mv (T 17)⟩,
 ⟨(some 115), (some (113, true)), 0, true, .mv (T 19)⟩,
 ⟨(some 116), (some (113, true)), 0, true, .eqs false .bool (T 114) (T 115)⟩,
 D 117 (.pick (T 113) (T 116) (C (.bool false))),
 D 118 (.mv (T 117)),
 ⟨(some 119), (some (118, true)), 0, true, .mv (T 1)⟩,
 ⟨(some 120), (some (118, true)), 0, true, .call 33 [(T 119)]⟩,
 ⟨(some 121), (some (118, true)), 0, true, .mv (T 1)⟩,
 ⟨(some 122), (some (118, true)), 0, true, .call 34 [(T 121)]⟩,
 ⟨(some 123), (some (118, true)), 0, true, .call 32 [(T 120), (T 122)]⟩,
 D 124 (.pick (T 118) (T 123) (C (.bool false))),
 D 125 (.mv (T 124)),
 ⟨(some 126), (some (125, true)), 0, true, .call 22 []⟩,
 D 127 (.pick (T 125) (T 126) (C (.bool false))),
 D 8 (.mv (T 127))])
 .ret)))))))), [.tmp 8]⟩
theorem ac8_ok : compFn Try.prog Try.f8 = some ac8 := by kernel_rfl
/-- a loop of winepress/winepresslaw02.BitWriterBack; it keeps [7, 3, 0, 4, 6] -/
def lb9_0 : ACode := (.seq (.seq (.region [
 D 45 (.mv (T 7)),
 D 46 (.mv (T 0)),
 D 47 (.len (T 46)),
 D 48 (.bin .lss (T 45) (T 47))])
 (.cond (T 48)
 .skip
 (.exit 2)))
 (.seq (.block 3 (.seq (.region [
 D 51 (.mv (T 3)),
 D 52 (.call 27 [(T 51)]),
 D 8 (.mv (T 52))])
 (.seq (.seq (.region [
 D 53 (.mv (T 7)),
 D 54 (.bin .add (T 53) (C (.int .i64 1))),
 D 55 (.mv (T 0)),
 D 56 (.len (T 55)),
 D 57 (.bin .lss (T 54) (T 56))])
 (.cond (T 57)
 (.region [
 D 58 (.mv (T 4)),
 D 59 (.mv (T 7)),
 D 60 (.bin .add (T 59) (C (.int .i64 1))),
 D 61 (.iaddr 1 (T 58) (T 60)),
 D 62 (.load none (T 61)),
 D 8 (.mv (T 62))])
 .skip))
 (.seq (.region [
 D 63 (.mv (T 0)),
 D 64 (.mv (T 7)),
 D 65 (.iaddr 3 (T 63) (T 64)),
 D 66 (.faddr 0 (T 65)),
 D 67 (.load none (T 66)),
 D 9 (.mv (T 67))])
 (.seq (.seq (.region [
 D 68 (.mv (T 0)),
 D 69 (.mv (T 7)),
 D 70 (.iaddr 3 (T 68) (T 69)),
 D 71 (.faddr 2 (T 70)),
 D 72 (.load none (T 71))])
 (.cond (T 72)
 (.region [
 D 9 (.mv (C (.int .u32 0)))])
 .skip))
 (.seq (.seq (.region [
 D 73 (.mv (T 8)),
 D 74 (.mv (T 4)),
 D 75 (.mv (T 7)),
 D 76 (.iaddr 1 (T 74) (T 75)),
 D 77 (.load none (T 76)),
 D 78 (.bin .eql (T 73) (T 77))])
 (.cond (T 78)
 (.exit 3)
 .skip))
 (.seq (.drawn [
 ⟨(some 80), none, 0, false, .mv (T 6)⟩,
 ⟨(some 81), none, 0, false, .mv (T 4)⟩,
 ⟨(some 82), none, 0, false, .mv (T 7)⟩,
 ⟨(some 83), none, 6, false, .iaddr 1 (T 81) (T 82)⟩,
 ⟨(some 84), none, 14, false, .load none (T 83)⟩,
 ⟨(some 85), none, 0, false, .mv (T 8)⟩,
 ⟨(some 86), none, 0, false, .mv (T 4)⟩,
 ⟨(some 87), none, 0, false, .mv (T 7)⟩,
 ⟨(some 88), none, 192, false, .iaddr 1 (T 86) (T 87)⟩,
 ⟨(some 89), none, 448, false, .load none (T 88)⟩,
 ⟨(some 90), none, 992, false, .bin .sub (T 85) (T 89)⟩,
 ⟨(some 91), none, 2047, true, .call 30 [(T 80), (T 84), (T 90)]⟩,
 ⟨(some 79), none, 4095, false, .mv (T 91)⟩,
 ⟨(some 92), none, 8191, false, .ext (T 79) 0⟩,
 ⟨(some 93), none, 8191, false, .ext (T 79) 1⟩,
 ⟨(some 10), none, 16383, false, .mv (T 92)⟩,
 ⟨(some 11), none, 65535, false, .mv (T 93)⟩])
 (.seq (.drawn [
 ⟨(some 94), none, 0, false, .mv (T 11)⟩,
 ⟨(some 95), none, 1, false, .un .not (T 94)⟩,
 ⟨(some 96), none, 3, false, .mv (T 95)⟩,
 ⟨(some 97), (some (96, false)), 7, false, .mv (T 10)⟩,
 ⟨(some 98), (some (96, false)), 7, false, .mv (T 9)⟩,
 ⟨(some 99), (some (96, false)), 31, false, .bin .neq (T 97) (T 98)⟩,
 ⟨(some 100), none, 63, false, .pick (T 96) (C (.bool true)) (T 99)⟩,
 ⟨(some 101), none, 127, false, .mv (T 100)⟩,
 ⟨(some 102), (some (101, false)), 255, false, .mv (T 0)⟩,
 ⟨(some 103), (some (101, false)), 255, false, .mv (T 7)⟩,
 ⟨(some 104), (some (101, false)), 1023, false, .iaddr 3 (T 102) (T 103)⟩,
 ⟨(some 105), (some (101, false)), 2047, false, .faddr 2 (T 104)⟩,
 ⟨(some 106), (some (101, false)), 4095, true, .load none (T 105)⟩,
 ⟨(some 107), (some (101, false)), 8191, false, .un .not (T 106)⟩,
 ⟨(some 108), (some (101, false)), 16383, false, .mv (T 107)⟩,
 ⟨(some 109), (some (108, true)), 32767, false, .mv (T 8)⟩,
 ⟨(some 110), (some (108, true)), 32767, false, .mv (T 4)⟩,
 ⟨(some 111), (some (108, true)), 32767, false, .mv (T 7)⟩,
 ⟨(some 112), (some (108, true)), 229375, false, .iaddr 1 (T 110) (T 111)⟩,
 ⟨(some 113), (some (108, true)), 491519, false, .load none (T 112)⟩,
 ⟨(some 114), (some (108, true)), 1048575, false, .bin .sub (T 109) (T 113)⟩,
 ⟨(some 115), (some (108, true)), 32767, false, .mv (T 0)⟩,
 ⟨(some 116), (some (108, true)), 32767, false, .mv (T 7)⟩,
 ⟨(some 117), (some (108, true)), 6324223, false, .iaddr 3 (T 115) (T 116)⟩,
 ⟨(some 118), (some (108, true)), 14712831, false, .faddr 1 (T 117)⟩,
 ⟨(some 119), (some (108, true)), 31490047, false, .load none (T 118)⟩,
 ⟨(some 120), (some (108, true)), 67108863, false, .bin .neq (T 114) (T 119)⟩,
 ⟨(some 121), (some (101, false)), 134217727, false, .pick (T 108) (T 120) (C (.bool false))⟩,
 ⟨(some 122), none, 268435455, false, .pick (T 101) (C (.bool true)) (T 121)⟩,
 ⟨(some 123), none, 536870911, false, .mv (T 122)⟩,
 ⟨(some 124), (some (123, false)), 1073741823, false, .mv (T 0)⟩,
 ⟨(some 125), (some (123, false)), 1073741823, false, .mv (T 7)⟩,
 ⟨(some 126), (some (123, false)), 4294967295, false, .iaddr 3 (T 124) (T 125)⟩,
 ⟨(some 127), (some (123, false)), 8589934591, false, .faddr 2 (T 126)⟩,
 ⟨(some 128), (some (123, false)), 17179869183, true, .load none (T 127)⟩,
 ⟨(some 129), (some (123, false)), 34359738367, false, .mv (T 128)⟩,
 ⟨(some 130), (some (129, true)), 68719476735, false, .mv (T 8)⟩,
 ⟨(some 131), (some (129, true)), 137438953471, false, .bin .rem (T 130) (C (.int .i64 8))⟩,
 ⟨(some 132), (some (129, true)), 274877906943, false, .bin .neq (T 131) (C (.int .i64 0))⟩,
 ⟨(some 133), (some (123, false)), 549755813887, false, .pick (T 129) (T 132) (C (.bool false))⟩,
 ⟨(some 134), none, 1099511627775, false, .pick (T 123) (C (.bool true)) (T 133)⟩])
 (.cond (T 134)
 (.seq (.region [
 D 2 (.mv (C (.bool false)))])
 .ret)
 .skip)))))))))
 (.region [
 D 49 (.mv (T 7)),
 D 50 (.bin .add (T 49) (C (.int .i64 1))),
 D 7 (.mv (T 50))])))
/-- a loop of winepress/winepresslaw02.BitWriterBack; it keeps [4, 5, 3, 0] -/
def lb9_1 : ACode := (.seq (.seq (.region [
 D 19 (.mv (T 5)),
 D 20 (.mv (T 0)),
 D 21 (.len (T 20)),
 D 22 (.bin .lss (T 19) (T 21))])
 (.cond (T 22)
 .skip
 (.exit 0)))
 (.seq (.block 1 (.seq (.region [
 D 25 (.mv (T 4)),
 D 26 (.mv (T 3)),
 D 27 (.call 27 [(T 26)]),
 D 28 (.bslice true 1 1 [(.int .i64 0)] [(0, 1, (T 27))]),
 D 29 (.append true 1 (T 25) (T 28)),
 D 4 (.mv (T 29))])
 (.region [
 D 30 (.mv (T 3)),
 D 31 (.mv (T 0)),
 D 32 (.mv (T 5)),
 D 33 (.iaddr 3 (T 31) (T 32)),
 D 34 (.load (some 3) (T 33)),
 D 35 (.call 24 [(T 30), (T 34)])])))
 (.region [
 D 23 (.mv (T 5)),
 D 24 (.bin .add (T 23) (C (.int .i64 1))),
 D 5 (.mv (T 24))])))
/-- winepress/winepresslaw02.BitWriterBack -/
def ac9 : AFn := ⟨(.seq (.region [
 D 2 (.mv (C (.bool false)))])
 (.seq (.seq (.region [
 D 14 (.mv (T 0)),
 D 15 (.len (T 14)),
 D 16 (.bin .gtr (T 15) (C (.int .i64 60)))])
 (.cond (T 16)
 (.seq (.region [
 D 17 (.call 22 []),
 D 2 (.mv (T 17))])
 .ret)
 .skip))
 (.seq (.region [
 D 18 (.call 23 []),
 D 3 (.mv (T 18))])
 (.seq (.region [
 D 4 (.mv (C (.slice none 0 0)))])
 (.seq (.seq (.region [
 D 5 (.mv (C (.int .i64 0)))])
 (.block 0 (.loop [4, 5, 3, 0] lb9_1)))
 (.seq (.region [
 D 36 (.mv (T 3)),
 D 37 (.call 28 [(T 36)]),
 D 6 (.mv (T 37))])
 (.seq (.seq (.region [
 D 38 (.mv (T 6)),
 D 39 (.len (T 38)),
 D 40 (.mv (T 3)),
 D 41 (.call 27 [(T 40)]),
 D 42 (.bin .add (T 41) (C (.int .i64 7))),
 D 43 (.bin .quo (T 42) (C (.int .i64 8))),
 D 44 (.bin .neq (T 39) (T 43))])
 (.cond (T 44)
 (.seq (.region [
 D 2 (.mv (C (.bool false)))])
 .ret)
 .skip))
 (.seq (.seq (.region [
 D 7 (.mv (C (.int .i64 0)))])
 (.block 2 (.loop [7, 3, 0, 4, 6] lb9_0)))
 (.seq (.region [
 D 136 (.mv (T 6)),
 D 137 (.mv (T 3)),
 D 138 (.call 27 [(T 137)]),
 D 139 (.mv (T 6)),
 D 140 (.len (T 139)),
 D 141 (.bin .mul (C (.int .i64 8)) (T 140)),
 D 142 (.mv (T 3)),
 D 143 (.call 27 [(T 142)]),
 D 144 (.bin .sub (T 141) (T 143)),
 D 145 (.call 30 [(T 136), (T 138), (T 144)]),
 D 135 (.mv (T 145)),
 D 146 (.ext (T 135) 0),
 D 147 (.ext (T 135) 1),
 D 12 (.mv (T 146)),
 D 13 (.mv (T 147))])
 (.seq (.region [
 D 148 (.mv (T 13)),
 D 149 (.mv (T 148)),
 ⟨(some 150), (some (149, true)), 0, true, .mv (T 12)⟩,
 ⟨(some 151), (some (149, true)), 0, true, .bin .eql (T 150) (C (.int .u32 0))⟩,
 D 152 (.pick (T 149) (T 151) (C (.bool false))),
 D 153 (.mv (T 152)),
 ⟨(some 154), (some (153, true)), 0, true, .call 22 []⟩,
 D 155 (.pick (T 153) (T 154) (C (.bool false))),
 D 2 (.mv (T 155))])
 .ret)))))))))), [.tmp 2]⟩
theorem ac9_ok : compFn Try.prog Try.f9 = some ac9 := by kernel_rfl
/-- winepress/winepresslaw02.BitWriterParts -/
def ac10 : AFn := ⟨(.seq (.region [
 D 6 (.mv (C (.bool false)))])
 (.seq (.region [
 D 13 (.call 23 []),
 D 14 (.call 23 []),
 D 7 (.mv (T 13)),
 D 8 (.mv (T 14))])
 (.seq (.region [
 D 15 (.mv (T 7)),
 D 16 (.mv (T 0)),
 D 17 (.mv (T 1)),
 D 18 (.call 35 [(T 15), (T 16), (T 17)]),
 D 9 (.mv (T 18))])
 (.seq (.seq (.region [
 D 19 (.mv (T 1)),
 D 20 (.bin .lss (T 19) (C (.int .i64 0))),
 D 21 (.mv (T 20)),
 ⟨(some 22), (some (21, false)), 0, true, .mv (T 1)⟩,
 ⟨(some 23), (some (21, false)), 0, true, .bin .gtr (T 22) (C (.int .i64 32))⟩,
 D 24 (.pick (T 21) (C (.bool true)) (T 23)),
 D 25 (.mv (T 24)),
 ⟨(some 26), (some (25, false)), 0, true, .mv (T 0)⟩,
 ⟨(some 27), (some (25, false)), 0, true, .conv .u64 (T 26)⟩,
 ⟨(some 28), (some (25, false)), 0, true, .mv (T 1)⟩,
 ⟨(some 29), (some (25, false)), 0, true, .mm true [(T 28), (C (.int .i64 0))]⟩,
 ⟨(some 30), (some (25, false)), 0, true, .mm false [(T 29), (C (.int .i64 32))]⟩,
 ⟨(some 31), (some (25, false)), 0, true, .conv .u64 (T 30)⟩,
 ⟨(some 32), (some (25, false)), 0, true, .bin .shl (C (.int .u64 1)) (T 31)⟩,
 ⟨(some 33), (some (25, false)), 0, true, .bin .geq (T 27) (T 32)⟩,
 D 34 (.pick (T 25) (C (.bool true)) (T 33))])
 (.cond (T 34)
 (.seq (.region [
 D 35 (.mv (T 9)),
 D 36 (.un .not (T 35)),
 D 37 (.mv (T 36)),
 ⟨(some 38), (some (37, true)), 0, true, .mv (T 7)⟩,
 ⟨(some 39), (some (37, true)), 0, true, .call 27 [(T 38)]⟩,
 ⟨(some 40), (some (37, true)), 0, true, .bin .eql (T 39) (C (.int .i64 0))⟩,
 D 41 (.pick (T 37) (T 40) (C (.bool false))),
 D 42 (.mv (T 41)),
 ⟨(some 43), (some (42, true)), 0, true, .mv (T 7)⟩,
 ⟨(some 44), (some (42, true)), 0, true, .call 28 [(T 43)]⟩,
 ⟨(some 45), (some (42, true)), 0, true, .len (T 44)⟩,
 ⟨(some 46), (some (42, true)), 0, true, .bin .eql (T 45) (C (.int .i64 0))⟩,
 D 47 (.pick (T 42) (T 46) (C (.bool false))),
 D 48 (.mv (T 47)),
 ⟨(some 49), (some (48, true)), 0, true, .call 22 []⟩,
 D 50 (.pick (T 48) (T 49) (C (.bool false))),
 D 6 (.mv (T 50))])
 .ret)
 .skip))
 (.seq (.region [
 D 51 (.mv (T 2)),
 D 52 (.mm true [(T 51), (C (.int .i64 0))]),
 D 53 (.mv (T 1)),
 D 54 (.mm false [(T 52), (T 53)]),
 D 2 (.mv (T 54))])
 (.seq (.region [
 D 55 (.mv (T 0)),
 D 56 (.conv .u64 (T 55)),
 D 57 (.mv (T 2)),
 D 58 (.conv .u64 (T 57)),
 D 59 (.bin .shr (T 56) (T 58)),
 D 60 (.conv .u32 (T 59)),
 D 10 (.mv (T 60))])
 (.seq (.region [
 D 61 (.mv (T 8)),
 D 62 (.mv (T 10)),
 D 63 (.mv (T 1)),
 D 64 (.mv (T 2)),
 D 65 (.bin .sub (T 63) (T 64)),
 D 66 (.call 35 [(T 61), (T 62), (T 65)]),
 D 11 (.mv (T 66))])
 (.seq (.region [
 D 67 (.mv (T 8)),
 D 68 (.mv (T 0)),
 D 69 (.conv .u64 (T 68)),
 D 70 (.mv (T 2)),
 D 71 (.conv .u64 (T 70)),
 D 72 (.bin .shl (C (.int .u64 1)) (T 71)),
 D 73 (.bin .sub (T 72) (C (.int .u64 1))),
 D 74 (.bin .and (T 69) (T 73)),
 D 75 (.conv .u32 (T 74)),
 D 76 (.mv (T 2)),
 D 77 (.call 35 [(T 67), (T 75), (T 76)]),
 D 12 (.mv (T 77))])
 (.seq (.drawn [
 ⟨(some 78), none, 0, false, .mv (T 9)⟩,
 ⟨(some 79), none, 1, false, .mv (T 78)⟩,
 ⟨(some 80), (some (79, true)), 3, false, .mv (T 11)⟩,
 ⟨(some 81), none, 7, false, .pick (T 79) (T 80) (C (.bool false))⟩,
 ⟨(some 82), none, 15, false, .mv (T 81)⟩,
 ⟨(some 83), (some (82, true)), 31, false, .mv (T 12)⟩,
 ⟨(some 84), none, 63, false, .pick (T 82) (T 83) (C (.bool false))⟩,
 ⟨(some 85), none, 127, false, .mv (T 84)⟩,
 ⟨(some 86), (some (85, true)), 255, false, .mv (T 7)⟩,
 ⟨(some 87), (some (85, true)), 511, true, .call 27 [(T 86)]⟩,
 ⟨(some 88), (some (85, true)), 255, false, .mv (T 1)⟩,
 ⟨(some 89), (some (85, true)), 2047, false, .bin .eql (T 87) (T 88)⟩,
 ⟨(some 90), none, 4095, false, .pick (T 85) (T 89) (C (.bool false))⟩,
 ⟨(some 91), none, 8191, false, .mv (T 90)⟩,
 ⟨(some 92), (some (91, true)), 16383, false, .mv (T 8)⟩,
 ⟨(some 93), (some (91, true)), 32767, true, .call 27 [(T 92)]⟩,
 ⟨(some 94), (some (91, true)), 16383, false, .mv (T 1)⟩,
 ⟨(some 95), (some (91, true)), 131071, false, .bin .eql (T 93) (T 94)⟩,
 ⟨(some 96), none, 262143, false, .pick (T 91) (T 95) (C (.bool false))⟩,
 ⟨(some 97), none, 524287, false, .mv (T 96)⟩,
 ⟨(some 98), (some (97, true)), 1048575, false, .mv (T 7)⟩,
 ⟨(some 99), (some (97, true)), 2097151, true, .call 28 [(T 98)]⟩,
 ⟨(some 100), (some (97, true)), 4194303, false, .bstr (T 99)⟩,
 ⟨(some 101), (some (97, true)), 1048575, false, .mv (T 8)⟩,
 ⟨(some 102), (some (97, true)), 12582911, false, .call 28 [(T 101)]⟩,
 ⟨(some 103), (some (97, true)), 29360127, false, .bstr (T 102)⟩,
 ⟨(some 104), (some (97, true)), 67108863, false, .bin .eql (T 100) (T 103)⟩,
 ⟨(some 105), none, 134217727, false, .pick (T 97) (T 104) (C (.bool false))⟩,
 ⟨(some 106), none, 268435455, false, .mv (T 105)⟩,
 ⟨(some 107), (some (106, true)), 536870911, true, .call 22 []⟩,
 ⟨(some 108), none, 1073741823, false, .pick (T 106) (T 107) (C (.bool false))⟩,
 ⟨(some 6), none, 2147483647, false, .mv (T 108)⟩])
 .ret))))))))), [.tmp 6]⟩
theorem ac10_ok : compFn Try.prog Try.f10 = some ac10 := by kernel_rfl
/-- a loop of winepress/winepresslaw02.BitWriterOf; it keeps [0, 4, 6] -/
def lb11_0 : ACode := (.seq (.seq (.region [
 D 50 (.mv (T 6)),
 D 51 (.mv (T 0)),
 D 52 (.len (T 51)),
 D 53 (.bin .lss (T 50) (T 52))])
 (.cond (T 53)
 .skip
 (.exit 2)))
 (.seq (.block 3 (.seq (.region [
 D 57 (.mv (T 0)),
 D 58 (.mv (T 6)),
 D 59 (.bin .mul (C (.int .i64 8)) (T 58)),
 D 60 (.call 30 [(T 57), (T 59), (C (.int .i64 8))]),
 D 56 (.mv (T 60)),
 D 61 (.ext (T 56) 0),
 D 62 (.ext (T 56) 1),
 D 7 (.mv (T 61)),
 D 8 (.mv (T 62))])
 (.seq (.region [
 D 63 (.mv (T 8)),
 D 64 (.un .not (T 63)),
 D 65 (.mv (T 64)),
 ⟨(some 66), (some (65, false)), 0, true, .mv (T 7)⟩,
 ⟨(some 67), (some (65, false)), 0, true, .mv (T 0)⟩,
 ⟨(some 68), (some (65, false)), 0, true, .mv (T 6)⟩,
 ⟨(some 69), (some (65, false)), 0, true, .iaddr 1 (T 67) (T 68)⟩,
 ⟨(some 70), (some (65, false)), 0, true, .load none (T 69)⟩,
 ⟨(some 71), (some (65, false)), 0, true, .conv .u32 (T 70)⟩,
 ⟨(some 72), (some (65, false)), 0, true, .bin .neq (T 66) (T 71)⟩,
 D 73 (.pick (T 65) (C (.bool true)) (T 72))])
 (.cond (T 73)
 (.seq (.region [
 D 2 (.mv (C (.bool false)))])
 .ret)
 .skip))))
 (.region [
 D 54 (.mv (T 6)),
 D 55 (.bin .add (T 54) (C (.int .i64 1))),
 D 6 (.mv (T 55))])))
/-- a loop of winepress/winepresslaw02.BitWriterOf; it keeps [3, 4, 0, 5] -/
def lb11_1 : ACode := (.seq (.seq (.region [
 D 22 (.mv (T 5)),
 D 23 (.mv (T 3)),
 D 24 (.len (T 23)),
 D 25 (.bin .lss (T 22) (T 24))])
 (.cond (T 25)
 .skip
 (.exit 0)))
 (.seq (.block 1 (.seq (.region [
 D 28 (.mv (T 3)),
 D 29 (.mv (T 5)),
 D 30 (.iaddr 1 (T 28) (T 29)),
 D 31 (.load none (T 30)),
 D 32 (.bin .lss (T 31) (C (.int .i64 0))),
 D 33 (.mv (T 32)),
 ⟨(some 34), (some (33, false)), 0, true, .mv (T 3)⟩,
 ⟨(some 35), (some (33, false)), 0, true, .mv (T 5)⟩,
 ⟨(some 36), (some (33, false)), 0, true, .iaddr 1 (T 34) (T 35)⟩,
 ⟨(some 37), (some (33, false)), 0, true, .load none (T 36)⟩,
 ⟨(some 38), (some (33, false)), 0, true, .bin .gtr (T 37) (C (.int .i64 1))⟩,
 D 39 (.pick (T 33) (C (.bool true)) (T 38)),
 D 40 (.mv (T 39)),
 ⟨(some 41), (some (40, false)), 0, true, .mv (T 4)⟩,
 ⟨(some 42), (some (40, false)), 0, true, .mv (T 3)⟩,
 ⟨(some 43), (some (40, false)), 0, true, .mv (T 5)⟩,
 ⟨(some 44), (some (40, false)), 0, true, .iaddr 1 (T 42) (T 43)⟩,
 ⟨(some 45), (some (40, false)), 0, true, .load none (T 44)⟩,
 ⟨(some 46), (some (40, false)), 0, true, .conv .u32 (T 45)⟩,
 ⟨(some 47), (some (40, false)), 0, true, .call 35 [(T 41), (T 46), (C (.int .i64 1))]⟩,
 ⟨(some 48), (some (40, false)), 0, true, .un .not (T 47)⟩,
 D 49 (.pick (T 40) (C (.bool true)) (T 48))])
 (.cond (T 49)
 (.seq (.region [
 D 2 (.mv (C (.bool false)))])
 .ret)
 .skip)))
 (.region [
 D 26 (.mv (T 5)),
 D 27 (.bin .add (T 26) (C (.int .i64 1))),
 D 5 (.mv (T 27))])))
/-- winepress/winepresslaw02.BitWriterOf -/
def ac11 : AFn := ⟨(.seq (.region [
 D 2 (.mv (C (.bool false)))])
 (.seq (.seq (.region [
 D 9 (.mv (T 0)),
 D 10 (.len (T 9)),
 D 11 (.bin .gtr (T 10) (C (.int .i64 300)))])
 (.cond (T 11)
 (.seq (.region [
 D 12 (.call 22 []),
 D 2 (.mv (T 12))])
 .ret)
 .skip))
 (.seq (.region [
 D 13 (.mv (T 0)),
 D 14 (.call 33 [(T 13)]),
 D 3 (.mv (T 14))])
 (.seq (.region [
 D 15 (.call 23 []),
 D 4 (.mv (T 15))])
 (.seq (.seq (.region [
 D 16 (.mv (T 3)),
 D 17 (.len (T 16)),
 D 18 (.mv (T 0)),
 D 19 (.len (T 18)),
 D 20 (.bin .mul (C (.int .i64 8)) (T 19)),
 D 21 (.bin .neq (T 17) (T 20))])
 (.cond (T 21)
 (.seq (.region [
 D 2 (.mv (C (.bool false)))])
 .ret)
 .skip))
 (.seq (.seq (.region [
 D 5 (.mv (C (.int .i64 0)))])
 (.block 0 (.loop [3, 4, 0, 5] lb11_1)))
 (.seq (.seq (.region [
 D 6 (.mv (C (.int .i64 0)))])
 (.block 2 (.loop [0, 4, 6] lb11_0)))
 (.seq (.drawn [
 ⟨(some 74), none, 0, false, .mv (T 4)⟩,
 ⟨(some 75), none, 1, false, .call 28 [(T 74)]⟩,
 ⟨(some 76), none, 3, false, .bstr (T 75)⟩,
 ⟨(some 77), none, 0, false, .mv (T 0)⟩,
 ⟨(some 78), none, 8, false, .bstr (T 77)⟩,
 ⟨(some 79), none, 31, false, .bin .eql (T 76) (T 78)⟩,
 ⟨(some 80), none, 63, false, .mv (T 79)⟩,
 ⟨(some 81), (some (80, true)), 127, false, .mv (T 4)⟩,
 ⟨(some 82), (some (80, true)), 255, true, .call 36 [(T 81)]⟩,
 ⟨(some 83), (some (80, true)), 511, false, .bin .eql (T 82) (C (.int .i64 0))⟩,
 ⟨(some 84), none, 1023, false, .pick (T 80) (T 83) (C (.bool false))⟩,
 ⟨(some 85), none, 2047, false, .mv (T 84)⟩,
 ⟨(some 86), (some (85, true)), 4095, true, .call 22 []⟩,
 ⟨(some 87), none, 8191, false, .pick (T 85) (T 86) (C (.bool false))⟩,
 ⟨(some 2), none, 16383, false, .mv (T 87)⟩])
 .ret)))))))), [.tmp 2]⟩
theorem ac11_ok : compFn Try.prog Try.f11 = some ac11 := by kernel_rfl
/-- winepress/winepresslaw02.wakes -/
def ac22 : AFn := ⟨(.seq (.region [
 D 0 (.mv (C (.bool false)))])
 (.seq (.region [
 D 16 (.call 23 []),
 D 1 (.mv (T 16))])
 (.seq (.region [
 D 17 (.mv (T 1)),
 D 18 (.call 35 [(T 17), (C (.int .u32 5)), (C (.int .i64 3))]),
 D 19 (.mv (T 1)),
 D 20 (.call 35 [(T 19), (C (.int .u32 1)), (C (.int .i64 2))]),
 D 21 (.mv (T 1)),
 D 22 (.call 35 [(T 21), (C (.int .u32 4)), (C (.int .i64 2))]),
 D 2 (.mv (T 18)),
 D 3 (.mv (T 20)),
 D 4 (.mv (T 22))])
 (.seq (.drawn [
 ⟨(some 23), none, 0, false, .mv (T 1)⟩,
 ⟨(some 24), none, 1, true, .call 27 [(T 23)]⟩,
 ⟨(some 25), none, 0, false, .mv (T 1)⟩,
 ⟨(some 26), none, 7, true, .call 28 [(T 25)]⟩,
 ⟨(some 27), none, 15, true, .bstr (T 26)⟩,
 ⟨(some 5), none, 15, false, .mv (T 24)⟩,
 ⟨(some 6), none, 63, false, .mv (T 27)⟩])
 (.seq (.region [
 D 28 (.mv (T 1)),
 D 29 (.call 36 [(T 28)]),
 D 30 (.mv (T 1)),
 D 31 (.call 36 [(T 30)]),
 D 7 (.mv (T 29)),
 D 8 (.mv (T 31))])
 (.seq (.region [
 D 33 (.bslice true 1 1 [(.int .u8 0)] [(0, 1, (C (.int .u8 168)))]),
 D 34 (.call 30 [(T 33), (C (.int .i64 0)), (C (.int .i64 3))]),
 D 32 (.mv (T 34)),
 D 35 (.ext (T 32) 0),
 D 36 (.ext (T 32) 1),
 D 9 (.mv (T 35)),
 D 10 (.mv (T 36))])
 (.seq (.region [
 D 38 (.bslice true 1 1 [(.int .u8 0)] [(0, 1, (C (.int .u8 168)))]),
 D 39 (.call 30 [(T 38), (C (.int .i64 3)), (C (.int .i64 2))]),
 D 37 (.mv (T 39)),
 D 40 (.ext (T 37) 0),
 D 41 (.ext (T 37) 1),
 D 11 (.mv (T 40)),
 D 12 (.mv (T 41))])
 (.seq (.region [
 D 43 (.bslice true 1 1 [(.int .u8 0)] [(0, 1, (C (.int .u8 168)))]),
 D 44 (.call 30 [(T 43), (C (.int .i64 7)), (C (.int .i64 2))]),
 D 42 (.mv (T 44)),
 D 45 (.ext (T 42) 0),
 D 46 (.ext (T 42) 1),
 D 13 (.mv (T 45)),
 D 14 (.mv (T 46))])
 (.seq (.region [
 D 15 (.mv (C (.pointer none)))])
 (.seq (.region [
 D 47 (.mv (T 2)),
 D 48 (.mv (T 47)),
 ⟨(some 49), (some (48, true)), 0, true, .mv (T 3)⟩,
 D 50 (.pick (T 48) (T 49) (C (.bool false))),
 D 51 (.mv (T 50)),
 ⟨(some 52), (some (51, true)), 0, true, .mv (T 4)⟩,
 ⟨(some 53), (some (51, true)), 0, true, .un .not (T 52)⟩,
 D 54 (.pick (T 51) (T 53) (C (.bool false))),
 D 55 (.mv (T 54)),
 ⟨(some 56), (some (55, true)), 0, true, .mv (T 5)⟩,
 ⟨(some 57), (some (55, true)), 0, true, .bin .eql (T 56) (C (.int .i64 5))⟩,
 D 58 (.pick (T 55) (T 57) (C (.bool false))),
 D 59 (.mv (T 58)),
 ⟨(some 60), (some (59, true)), 0, true, .mv (T 6)⟩,
 ⟨(some 61), (some (59, true)), 0, true, .bin .eql (T 60) (C (.string ⟨#[168]⟩))⟩,
 D 62 (.pick (T 59) (T 61) (C (.bool false))),
 D 63 (.mv (T 62)),
 ⟨(some 64), (some (63, true)), 0, true, .mv (T 7)⟩,
 ⟨(some 65), (some (63, true)), 0, true, .bin .eql (T 64) (C (.int .i64 3))⟩,
 D 66 (.pick (T 63) (T 65) (C (.bool false))),
 D 67 (.mv (T 66)),
 ⟨(some 68), (some (67, true)), 0, true, .mv (T 8)⟩,
 ⟨(some 69), (some (67, true)), 0, true, .bin .eql (T 68) (C (.int .i64 0))⟩,
 D 70 (.pick (T 67) (T 69) (C (.bool false))),
 D 71 (.mv (T 70)),
 ⟨(some 72), (some (71, true)), 0, true, .mv (T 1)⟩,
 ⟨(some 73), (some (71, true)), 0, true, .call 27 [(T 72)]⟩,
 ⟨(some 74), (some (71, true)), 0, true, .bin .eql (T 73) (C (.int .i64 8))⟩,
 D 75 (.pick (T 71) (T 74) (C (.bool false))),
 D 76 (.mv (T 75)),
 ⟨(some 77), (some (76, true)), 0, true, .mv (T 1)⟩,
 ⟨(some 78), (some (76, true)), 0, true, .call 28 [(T 77)]⟩,
 ⟨(some 79), (some (76, true)), 0, true, .bstr (T 78)⟩,
 ⟨(some 80), (some (76, true)), 0, true, .bin .eql (T 79) (C (.string ⟨#[168]⟩))⟩,
 D 81 (.pick (T 76) (T 80) (C (.bool false))),
 D 82 (.mv (T 81)),
 ⟨(some 83), (some (82, true)), 0, true, .mv (T 10)⟩,
 D 84 (.pick (T 82) (T 83) (C (.bool false))),
 D 85 (.mv (T 84)),
 ⟨(some 86), (some (85, true)), 0, true, .mv (T 9)⟩,
 ⟨(some 87), (some (85, true)), 0, true, .bin .eql (T 86) (C (.int .u32 5))⟩,
 D 88 (.pick (T 85) (T 87) (C (.bool false))),
 D 89 (.mv (T 88)),
 ⟨(some 90), (some (89, true)), 0, true, .mv (T 12)⟩,
 D 91 (.pick (T 89) (T 90) (C (.bool false))),
 D 92 (.mv (T 91)),
 ⟨(some 93), (some (92, true)), 0, true, .mv (T 11)⟩,
 ⟨(some 94), (some (92, true)), 0, true, .bin .eql (T 93) (C (.int .u32 1))⟩,
 D 95 (.pick (T 92) (T 94) (C (.bool false))),
 D 96 (.mv (T 95)),
 ⟨(some 97), (some (96, true)), 0, true, .mv (T 14)⟩,
 ⟨(some 98), (some (96, true)), 0, true, .un .not (T 97)⟩,
 D 99 (.pick (T 96) (T 98) (C (.bool false))),
 D 100 (.mv (T 99)),
 ⟨(some 101), (some (100, true)), 0, true, .bslice true 1 1 [(.int .u8 0)] [(0, 1, (C (.int .u8 168)))]⟩,
 ⟨(some 102), (some (100, true)), 0, true, .call 33 [(T 101)]⟩,
 ⟨(some 103), (some (100, true)), 0, true, .bslice true 1 8 (List.replicate 8 (.int .i64 0)) [(0, 1, (C (.int .i64 1))), (1, 1, (C (.int .i64 0))), (2, 1, (C (.int .i64 1))), (3, 1, (C (.int .i64 0))), (4, 1, (C (.int .i64 1))), (5, 1, (C (.int .i64 0))), (6, 1, (C (.int .i64 0))), (7, 1, (C (.int .i64 0)))]⟩,
 ⟨(some 104), (some (100, true)), 0, true, .call 32 [(T 102), (T 103)]⟩,
 D 105 (.pick (T 100) (T 104) (C (.bool false))),
 D 106 (.mv (T 105)),
 ⟨(some 107), (some (106, true)), 0, true, .mv (T 15)⟩,
 ⟨(some 108), (some (106, true)), 0, true, .call 35 [(T 107), (C (.int .u32 0)), (C (.int .i64 0))]⟩,
 ⟨(some 109), (some (106, true)), 0, true, .un .not (T 108)⟩,
 D 110 (.pick (T 106) (T 109) (C (.bool false))),
 D 111 (.mv (T 110)),
 ⟨(some 112), (some (111, true)), 0, true, .mv (T 15)⟩,
 ⟨(some 113), (some (111, true)), 0, true, .call 27 [(T 112)]⟩,
 ⟨(some 114), (some (111, true)), 0, true, .bin .eql (T 113) (C (.int .i64 0))⟩,
 D 115 (.pick (T 111) (T 114) (C (.bool false))),
 D 116 (.mv (T 115)),
 ⟨(some 117), (some (116, true)), 0, true, .mv (T 1)⟩,
 ⟨(some 118), (some (116, true)), 0, true, .call 35 [(T 117), (C (.int .u32 4294967295)), (C (.int .i64 32))]⟩,
 D 119 (.pick (T 116) (T 118) (C (.bool false))),
 D 120 (.mv (T 119)),
 ⟨(some 121), (some (120, true)), 0, true, .mv (T 1)⟩,
 ⟨(some 122), (some (120, true)), 0, true, .call 35 [(T 121), (C (.int .u32 0)), (C (.int .i64 33))]⟩,
 ⟨(some 123), (some (120, true)), 0, true, .un .not (T 122)⟩,
 D 124 (.pick (T 120) (T 123) (C (.bool false))),
 D 0 (.mv (T 124))])
 .ret)))))))))), [.tmp 0]⟩
theorem ac22_ok : compFn Try.prog Try.f22 = some ac22 := by kernel_rfl
/-- winepress/bitwriter.New -/
def ac23 : AFn := ⟨(.seq (.region [
 D 0 (.mv (C (.pointer none)))])
 (.seq (.region [
 D 1 (.build [(.slice none 0 0), (.int .i64 0)] []),
 D 2 (.box false (T 1)),
 D 0 (.mv (T 2))])
 .ret)), [.tmp 0]⟩
theorem ac23_ok : compFn Try.prog Try.f23 = some ac23 := by kernel_rfl
/-- winepress/winepresslaw02.does -/
def ac24 : AFn := ⟨(.seq (.region [
 D 3 (.box true (T 1)),
 D 4 (.mv (C (.int .i64 0))),
 D 5 (.mv (C (.bool false)))])
 (.seq (.seq (.region [
 D 6 (.faddr 2 (T 3)),
 D 7 (.load none (T 6))])
 (.cond (T 7)
 (.seq (.region [
 D 8 (.mv (T 0)),
 D 9 (.call 36 [(T 8)]),
 D 4 (.mv (T 9)),
 D 5 (.mv (C (.bool true)))])
 .ret)
 .skip))
 (.seq (.region [
 D 10 (.mv (T 0)),
 D 11 (.faddr 0 (T 3)),
 D 12 (.load none (T 11)),
 D 13 (.faddr 1 (T 3)),
 D 14 (.load none (T 13)),
 D 15 (.call 35 [(T 10), (T 12), (T 14)]),
 D 4 (.mv (C (.int .i64 0))),
 D 5 (.mv (T 15))])
 .ret))), [.tmp 4, .tmp 5]⟩
theorem ac24_ok : compFn Try.prog Try.f24 = some ac24 := by kernel_rfl
/-- a loop of (*winepress/winepressref02.Writer).Pad; it keeps [3, 0] -/
def lb25_0 : ACode := (.seq (.seq (.region [
 D 4 (.mv (T 0)),
 D 5 (.nilck (T 4)),
 D 6 (.faddr 0 (T 5)),
 D 7 (.load none (T 6)),
 D 8 (.len (T 7)),
 D 9 (.bin .rem (T 8) (C (.int .i64 8))),
 D 10 (.bin .neq (T 9) (C (.int .i64 0)))])
 (.cond (T 10)
 .skip
 (.exit 0)))
 (.block 1 (.seq (.region [
 D 11 (.mv (T 0)),
 D 12 (.mv (T 0)),
 D 13 (.nilck (T 12)),
 D 14 (.faddr 0 (T 13)),
 D 15 (.load none (T 14)),
 D 16 (.bslice true 1 1 [(.int .i64 0)] [(0, 1, (C (.int .i64 0)))]),
 D 17 (.append true 1 (T 15) (T 16)),
 D 18 (.nilck (T 11)),
 D 19 (.faddr 0 (T 18)),
 E (.store 1 (T 19) (T 17))])
 (.region [
 D 20 (.mv (T 3)),
 D 21 (.bin .add (T 20) (C (.int .i64 1))),
 D 3 (.mv (T 21))]))))
/-- (*winepress/winepressref02.Writer).Pad -/
def ac25 : AFn := ⟨(.seq (.region [
 D 2 (.mv (C (.int .i64 0)))])
 (.seq (.region [
 D 3 (.mv (C (.int .i64 0)))])
 (.seq (.block 0 (.loop [3, 0] lb25_0))
 (.seq (.region [
 D 22 (.mv (T 3)),
 D 2 (.mv (T 22))])
 .ret)))), [.tmp 2]⟩
theorem ac25_ok : compFn Try.prog Try.f25 = some ac25 := by kernel_rfl
/-- (*winepress/winepressref02.Writer).Put -/
def ac26 : AFn := ⟨(.seq (.region [
 D 6 (.mv (C (.bool false)))])
 (.seq (.region [
 D 10 (.mv (T 1)),
 D 11 (.mv (T 2)),
 D 12 (.call 40 [(T 10), (T 11)]),
 D 9 (.mv (T 12)),
 D 13 (.ext (T 9) 0),
 D 14 (.ext (T 9) 1),
 D 7 (.mv (T 13)),
 D 8 (.mv (T 14))])
 (.seq (.seq (.region [
 D 15 (.mv (T 8))])
 (.cond (T 15)
 (.region [
 D 16 (.mv (T 0)),
 D 17 (.mv (T 0)),
 D 18 (.nilck (T 17)),
 D 19 (.faddr 0 (T 18)),
 D 20 (.load none (T 19)),
 D 21 (.mv (T 7)),
 D 22 (.append true 1 (T 20) (T 21)),
 D 23 (.nilck (T 16)),
 D 24 (.faddr 0 (T 23)),
 E (.store 1 (T 24) (T 22))])
 .skip))
 (.seq (.region [
 D 25 (.mv (T 8)),
 D 6 (.mv (T 25))])
 .ret)))), [.tmp 6]⟩
theorem ac26_ok : compFn Try.prog Try.f26 = some ac26 := by kernel_rfl
/-- (*winepress/bitwriter.Writer).Len -/
def ac27 : AFn := ⟨(.seq (.region [
 D 2 (.mv (C (.int .i64 0)))])
 (.seq (.seq (.region [
 D 3 (.mv (T 0)),
 D 4 (.eqs false .ptr (T 3) (C (.pointer none)))])
 (.cond (T 4)
 (.seq (.region [
 D 2 (.mv (C (.int .i64 0)))])
 .ret)
 .skip))
 (.seq (.region [
 D 5 (.mv (T 0)),
 D 6 (.nilck (T 5)),
 D 7 (.faddr 1 (T 6)),
 D 8 (.load none (T 7)),
 D 2 (.mv (T 8))])
 .ret))), [.tmp 2]⟩
theorem ac27_ok : compFn Try.prog Try.f27 = some ac27 := by kernel_rfl
/-- (*winepress/bitwriter.Writer).Bytes -/
def ac28 : AFn := ⟨(.seq (.region [
 D 2 (.mv (C (.slice none 0 0)))])
 (.seq (.seq (.region [
 D 3 (.mv (T 0)),
 D 4 (.eqs false .ptr (T 3) (C (.pointer none)))])
 (.cond (T 4)
 (.seq (.region [
 D 2 (.mv (C (.slice none 0 0)))])
 .ret)
 .skip))
 (.seq (.region [
 D 5 (.mv (T 0)),
 D 6 (.nilck (T 5)),
 D 7 (.faddr 0 (T 6)),
 D 8 (.load none (T 7)),
 D 9 (.call 38 [(T 8)]),
 D 2 (.mv (T 9))])
 .ret))), [.tmp 2]⟩
theorem ac28_ok : compFn Try.prog Try.f28 = some ac28 := by kernel_rfl
/-- a loop of winepress/winepressref02.Bytes; it keeps [5, 6, 4, 3, 0] -/
def lb29_0 : ACode := (.seq (.seq (.region [
 D 14 (.mv (T 6)),
 D 15 (.mv (T 4)),
 D 16 (.bin .add (T 15) (C (.int .i64 8))),
 D 17 (.bin .lss (T 14) (T 16))])
 (.cond (T 17)
 .skip
 (.exit 2)))
 (.seq (.block 3 (.seq (.region [
 D 20 (.mv (T 5)),
 D 21 (.bin .mul (C (.int .i64 2)) (T 20)),
 D 5 (.mv (T 21))])
 (.seq (.region [
 D 22 (.mv (T 6)),
 D 23 (.mv (T 0)),
 D 24 (.len (T 23)),
 D 25 (.bin .lss (T 22) (T 24))])
 (.cond (T 25)
 (.region [
 D 26 (.mv (T 5)),
 D 27 (.mv (T 0)),
 D 28 (.mv (T 6)),
 D 29 (.iaddr 1 (T 27) (T 28)),
 D 30 (.load none (T 29)),
 D 31 (.bin .add (T 26) (T 30)),
 D 5 (.mv (T 31))])
 .skip))))
 (.region [
 D 18 (.mv (T 6)),
 D 19 (.bin .add (T 18) (C (.int .i64 1))),
 D 6 (.mv (T 19))])))
/-- a loop of winepress/winepressref02.Bytes; it keeps [4, 3, 0] -/
def lb29_1 : ACode := (.seq (.seq (.region [
 D 7 (.mv (T 4)),
 D 8 (.mv (T 0)),
 D 9 (.len (T 8)),
 D 10 (.bin .lss (T 7) (T 9))])
 (.cond (T 10)
 .skip
 (.exit 0)))
 (.seq (.block 1 (.seq (.region [
 D 5 (.mv (C (.int .i64 0)))])
 (.seq (.seq (.region [
 D 13 (.mv (T 4)),
 D 6 (.mv (T 13))])
 (.block 2 (.loop [5, 6, 4, 3, 0] lb29_0)))
 (.region [
 D 32 (.mv (T 3)),
 D 33 (.mv (T 5)),
 D 34 (.conv .u8 (T 33)),
 D 35 (.bslice true 1 1 [(.int .u8 0)] [(0, 1, (T 34))]),
 D 36 (.append true 1 (T 32) (T 35)),
 D 3 (.mv (T 36))]))))
 (.region [
 D 11 (.mv (T 4)),
 D 12 (.bin .add (T 11) (C (.int .i64 8))),
 D 4 (.mv (T 12))])))
/-- winepress/winepressref02.Bytes -/
def ac29 : AFn := ⟨(.seq (.region [
 D 2 (.mv (C (.slice none 0 0)))])
 (.seq (.region [
 D 3 (.mv (C (.slice none 0 0)))])
 (.seq (.seq (.region [
 D 4 (.mv (C (.int .i64 0)))])
 (.block 0 (.loop [4, 3, 0] lb29_1)))
 (.seq (.region [
 D 37 (.mv (T 3)),
 D 2 (.mv (T 37))])
 .ret)))), [.tmp 2]⟩
theorem ac29_ok : compFn Try.prog Try.f29 = some ac29 := by kernel_rfl
/-- a loop of winepress/bitwriter.Get; it keeps [6, 36, 35, 0, 1] -/
def lb30_0 : ACode := (.seq (.region [
 D 37 (.bin .lss (T 36) (T 35))])
 (.seq (.cond (T 37)
 .skip
 (.exit 0))
 (.seq (.block 1 (.seq (.region [
 D 38 (.mv (T 36)),
 D 8 (.mv (T 38))])
 (.region [
 D 39 (.mv (T 6)),
 D 40 (.bin .shl (T 39) (C (.int .u64 1))),
 D 41 (.mv (T 0)),
 D 42 (.mv (T 1)),
 D 43 (.mv (T 8)),
 D 44 (.bin .add (T 42) (T 43)),
 D 45 (.call 41 [(T 41), (T 44)]),
 D 46 (.conv .u32 (T 45)),
 D 47 (.bin .or (T 40) (T 46)),
 D 6 (.mv (T 47))])))
 (.region [
 D 48 (.bin .add (T 36) (C (.int .i64 1))),
 D 36 (.mv (T 48))]))))
/-- winepress/bitwriter.Get -/
def ac30 : AFn := ⟨(.seq (.region [
 D 6 (.mv (C (.int .u32 0))),
 D 7 (.mv (C (.bool false)))])
 (.seq (.seq (.region [
 D 9 (.mv (T 1)),
 D 10 (.bin .lss (T 9) (C (.int .i64 0))),
 D 11 (.mv (T 10)),
 ⟨(some 12), (some (11, false)), 0, true, .mv (T 2)⟩,
 ⟨(some 13), (some (11, false)), 0, true, .bin .lss (T 12) (C (.int .i64 0))⟩,
 D 14 (.pick (T 11) (C (.bool true)) (T 13)),
 D 15 (.mv (T 14)),
 ⟨(some 16), (some (15, false)), 0, true, .mv (T 2)⟩,
 ⟨(some 17), (some (15, false)), 0, true, .bin .gtr (T 16) (C (.int .i64 32))⟩,
 D 18 (.pick (T 15) (C (.bool true)) (T 17)),
 D 19 (.mv (T 18)),
 ⟨(some 20), (some (19, false)), 0, true, .mv (T 2)⟩,
 ⟨(some 21), (some (19, false)), 0, true, .mv (T 0)⟩,
 ⟨(some 22), (some (19, false)), 0, true, .len (T 21)⟩,
 ⟨(some 23), (some (19, false)), 0, true, .bin .mul (C (.int .i64 8)) (T 22)⟩,
 ⟨(some 24), (some (19, false)), 0, true, .bin .gtr (T 20) (T 23)⟩,
 D 25 (.pick (T 19) (C (.bool true)) (T 24)),
 D 26 (.mv (T 25)),
 ⟨(some 27), (some (26, false)), 0, true, .mv (T 1)⟩,
 ⟨(some 28), (some (26, false)), 0, true, .mv (T 0)⟩,
 ⟨(some 29), (some (26, false)), 0, true, .len (T 28)⟩,
 ⟨(some 30), (some (26, false)), 0, true, .bin .mul (C (.int .i64 8)) (T 29)⟩,
 ⟨(some 31), (some (26, false)), 0, true, .mv (T 2)⟩,
 ⟨(some 32), (some (26, false)), 0, true, .bin .sub (T 30) (T 31)⟩,
 ⟨(some 33), (some (26, false)), 0, true, .bin .gtr (T 27) (T 32)⟩,
 D 34 (.pick (T 26) (C (.bool true)) (T 33))])
 (.cond (T 34)
 (.seq (.region [
 D 6 (.mv (C (.int .u32 0))),
 D 7 (.mv (C (.bool false)))])
 .ret)
 .skip))
 (.seq (.seq (.region [
 D 35 (.mv (T 2)),
 D 36 (.mv (C (.int .i64 0)))])
 (.block 0 (.loop [6, 36, 35, 0, 1] lb30_0)))
 (.seq (.region [
 D 49 (.mv (T 6)),
 D 6 (.mv (T 49)),
 D 7 (.mv (C (.bool true)))])
 .ret)))), [.tmp 6, .tmp 7]⟩
theorem ac30_ok : compFn Try.prog Try.f30 = some ac30 := by kernel_rfl
/-- a loop of winepress/winepressref02.Get; it keeps [9, 10, 2, 8, 1] -/
def lb31_0 : ACode := (.seq (.seq (.region [
 D 37 (.mv (T 10)),
 D 38 (.mv (T 2)),
 D 39 (.bin .lss (T 37) (T 38))])
 (.cond (T 39)
 .skip
 (.exit 0)))
 (.seq (.block 1 (.region [
 D 42 (.mv (T 9)),
 D 43 (.bin .mul (C (.int .u32 2)) (T 42)),
 D 44 (.mv (T 8)),
 D 45 (.mv (T 1)),
 D 46 (.mv (T 10)),
 D 47 (.bin .add (T 45) (T 46)),
 D 48 (.iaddr 1 (T 44) (T 47)),
 D 49 (.load none (T 48)),
 D 50 (.conv .u32 (T 49)),
 D 51 (.bin .add (T 43) (T 50)),
 D 9 (.mv (T 51))]))
 (.region [
 D 40 (.mv (T 10)),
 D 41 (.bin .add (T 40) (C (.int .i64 1))),
 D 10 (.mv (T 41))])))
/-- winepress/winepressref02.Get -/
def ac31 : AFn := ⟨(.seq (.region [
 D 6 (.mv (C (.int .u32 0))),
 D 7 (.mv (C (.bool false)))])
 (.seq (.region [
 D 11 (.mv (T 0)),
 D 12 (.call 34 [(T 11)]),
 D 8 (.mv (T 12))])
 (.seq (.seq (.region [
 D 13 (.mv (T 2)),
 D 14 (.bin .lss (T 13) (C (.int .i64 0))),
 D 15 (.mv (T 14)),
 ⟨(some 16), (some (15, false)), 0, true, .mv (T 2)⟩,
 ⟨(some 17), (some (15, false)), 0, true, .bin .gtr (T 16) (C (.int .i64 32))⟩,
 D 18 (.pick (T 15) (C (.bool true)) (T 17)),
 D 19 (.mv (T 18)),
 ⟨(some 20), (some (19, false)), 0, true, .mv (T 1)⟩,
 ⟨(some 21), (some (19, false)), 0, true, .bin .lss (T 20) (C (.int .i64 0))⟩,
 D 22 (.pick (T 19) (C (.bool true)) (T 21)),
 D 23 (.mv (T 22)),
 ⟨(some 24), (some (23, false)), 0, true, .mv (T 2)⟩,
 ⟨(some 25), (some (23, false)), 0, true, .mv (T 8)⟩,
 ⟨(some 26), (some (23, false)), 0, true, .len (T 25)⟩,
 ⟨(some 27), (some (23, false)), 0, true, .bin .gtr (T 24) (T 26)⟩,
 D 28 (.pick (T 23) (C (.bool true)) (T 27)),
 D 29 (.mv (T 28)),
 ⟨(some 30), (some (29, false)), 0, true, .mv (T 1)⟩,
 ⟨(some 31), (some (29, false)), 0, true, .mv (T 8)⟩,
 ⟨(some 32), (some (29, false)), 0, true, .len (T 31)⟩,
 ⟨(some 33), (some (29, false)), 0, true, .mv (T 2)⟩,
 ⟨(some 34), (some (29, false)), 0, true, .bin .sub (T 32) (T 33)⟩,
 ⟨(some 35), (some (29, false)), 0, true, .bin .gtr (T 30) (T 34)⟩,
 D 36 (.pick (T 29) (C (.bool true)) (T 35))])
 (.cond (T 36)
 (.seq (.region [
 D 6 (.mv (C (.int .u32 0))),
 D 7 (.mv (C (.bool false)))])
 .ret)
 .skip))
 (.seq (.region [
 D 9 (.mv (C (.int .u32 0)))])
 (.seq (.seq (.region [
 D 10 (.mv (C (.int .i64 0)))])
 (.block 0 (.loop [9, 10, 2, 8, 1] lb31_0)))
 (.seq (.region [
 D 52 (.mv (T 9)),
 D 6 (.mv (T 52)),
 D 7 (.mv (C (.bool true)))])
 .ret)))))), [.tmp 6, .tmp 7]⟩
theorem ac31_ok : compFn Try.prog Try.f31 = some ac31 := by kernel_rfl
/-- a loop of winepress/winepressref02.Ints; it keeps [1, 0, 5] -/
def lb32_0 : ACode := (.seq (.seq (.region [
 D 11 (.mv (T 5)),
 D 12 (.mv (T 0)),
 D 13 (.len (T 12)),
 D 14 (.bin .lss (T 11) (T 13))])
 (.cond (T 14)
 .skip
 (.exit 0)))
 (.seq (.block 1 (.seq (.drawn [
 ⟨(some 17), none, 0, false, .mv (T 0)⟩,
 ⟨(some 18), none, 0, false, .mv (T 5)⟩,
 ⟨(some 19), none, 3, false, .iaddr 1 (T 17) (T 18)⟩,
 ⟨(some 20), none, 7, false, .load none (T 19)⟩,
 ⟨(some 21), none, 0, false, .mv (T 1)⟩,
 ⟨(some 22), none, 0, false, .mv (T 5)⟩,
 ⟨(some 23), none, 48, false, .iaddr 1 (T 21) (T 22)⟩,
 ⟨(some 24), none, 112, false, .load none (T 23)⟩,
 ⟨(some 25), none, 255, false, .bin .neq (T 20) (T 24)⟩])
 (.cond (T 25)
 (.seq (.region [
 D 4 (.mv (C (.bool false)))])
 .ret)
 .skip)))
 (.region [
 D 15 (.mv (T 5)),
 D 16 (.bin .add (T 15) (C (.int .i64 1))),
 D 5 (.mv (T 16))])))
/-- winepress/winepressref02.Ints -/
def ac32 : AFn := ⟨(.seq (.region [
 D 4 (.mv (C (.bool false)))])
 (.seq (.seq (.region [
 D 6 (.mv (T 0)),
 D 7 (.len (T 6)),
 D 8 (.mv (T 1)),
 D 9 (.len (T 8)),
 D 10 (.bin .neq (T 7) (T 9))])
 (.cond (T 10)
 (.seq (.region [
 D 4 (.mv (C (.bool false)))])
 .ret)
 .skip))
 (.seq (.seq (.region [
 D 5 (.mv (C (.int .i64 0)))])
 (.block 0 (.loop [1, 0, 5] lb32_0)))
 (.seq (.region [
 D 4 (.mv (C (.bool true)))])
 .ret)))), [.tmp 4]⟩
theorem ac32_ok : compFn Try.prog Try.f32 = some ac32 := by kernel_rfl
/-- a loop of winepress/bitwriter.Of; it keeps [2, 7, 6, 0] -/
def lb33_0 : ACode := (.seq (.region [
 D 8 (.bin .lss (T 7) (T 6))])
 (.seq (.cond (T 8)
 .skip
 (.exit 0))
 (.seq (.block 1 (.seq (.region [
 D 9 (.mv (T 7)),
 D 3 (.mv (T 9))])
 (.region [
 D 10 (.mv (T 2)),
 D 11 (.mv (T 0)),
 D 12 (.mv (T 3)),
 D 13 (.call 41 [(T 11), (T 12)]),
 D 14 (.conv .i64 (T 13)),
 D 15 (.bslice true 1 1 [(.int .i64 0)] [(0, 1, (T 14))]),
 D 16 (.append true 1 (T 10) (T 15)),
 D 2 (.mv (T 16))])))
 (.region [
 D 17 (.bin .add (T 7) (C (.int .i64 1))),
 D 7 (.mv (T 17))]))))
/-- winepress/bitwriter.Of -/
def ac33 : AFn := ⟨(.seq (.region [
 D 2 (.mv (C (.slice none 0 0)))])
 (.seq (.seq (.region [
 D 4 (.mv (T 0)),
 D 5 (.len (T 4)),
 D 6 (.bin .mul (C (.int .i64 8)) (T 5)),
 D 7 (.mv (C (.int .i64 0)))])
 (.block 0 (.loop [2, 7, 6, 0] lb33_0)))
 (.seq (.region [
 D 18 (.mv (T 2)),
 D 2 (.mv (T 18))])
 .ret))), [.tmp 2]⟩
theorem ac33_ok : compFn Try.prog Try.f33 = some ac33 := by kernel_rfl
/-- a loop of winepress/winepressref02.Of; it keeps [3, 4, 0] -/
def lb34_0 : ACode := (.seq (.seq (.region [
 D 7 (.mv (T 4)),
 D 8 (.mv (T 0)),
 D 9 (.len (T 8)),
 D 10 (.bin .lss (T 7) (T 9))])
 (.cond (T 10)
 .skip
 (.exit 0)))
 (.seq (.block 1 (.seq (.region [
 D 14 (.mv (T 0)),
 D 15 (.mv (T 4)),
 D 16 (.iaddr 1 (T 14) (T 15)),
 D 17 (.load none (T 16)),
 D 18 (.conv .u32 (T 17)),
 D 19 (.call 40 [(T 18), (C (.int .i64 8))]),
 D 13 (.mv (T 19)),
 D 20 (.ext (T 13) 0),
 D 21 (.ext (T 13) 1),
 D 5 (.mv (T 20)),
 D 6 (.mv (T 21))])
 (.region [
 D 22 (.mv (T 3)),
 D 23 (.mv (T 5)),
 D 24 (.append true 1 (T 22) (T 23)),
 D 3 (.mv (T 24))])))
 (.region [
 D 11 (.mv (T 4)),
 D 12 (.bin .add (T 11) (C (.int .i64 1))),
 D 4 (.mv (T 12))])))
/-- winepress/winepressref02.Of -/
def ac34 : AFn := ⟨(.seq (.region [
 D 2 (.mv (C (.slice none 0 0)))])
 (.seq (.region [
 D 3 (.mv (C (.slice none 0 0)))])
 (.seq (.seq (.region [
 D 4 (.mv (C (.int .i64 0)))])
 (.block 0 (.loop [3, 4, 0] lb34_0)))
 (.seq (.region [
 D 25 (.mv (T 3)),
 D 2 (.mv (T 25))])
 .ret)))), [.tmp 2]⟩
theorem ac34_ok : compFn Try.prog Try.f34 = some ac34 := by kernel_rfl
/-- a loop of (*winepress/bitwriter.Writer).Put; it keeps [2, 0, 4] -/
def lb35_0 : ACode := (.seq (.seq (.region [
 D 7 (.mv (T 4)),
 D 8 (.bin .geq (T 7) (C (.int .i64 0)))])
 (.cond (T 8)
 .skip
 (.exit 0)))
 (.seq (.block 1 (.seq (.region [
 D 11 (.mv (T 0)),
 D 12 (.load none (T 2)),
 D 13 (.mv (T 4)),
 D 14 (.bin .shr (T 12) (T 13)),
 D 15 (.conv .u8 (T 14)),
 D 16 (.bin .and (T 15) (C (.int .u8 1))),
 D 17 (.callv (T 11) [(T 16)]),
 D 18 (.un .not (T 17))])
 (.cond (T 18)
 .ret
 .skip)))
 (.region [
 D 9 (.mv (T 4)),
 D 10 (.bin .sub (T 9) (C (.int .i64 1))),
 D 4 (.mv (T 10))])))
/-- (*winepress/bitwriter.Writer).Put -/
def ac35 : AFn := ⟨(.seq (.region [
 D 3 (.box false (T 0)),
 D 6 (.mv (C (.bool false)))])
 (.seq (.seq (.region [
 D 8 (.load none (T 3)),
 D 9 (.eqs false .ptr (T 8) (C (.pointer none))),
 D 10 (.mv (T 9)),
 ⟨(some 11), (some (10, false)), 0, true, .mv (T 1)⟩,
 ⟨(some 12), (some (10, false)), 0, true, .mv (T 2)⟩,
 ⟨(some 13), (some (10, false)), 0, true, .call 42 [(T 11), (T 12)]⟩,
 ⟨(some 14), (some (10, false)), 0, true, .un .not (T 13)⟩,
 D 15 (.pick (T 10) (C (.bool true)) (T 14))])
 (.cond (T 15)
 (.seq (.region [
 D 6 (.mv (C (.bool false)))])
 .ret)
 .skip))
 (.seq (.seq (.region [
 D 16 (.mv (T 1)),
 D 17 (.mv (T 2)),
 D 18 (.call 43 [(T 16), (T 17)])])
 (.block 0 (.each (T 18) 45
 (.seq (.region [
 D 5 (.load none (T 1)),
 D 6 (.bin .sub (T 5) (C (.int .i64 1))),
 D 4 (.mv (T 6))])
 (.block 0 (.loop [2, 0, 4] lb35_0)))
 [19]
 (.region [
 D 7 (.mv (T 19))])
 (.block 1 (.region [
 D 20 (.load none (T 3)),
 D 21 (.mv (T 7)),
 D 22 (.call 44 [(T 20), (T 21)])])))))
 (.seq (.region [
 D 6 (.mv (C (.bool true)))])
 .ret)))), [.tmp 6]⟩
theorem ac35_ok : compFn Try.prog Try.f35 = some ac35 := by kernel_rfl
/-- (*winepress/bitwriter.Writer).Pad -/
def ac36 : AFn := ⟨(.seq (.region [
 D 2 (.mv (C (.int .i64 0)))])
 (.seq (.seq (.region [
 D 4 (.mv (T 0)),
 D 5 (.eqs false .ptr (T 4) (C (.pointer none)))])
 (.cond (T 5)
 (.seq (.region [
 D 2 (.mv (C (.int .i64 0)))])
 .ret)
 .skip))
 (.seq (.region [
 D 6 (.mv (T 0)),
 D 7 (.nilck (T 6)),
 D 8 (.faddr 1 (T 7)),
 D 9 (.load none (T 8)),
 D 10 (.un .neg (T 9)),
 D 11 (.bin .and (T 10) (C (.int .i64 7))),
 D 3 (.mv (T 11))])
 (.seq (.region [
 D 12 (.mv (T 0)),
 D 13 (.nilck (T 12)),
 D 14 (.faddr 1 (T 13)),
 D 15 (.load none (T 14)),
 D 16 (.mv (T 3)),
 D 17 (.bin .add (T 15) (T 16)),
 D 18 (.nilck (T 12)),
 D 19 (.faddr 1 (T 18)),
 E (.store 1 (T 19) (T 17))])
 (.seq (.region [
 D 20 (.mv (T 3)),
 D 2 (.mv (T 20))])
 .ret))))), [.tmp 2]⟩
theorem ac36_ok : compFn Try.prog Try.f36 = some ac36 := by kernel_rfl
/-- bytes.Clone -/
def ac38 : AFn := ⟨(.seq (.region [
 D 2 (.mv (C (.slice none 0 0)))])
 (.seq (.seq (.region [
 D 3 (.mv (T 0)),
 D 4 (.eqs false .slice (T 3) (C (.slice none 0 0)))])
 (.cond (T 4)
 (.seq (.region [
 D 2 (.mv (C (.slice none 0 0)))])
 .ret)
 .skip))
 (.seq (.region [
 D 5 (.bslice true 1 0 [] []),
 D 6 (.mv (T 0)),
 D 7 (.append true 1 (T 5) (T 6)),
 D 2 (.mv (T 7))])
 .ret))), [.tmp 2]⟩
theorem ac38_ok : compFn Try.prog Try.f38 = some ac38 := by kernel_rfl
/-- a loop of winepress/winepressref02.Number; it keeps [6, 7, 8, 1] -/
def lb40_0 : ACode := (.seq (.seq (.region [
 D 17 (.mv (T 8)),
 D 18 (.mv (T 1)),
 D 19 (.bin .lss (T 17) (T 18))])
 (.cond (T 19)
 .skip
 (.exit 0)))
 (.seq (.block 1 (.seq (.region [
 D 22 (.mv (T 7)),
 D 23 (.bin .rem (T 22) (C (.int .u64 2))),
 D 24 (.conv .i64 (T 23)),
 D 25 (.bslice true 1 1 [(.int .i64 0)] [(0, 1, (T 24))]),
 D 26 (.mv (T 6)),
 D 27 (.append true 1 (T 25) (T 26)),
 D 6 (.mv (T 27))])
 (.region [
 D 28 (.mv (T 7)),
 D 29 (.bin .quo (T 28) (C (.int .u64 2))),
 D 7 (.mv (T 29))])))
 (.region [
 D 20 (.mv (T 8)),
 D 21 (.bin .add (T 20) (C (.int .i64 1))),
 D 8 (.mv (T 21))])))
/-- winepress/winepressref02.Number -/
def ac40 : AFn := ⟨(.seq (.region [
 D 4 (.mv (C (.slice none 0 0))),
 D 5 (.mv (C (.bool false)))])
 (.seq (.seq (.region [
 D 9 (.mv (T 1)),
 D 10 (.bin .lss (T 9) (C (.int .i64 0))),
 D 11 (.mv (T 10)),
 ⟨(some 12), (some (11, false)), 0, true, .mv (T 1)⟩,
 ⟨(some 13), (some (11, false)), 0, true, .bin .gtr (T 12) (C (.int .i64 32))⟩,
 D 14 (.pick (T 11) (C (.bool true)) (T 13))])
 (.cond (T 14)
 (.seq (.region [
 D 4 (.mv (C (.slice none 0 0))),
 D 5 (.mv (C (.bool false)))])
 .ret)
 .skip))
 (.seq (.region [
 D 6 (.mv (C (.slice none 0 0)))])
 (.seq (.region [
 D 15 (.mv (T 0)),
 D 16 (.conv .u64 (T 15)),
 D 7 (.mv (T 16))])
 (.seq (.seq (.region [
 D 8 (.mv (C (.int .i64 0)))])
 (.block 0 (.loop [6, 7, 8, 1] lb40_0)))
 (.seq (.region [
 D 30 (.mv (T 6)),
 D 31 (.mv (T 7)),
 D 32 (.bin .eql (T 31) (C (.int .u64 0))),
 D 4 (.mv (T 30)),
 D 5 (.mv (T 32))])
 .ret)))))), [.tmp 4, .tmp 5]⟩
theorem ac40_ok : compFn Try.prog Try.f40 = some ac40 := by kernel_rfl
/-- winepress/bitwriter.bit -/
def ac41 : AFn := ⟨(.seq (.region [
 D 4 (.mv (C (.int .u8 0)))])
 (.seq (.region [
 D 5 (.mv (T 0)),
 D 6 (.mv (T 1)),
 D 7 (.bin .shr (T 6) (C (.int .u64 3))),
 D 8 (.iaddr 1 (T 5) (T 7)),
 D 9 (.load none (T 8)),
 D 10 (.mv (T 1)),
 D 11 (.bin .and (T 10) (C (.int .i64 7))),
 D 12 (.bin .sub (C (.int .i64 7)) (T 11)),
 D 13 (.bin .shr (T 9) (T 12)),
 D 14 (.bin .and (T 13) (C (.int .u8 1))),
 D 4 (.mv (T 14))])
 .ret)), [.tmp 4]⟩
theorem ac41_ok : compFn Try.prog Try.f41 = some ac41 := by kernel_rfl
/-- winepress/bitwriter.fits -/
def ac42 : AFn := ⟨(.seq (.region [
 D 4 (.mv (C (.bool false)))])
 (.seq (.region [
 D 5 (.mv (T 1)),
 D 6 (.bin .geq (T 5) (C (.int .i64 0))),
 D 7 (.mv (T 6)),
 ⟨(some 8), (some (7, true)), 0, true, .mv (T 1)⟩,
 ⟨(some 9), (some (7, true)), 0, true, .bin .leq (T 8) (C (.int .i64 32))⟩,
 D 10 (.pick (T 7) (T 9) (C (.bool false))),
 D 11 (.mv (T 10)),
 ⟨(some 12), (some (11, true)), 0, true, .mv (T 0)⟩,
 ⟨(some 13), (some (11, true)), 0, true, .conv .u64 (T 12)⟩,
 ⟨(some 14), (some (11, true)), 0, true, .mv (T 1)⟩,
 ⟨(some 15), (some (11, true)), 0, true, .bin .shr (T 13) (T 14)⟩,
 ⟨(some 16), (some (11, true)), 0, true, .bin .eql (T 15) (C (.int .u64 0))⟩,
 D 17 (.pick (T 11) (T 16) (C (.bool false))),
 D 4 (.mv (T 17))])
 .ret)), [.tmp 4]⟩
theorem ac42_ok : compFn Try.prog Try.f42 = some ac42 := by kernel_rfl
/-- winepress/bitwriter.down -/
def ac43 : AFn := ⟨(.seq (.region [
 D 2 (.box true (T 0)),
 D 3 (.box true (T 1)),
 D 4 (.mv (C .nilFunc))])
 (.seq (.region [
 D 5 (.mkfn 45 [] [(T 3), (T 2)]),
 D 4 (.mv (T 5))])
 .ret)), [.tmp 4]⟩
theorem ac43_ok : compFn Try.prog Try.f43 = some ac43 := by kernel_rfl
/-- (*winepress/bitwriter.Writer).add -/
def ac44 : AFn := ⟨(.seq (.seq (.region [
 D 4 (.mv (T 0)),
 D 5 (.nilck (T 4)),
 D 6 (.faddr 1 (T 5)),
 D 7 (.load none (T 6)),
 D 8 (.bin .and (T 7) (C (.int .i64 7))),
 D 9 (.bin .eql (T 8) (C (.int .i64 0)))])
 (.cond (T 9)
 (.region [
 D 10 (.mv (T 0)),
 D 11 (.mv (T 0)),
 D 12 (.nilck (T 11)),
 D 13 (.faddr 0 (T 12)),
 D 14 (.load none (T 13)),
 D 15 (.bslice true 1 1 [(.int .u8 0)] [(0, 1, (C (.int .u8 0)))]),
 D 16 (.append true 1 (T 14) (T 15)),
 D 17 (.nilck (T 10)),
 D 18 (.faddr 0 (T 17)),
 E (.store 1 (T 18) (T 16))])
 .skip))
 (.seq (.drawn [
 ⟨(some 19), none, 0, false, .mv (T 0)⟩,
 ⟨(some 20), none, 1, false, .nilck (T 19)⟩,
 ⟨(some 21), none, 3, false, .faddr 0 (T 20)⟩,
 ⟨(some 22), none, 7, false, .load none (T 21)⟩,
 ⟨(some 23), none, 0, false, .mv (T 0)⟩,
 ⟨(some 24), none, 16, false, .nilck (T 23)⟩,
 ⟨(some 25), none, 48, false, .faddr 1 (T 24)⟩,
 ⟨(some 26), none, 112, false, .load none (T 25)⟩,
 ⟨(some 27), none, 240, false, .bin .shr (T 26) (C (.int .u64 3))⟩,
 ⟨(some 28), none, 511, false, .iaddr 1 (T 22) (T 27)⟩,
 ⟨(some 29), none, 1023, false, .load none (T 28)⟩,
 ⟨(some 30), none, 0, false, .mv (T 1)⟩,
 ⟨(some 31), none, 0, false, .mv (T 0)⟩,
 ⟨(some 32), none, 4096, false, .nilck (T 31)⟩,
 ⟨(some 33), none, 12288, false, .faddr 1 (T 32)⟩,
 ⟨(some 34), none, 28672, false, .load none (T 33)⟩,
 ⟨(some 35), none, 61440, false, .bin .and (T 34) (C (.int .i64 7))⟩,
 ⟨(some 36), none, 126976, false, .bin .sub (C (.int .i64 7)) (T 35)⟩,
 ⟨(some 37), none, 260096, false, .bin .shl (T 30) (T 36)⟩,
 ⟨(some 38), none, 524287, false, .bin .or (T 29) (T 37)⟩,
 ⟨(some 39), none, 1048575, false, .iaddr 1 (T 22) (T 27)⟩,
 ⟨none, none, 2097151, true, .store 1 (T 39) (T 38)⟩])
 (.region [
 D 40 (.mv (T 0)),
 D 41 (.nilck (T 40)),
 D 42 (.faddr 1 (T 41)),
 D 43 (.load none (T 42)),
 D 44 (.bin .add (T 43) (C (.int .i64 1))),
 D 45 (.nilck (T 40)),
 D 46 (.faddr 1 (T 45)),
 E (.store 1 (T 46) (T 44))]))), []⟩
theorem ac44_ok : compFn Try.prog Try.f44 = some ac44 := by kernel_rfl
/-- a loop of winepress/bitwriter.down$1; it keeps [2, 0, 4] -/
def lb45_0 : ACode := (.seq (.seq (.region [
 D 7 (.mv (T 4)),
 D 8 (.bin .geq (T 7) (C (.int .i64 0)))])
 (.cond (T 8)
 .skip
 (.exit 0)))
 (.seq (.block 1 (.seq (.region [
 D 11 (.mv (T 0)),
 D 12 (.load none (T 2)),
 D 13 (.mv (T 4)),
 D 14 (.bin .shr (T 12) (T 13)),
 D 15 (.conv .u8 (T 14)),
 D 16 (.bin .and (T 15) (C (.int .u8 1))),
 D 17 (.callv (T 11) [(T 16)]),
 D 18 (.un .not (T 17))])
 (.cond (T 18)
 .ret
 .skip)))
 (.region [
 D 9 (.mv (T 4)),
 D 10 (.bin .sub (T 9) (C (.int .i64 1))),
 D 4 (.mv (T 10))])))
/-- winepress/bitwriter.down$1 -/
def ac45 : AFn := ⟨(.seq (.region [
 D 5 (.load none (T 1)),
 D 6 (.bin .sub (T 5) (C (.int .i64 1))),
 D 4 (.mv (T 6))])
 (.block 0 (.loop [2, 0, 4] lb45_0))), []⟩
theorem ac45_ok : compFn Try.prog Try.f45 = some ac45 := by kernel_rfl
def env0L : List (Nat × AFn) := [(8, ac8), (9, ac9), (10, ac10), (11, ac11), (22, ac22), (23, ac23), (24, ac24), (25, ac25), (26, ac26), (27, ac27), (28, ac28), (29, ac29), (30, ac30), (31, ac31), (32, ac32), (33, ac33), (34, ac34), (35, ac35), (36, ac36), (38, ac38), (40, ac40), (41, ac41), (42, ac42), (43, ac43), (44, ac44), (45, ac45)]
def env0 : Env := .base env0L
theorem env0_ok : EnvOk Try.prog env0 :=
 EnvOk.cons Try.func8 ac8_ok (of_decide_eq_true (by kernel_rfl)) <|
 EnvOk.cons Try.func9 ac9_ok (of_decide_eq_true (by kernel_rfl)) <|
 EnvOk.cons Try.func10 ac10_ok (of_decide_eq_true (by kernel_rfl)) <|
 EnvOk.cons Try.func11 ac11_ok (of_decide_eq_true (by kernel_rfl)) <|
 EnvOk.cons Try.func22 ac22_ok (of_decide_eq_true (by kernel_rfl)) <|
 EnvOk.cons Try.func23 ac23_ok (of_decide_eq_true (by kernel_rfl)) <|
 EnvOk.cons Try.func24 ac24_ok (of_decide_eq_true (by kernel_rfl)) <|
 EnvOk.cons Try.func25 ac25_ok (of_decide_eq_true (by kernel_rfl)) <|
 EnvOk.cons Try.func26 ac26_ok (of_decide_eq_true (by kernel_rfl)) <|
 EnvOk.cons Try.func27 ac27_ok (of_decide_eq_true (by kernel_rfl)) <|
 EnvOk.cons Try.func28 ac28_ok (of_decide_eq_true (by kernel_rfl)) <|
 EnvOk.cons Try.func29 ac29_ok (of_decide_eq_true (by kernel_rfl)) <|
 EnvOk.cons Try.func30 ac30_ok (of_decide_eq_true (by kernel_rfl)) <|
 EnvOk.cons Try.func31 ac31_ok (of_decide_eq_true (by kernel_rfl)) <|
 EnvOk.cons Try.func32 ac32_ok (of_decide_eq_true (by kernel_rfl)) <|
 EnvOk.cons Try.func33 ac33_ok (of_decide_eq_true (by kernel_rfl)) <|
 EnvOk.cons Try.func34 ac34_ok (of_decide_eq_true (by kernel_rfl)) <|
 EnvOk.cons Try.func35 ac35_ok (of_decide_eq_true (by kernel_rfl)) <|
 EnvOk.cons Try.func36 ac36_ok (of_decide_eq_true (by kernel_rfl)) <|
 EnvOk.cons Try.func38 ac38_ok (of_decide_eq_true (by kernel_rfl)) <|
 EnvOk.cons Try.func40 ac40_ok (of_decide_eq_true (by kernel_rfl)) <|
 EnvOk.cons Try.func41 ac41_ok (of_decide_eq_true (by kernel_rfl)) <|
 EnvOk.cons Try.func42 ac42_ok (of_decide_eq_true (by kernel_rfl)) <|
 EnvOk.cons Try.func43 ac43_ok (of_decide_eq_true (by kernel_rfl)) <|
 EnvOk.cons Try.func44 ac44_ok (of_decide_eq_true (by kernel_rfl)) <|
 EnvOk.cons Try.func45 ac45_ok (of_decide_eq_true (by kernel_rfl)) <|
 EnvOk.nil
theorem mixed : Try.prog.follows .mixedOrders = true := by kernel_rfl
theorem wakes22 : isTrue (run env0 20000 (.func 22) [] ⟨[], 0, [], []⟩) = true := by kernel_rfl
def env : Env := .base ((22, constFn (.bool true)) :: env0L)
theorem env_or : EnvOr Try.prog env :=
 EnvOr.cons Try.func22 (of_decide_eq_true (by kernel_rfl)) (by kernel_rfl) (constTrue_ok env0_ok mixed wakes22) <|
 EnvOr.of env0_ok
theorem fn8 : env.fn 8 = some ac8 := rfl
theorem fn9 : env.fn 9 = some ac9 := rfl
theorem fn10 : env.fn 10 = some ac10 := rfl
theorem fn11 : env.fn 11 = some ac11 := rfl
theorem fn22 : env.fn 22 = some (constFn (.bool true)) := rfl
theorem fn23 : env.fn 23 = some ac23 := rfl
theorem fn24 : env.fn 24 = some ac24 := rfl
theorem fn25 : env.fn 25 = some ac25 := rfl
theorem fn26 : env.fn 26 = some ac26 := rfl
theorem fn27 : env.fn 27 = some ac27 := rfl
theorem fn28 : env.fn 28 = some ac28 := rfl
theorem fn29 : env.fn 29 = some ac29 := rfl
theorem fn30 : env.fn 30 = some ac30 := rfl
theorem fn31 : env.fn 31 = some ac31 := rfl
theorem fn32 : env.fn 32 = some ac32 := rfl
theorem fn33 : env.fn 33 = some ac33 := rfl
theorem fn34 : env.fn 34 = some ac34 := rfl
theorem fn35 : env.fn 35 = some ac35 := rfl
theorem fn36 : env.fn 36 = some ac36 := rfl
theorem fn38 : env.fn 38 = some ac38 := rfl
theorem fn40 : env.fn 40 = some ac40 := rfl
theorem fn41 : env.fn 41 = some ac41 := rfl
theorem fn42 : env.fn 42 = some ac42 := rfl
theorem fn43 : env.fn 43 = some ac43 := rfl
theorem fn44 : env.fn 44 = some ac44 := rfl
theorem fn45 : env.fn 45 = some ac45 := rfl
end ArEnv
end Go.Proofs.Ytceecoagooalpaa
