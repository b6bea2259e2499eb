/-
 THE TRANSLATED FUNCTIONS, printed by a program, and that they are the program's functions. Conditions: none.
-/
import Derived.Test.YtlbdgbfblgjjgaaProg
import Derived.Test.YtlbdgbfblgjjgaaAOr
import Derived.KernelRfl
namespace Go.Proofs.Ytlbdgbfblgjjgaa
namespace ArEnv
open Go AM
abbrev T (n : Nat) : Operand := .tmp n
abbrev C (v : Value) : Operand := .const v
abbrev D (d : Nat) (o : AOp) : AOper := ⟨some d, none, 0, true, o⟩
abbrev E (o : AOp) : AOper := ⟨none, none, 0, true, o⟩
/-- a loop of winepress/winepresslaw22.TableWalkMatches; it keeps [0, 24, 20, 7, 16, 19, 3, 4, 25] -/
def lb3_0 : ACode := (.seq (.seq (.region [
 D 162 (.mv (T 25)),
 D 163 (.mv (T 0)),
 D 164 (.len (T 163)),
 D 165 (.bin .lss (T 162) (T 164)),
 D 166 (.mv (T 165)),
 ⟨(some 167), (some (166, true)), 0, true, .mv (T 24)⟩,
 ⟨(some 168), (some (166, true)), 0, true, .len (T 167)⟩,
 ⟨(some 169), (some (166, true)), 0, true, .mv (T 0)⟩,
 ⟨(some 170), (some (166, true)), 0, true, .len (T 169)⟩,
 ⟨(some 171), (some (166, true)), 0, true, .bin .eql (T 168) (T 170)⟩,
 D 172 (.pick (T 166) (T 171) (C (.bool false)))])
 (.cond (T 172)
 .skip
 (.exit 2)))
 (.seq (.block 3 (.seq (.region [
 D 175 (.mv (T 25)),
 D 176 (.faddr 0 (T 7)),
 D 177 (.load none (T 176)),
 D 178 (.bin .geq (T 175) (T 177)),
 D 179 (.mv (T 178)),
 ⟨(some 180), (some (179, true)), 0, true, .mv (T 25)⟩,
 ⟨(some 181), (some (179, true)), 0, true, .faddr 0 (T 7)⟩,
 ⟨(some 182), (some (179, true)), 0, true, .load none (T 181)⟩,
 ⟨(some 183), (some (179, true)), 0, true, .mv (T 20)⟩,
 ⟨(some 184), (some (179, true)), 0, true, .len (T 183)⟩,
 ⟨(some 185), (some (179, true)), 0, true, .bin .mul (C (.int .i64 4)) (T 184)⟩,
 ⟨(some 186), (some (179, true)), 0, true, .bin .add (T 182) (T 185)⟩,
 ⟨(some 187), (some (179, true)), 0, true, .bin .lss (T 180) (T 186)⟩,
 D 188 (.pick (T 179) (T 187) (C (.bool false))),
 D 26 (.mv (T 188))])
 (.seq (.drawn [
 ⟨(some 189), none, 0, false, .mv (T 26)⟩,
 ⟨(some 190), none, 1, false, .un .not (T 189)⟩,
 ⟨(some 191), none, 3, false, .mv (T 190)⟩,
 ⟨(some 192), (some (191, true)), 7, false, .mv (T 24)⟩,
 ⟨(some 193), (some (191, true)), 7, false, .mv (T 25)⟩,
 ⟨(some 194), (some (191, true)), 31, false, .iaddr 1 (T 192) (T 193)⟩,
 ⟨(some 195), (some (191, true)), 63, false, .load none (T 194)⟩,
 ⟨(some 196), (some (191, true)), 7, false, .mv (T 0)⟩,
 ⟨(some 197), (some (191, true)), 7, false, .mv (T 25)⟩,
 ⟨(some 198), (some (191, true)), 391, false, .iaddr 1 (T 196) (T 197)⟩,
 ⟨(some 199), (some (191, true)), 903, false, .load none (T 198)⟩,
 ⟨(some 200), (some (191, true)), 2047, false, .bin .neq (T 195) (T 199)⟩,
 ⟨(some 201), none, 4095, false, .pick (T 191) (T 200) (C (.bool false))⟩])
 (.cond (T 201)
 (.seq (.region [
 D 10 (.mv (C (.bool false)))])
 .ret)
 .skip))))
 (.region [
 D 173 (.mv (T 25)),
 D 174 (.bin .add (T 173) (C (.int .i64 1))),
 D 25 (.mv (T 174))])))
/-- a loop of winepress/winepresslaw22.TableWalkMatches; it keeps [20, 7, 11, 14, 0, 16, 19, 3, 4, 21] -/
def lb3_1 : ACode := (.seq (.seq (.region [
 D 135 (.mv (T 21)),
 D 136 (.mv (T 20)),
 D 137 (.len (T 136)),
 D 138 (.bin .lss (T 135) (T 137))])
 (.cond (T 138)
 .skip
 (.exit 0)))
 (.seq (.block 1 (.seq (.region [
 D 142 (.mv (T 11)),
 D 143 (.load (some 2) (T 7)),
 D 144 (.mv (T 21)),
 D 145 (.call 22 [(T 142), (T 143), (T 144)]),
 D 141 (.mv (T 145)),
 D 146 (.ext (T 141) 0),
 D 147 (.ext (T 141) 1),
 D 22 (.mv (T 146)),
 D 23 (.mv (T 147))])
 (.seq (.region [
 D 148 (.mv (T 23)),
 D 149 (.un .not (T 148)),
 D 150 (.mv (T 149)),
 ⟨(some 151), (some (150, false)), 0, true, .mv (T 22)⟩,
 ⟨(some 152), (some (150, false)), 0, true, .conv .i64 (T 151)⟩,
 ⟨(some 153), (some (150, false)), 0, true, .mv (T 20)⟩,
 ⟨(some 154), (some (150, false)), 0, true, .mv (T 21)⟩,
 ⟨(some 155), (some (150, false)), 0, true, .iaddr 1 (T 153) (T 154)⟩,
 ⟨(some 156), (some (150, false)), 0, true, .load none (T 155)⟩,
 ⟨(some 157), (some (150, false)), 0, true, .bin .neq (T 152) (T 156)⟩,
 D 158 (.pick (T 150) (C (.bool true)) (T 157))])
 (.cond (T 158)
 (.seq (.region [
 D 10 (.mv (C (.bool false)))])
 .ret)
 .skip))))
 (.region [
 D 139 (.mv (T 21)),
 D 140 (.bin .add (T 139) (C (.int .i64 1))),
 D 21 (.mv (T 140))])))
/-- winepress/winepresslaw22.TableWalkMatches -/
def ac3 : AFn := ⟨(.seq (.region [
 D 6 (.box true (T 1)),
 D 7 (.box true (T 2)),
 D 10 (.mv (C (.bool false)))])
 (.seq (.seq (.region [
 D 27 (.mv (T 0)),
 D 28 (.len (T 27)),
 D 29 (.bin .eql (T 28) (C (.int .i64 0))),
 D 30 (.mv (T 29)),
 ⟨(some 31), (some (30, false)), 0, true, .mv (T 0)⟩,
 ⟨(some 32), (some (30, false)), 0, true, .len (T 31)⟩,
 ⟨(some 33), (some (30, false)), 0, true, .bin .gtr (T 32) (C (.int .i64 400))⟩,
 D 34 (.pick (T 30) (C (.bool true)) (T 33)),
 D 35 (.mv (T 34)),
 ⟨(some 36), (some (35, false)), 0, true, .mv (T 4)⟩,
 ⟨(some 37), (some (35, false)), 0, true, .len (T 36)⟩,
 ⟨(some 38), (some (35, false)), 0, true, .bin .gtr (T 37) (C (.int .i64 100))⟩,
 D 39 (.pick (T 35) (C (.bool true)) (T 38))])
 (.cond (T 39)
 (.seq (.region [
 D 40 (.call 11 []),
 D 10 (.mv (T 40))])
 .ret)
 .skip))
 (.seq (.region [
 D 42 (.mv (T 0)),
 D 43 (.len (T 42)),
 D 44 (.call 12 [(T 43)]),
 D 41 (.mv (T 44)),
 D 45 (.ext (T 41) 0),
 D 46 (.ext (T 41) 1),
 D 11 (.mv (T 45)),
 D 12 (.mv (T 46))])
 (.seq (.seq (.region [
 D 47 (.mv (T 12)),
 D 48 (.bin .neq (T 47) (C (.int .i64 0))),
 D 49 (.mv (T 48)),
 ⟨(some 50), (some (49, false)), 0, true, .mv (T 11)⟩,
 ⟨(some 51), (some (49, false)), 0, true, .eqs false .ptr (T 50) (C (.pointer none))⟩,
 D 52 (.pick (T 49) (C (.bool true)) (T 51))])
 (.cond (T 52)
 (.seq (.region [
 D 10 (.mv (C (.bool false)))])
 .ret)
 .skip))
 (.seq (.region [
 D 53 (.mv (T 0)),
 D 54 (.len (T 53)),
 D 55 (.call 13 [(T 54)]),
 D 13 (.mv (T 55))])
 (.seq (.region [
 D 56 (.mv (T 0)),
 D 57 (.len (T 56)),
 D 58 (.build [(.int .i64 0), (.int .i64 0)] [(1, 1, (T 57))]),
 D 14 (.alloc true [(.int .i64 0), (.int .i64 0)]),
 E (.store 2 (T 14) (T 58))])
 (.seq (.region [
 D 59 (.mv (T 11)),
 D 60 (.mv (T 0)),
 D 61 (.len (T 60)),
 D 62 (.call 14 [(T 59), (T 61)])])
 (.seq (.region [
 D 63 (.mv (T 13)),
 D 64 (.mv (T 0)),
 D 65 (.len (T 64)),
 D 66 (.call 15 [(T 63), (T 65)])])
 (.seq (.region [
 D 67 (.mv (T 11)),
 D 68 (.load (some 2) (T 14)),
 D 69 (.mv (T 0)),
 D 70 (.call 16 [(T 67), (T 68), (C (.int .i64 0)), (T 69)])])
 (.seq (.region [
 D 71 (.mv (T 13)),
 D 72 (.load (some 2) (T 6)),
 D 73 (.load (some 2) (T 7)),
 D 74 (.call 17 [(T 71), (T 72), (T 73)]),
 D 15 (.mv (T 74))])
 (.seq (.region [
 D 76 (.mv (T 11)),
 D 77 (.load (some 2) (T 6)),
 D 78 (.mv (T 3)),
 D 79 (.load (some 2) (T 7)),
 D 80 (.call 18 [(T 76), (T 77), (T 78), (T 79)]),
 D 75 (.mv (T 80)),
 D 81 (.ext (T 75) 0),
 D 82 (.ext (T 75) 1),
 D 16 (.mv (T 81)),
 D 17 (.mv (T 82))])
 (.seq (.region [
 D 18 (.mv (C (.int .i64 0)))])
 (.seq (.seq (.region [
 D 83 (.mv (T 15)),
 D 84 (.un .not (T 83))])
 (.cond (T 84)
 (.region [
 D 18 (.mv (C (.int .i64 2)))])
 (.seq (.region [
 D 85 (.mv (T 3)),
 D 86 (.bin .lss (T 85) (C (.int .i64 1))),
 D 87 (.mv (T 86)),
 ⟨(some 88), (some (87, false)), 0, true, .mv (T 3)⟩,
 ⟨(some 89), (some (87, false)), 0, true, .faddr 1 (T 6)⟩,
 ⟨(some 90), (some (87, false)), 0, true, .load none (T 89)⟩,
 ⟨(some 91), (some (87, false)), 0, true, .bin .gtr (T 88) (T 90)⟩,
 D 92 (.pick (T 87) (C (.bool true)) (T 91))])
 (.cond (T 92)
 (.region [
 D 18 (.mv (C (.int .i64 170)))])
 .skip))))
 (.seq (.seq (.region [
 D 93 (.mv (T 11)),
 D 94 (.load (some 2) (T 6)),
 D 95 (.load (some 2) (T 7)),
 D 96 (.call 19 [(T 93), (T 94), (T 95)]),
 D 97 (.mv (T 15)),
 D 98 (.eqs true .bool (T 96) (T 97)),
 D 99 (.mv (T 98)),
 ⟨(some 100), (some (99, false)), 0, true, .mv (T 17)⟩,
 ⟨(some 101), (some (99, false)), 0, true, .mv (T 18)⟩,
 ⟨(some 102), (some (99, false)), 0, true, .bin .neq (T 100) (T 101)⟩,
 D 103 (.pick (T 99) (C (.bool true)) (T 102)),
 D 104 (.mv (T 103)),
 ⟨(some 105), (some (104, false)), 0, true, .mv (T 16)⟩,
 ⟨(some 106), (some (104, false)), 0, true, .eqs true .ptr (T 105) (C (.pointer none))⟩,
 ⟨(some 107), (some (104, false)), 0, true, .mv (T 17)⟩,
 ⟨(some 108), (some (104, false)), 0, true, .bin .eql (T 107) (C (.int .i64 0))⟩,
 ⟨(some 109), (some (104, false)), 0, true, .eqs true .bool (T 106) (T 108)⟩,
 D 110 (.pick (T 104) (C (.bool true)) (T 109))])
 (.cond (T 110)
 (.seq (.region [
 D 10 (.mv (C (.bool false)))])
 .ret)
 .skip))
 (.seq (.seq (.region [
 D 111 (.mv (T 16)),
 D 112 (.eqs false .ptr (T 111) (C (.pointer none)))])
 (.cond (T 112)
 (.seq (.drawn [
 ⟨(some 113), none, 0, false, .mv (T 11)⟩,
 ⟨(some 114), none, 0, false, .load (some 2) (T 14)⟩,
 ⟨(some 115), none, 3, false, .call 20 [(T 113), (T 114)]⟩,
 ⟨(some 116), none, 7, false, .bstr (T 115)⟩,
 ⟨(some 117), none, 0, false, .mv (T 0)⟩,
 ⟨(some 118), none, 16, false, .bstr (T 117)⟩,
 ⟨(some 119), none, 63, false, .bin .eql (T 116) (T 118)⟩,
 ⟨(some 120), none, 127, false, .mv (T 119)⟩,
 ⟨(some 121), (some (120, true)), 255, true, .call 11 []⟩,
 ⟨(some 122), none, 511, false, .pick (T 120) (T 121) (C (.bool false))⟩,
 ⟨(some 10), none, 1023, false, .mv (T 122)⟩])
 .ret)
 .skip))
 (.seq (.region [
 D 123 (.mv (T 0)),
 D 124 (.faddr 0 (T 6)),
 D 125 (.load none (T 124)),
 D 126 (.faddr 0 (T 6)),
 D 127 (.load none (T 126)),
 D 128 (.faddr 1 (T 6)),
 D 129 (.load none (T 128)),
 D 130 (.bin .add (T 127) (T 129)),
 D 131 (.slice 1 (T 123) (some (T 125)) (some (T 130)) none),
 D 19 (.mv (T 131))])
 (.seq (.region [
 D 132 (.mv (T 19)),
 D 133 (.mv (T 3)),
 D 134 (.call 21 [(T 132), (T 133)]),
 D 20 (.mv (T 134))])
 (.seq (.seq (.region [
 D 21 (.mv (C (.int .i64 0)))])
 (.block 0 (.loop [20, 7, 11, 14, 0, 16, 19, 3, 4, 21] lb3_1)))
 (.seq (.region [
 D 159 (.mv (T 11)),
 D 160 (.load (some 2) (T 14)),
 D 161 (.call 20 [(T 159), (T 160)]),
 D 24 (.mv (T 161))])
 (.seq (.seq (.region [
 D 25 (.mv (C (.int .i64 0)))])
 (.block 2 (.loop [0, 24, 20, 7, 16, 19, 3, 4, 25] lb3_0)))
 (.seq (.region [
 D 202 (.mv (T 24)),
 D 203 (.len (T 202)),
 D 204 (.mv (T 0)),
 D 205 (.len (T 204)),
 D 206 (.bin .eql (T 203) (T 205)),
 D 207 (.mv (T 206)),
 ⟨(some 208), (some (207, true)), 0, true, .mv (T 16)⟩,
 ⟨(some 209), (some (207, true)), 0, true, .mv (T 19)⟩,
 ⟨(some 210), (some (207, true)), 0, true, .mv (T 3)⟩,
 ⟨(some 211), (some (207, true)), 0, true, .build [(.slice none 0 0), (.int .i64 0), (.int .i64 0), (.int .i64 0), (.int .i64 0)] [(0, 1, (T 209)), (1, 1, (T 210))]⟩,
 ⟨(some 212), (some (207, true)), 0, true, .box false (T 211)⟩,
 ⟨(some 213), (some (207, true)), 0, true, .mv (T 4)⟩,
 ⟨(some 214), (some (207, true)), 0, true, .call 23 [(T 208), (T 212), (T 213)]⟩,
 D 215 (.pick (T 207) (T 214) (C (.bool false))),
 D 216 (.mv (T 215)),
 ⟨(some 217), (some (216, true)), 0, true, .call 11 []⟩,
 D 218 (.pick (T 216) (T 217) (C (.bool false))),
 D 10 (.mv (T 218))])
 .ret))))))))))))))))))))), [.tmp 10]⟩
theorem ac3_ok : compFn Try.prog Try.f3 = some ac3 := by kernel_rfl
/-- a loop of winepress/winepresslaw22.wakes; it keeps [4, 11, 13, 15, 17, 3, 1, 2, 19, 18] -/
def lb11_0 : ACode := (.seq (.seq (.region [
 D 107 (.mv (T 19)),
 D 108 (.bin .lss (T 107) (C (.int .i64 7)))])
 (.cond (T 108)
 .skip
 (.exit 2)))
 (.seq (.block 3 (.seq (.region [
 D 112 (.mv (T 4)),
 D 113 (.call 29 [(T 112)]),
 D 111 (.mv (T 113)),
 D 114 (.ext (T 111) 0),
 D 115 (.ext (T 111) 1),
 D 20 (.mv (T 114)),
 D 21 (.mv (T 115))])
 (.seq (.seq (.region [
 D 116 (.mv (T 21)),
 D 117 (.mv (T 19)),
 D 118 (.bin .lss (T 117) (C (.int .i64 6))),
 D 119 (.eqs true .bool (T 116) (T 118))])
 (.cond (T 119)
 (.seq (.region [
 D 0 (.mv (C (.bool false)))])
 .ret)
 .skip))
 (.seq (.region [
 D 120 (.mv (T 21))])
 (.cond (T 120)
 (.region [
 D 121 (.mv (T 18)),
 D 122 (.mv (T 20)),
 D 123 (.bslice true 1 1 [(.int .u8 0)] [(0, 1, (T 122))]),
 D 124 (.append true 1 (T 121) (T 123)),
 D 18 (.mv (T 124))])
 .skip)))))
 (.region [
 D 109 (.mv (T 19)),
 D 110 (.bin .add (T 109) (C (.int .i64 1))),
 D 19 (.mv (T 110))])))
/-- a loop of winepress/winepresslaw22.wakes; it keeps [6, 7, 4, 2, 5, 1, 3] -/
def lb11_1 : ACode := (.seq (.seq (.region [
 D 46 (.mv (T 7)),
 D 47 (.bin .lss (T 46) (C (.int .i64 7)))])
 (.cond (T 47)
 .skip
 (.exit 0)))
 (.seq (.block 1 (.seq (.region [
 D 51 (.mv (T 1)),
 D 52 (.load (some 2) (T 3)),
 D 53 (.mv (T 7)),
 D 54 (.call 22 [(T 51), (T 52), (T 53)]),
 D 50 (.mv (T 54)),
 D 55 (.ext (T 50) 0),
 D 56 (.ext (T 50) 1),
 D 8 (.mv (T 55)),
 D 9 (.mv (T 56))])
 (.region [
 D 57 (.mv (T 6)),
 D 58 (.mv (T 57)),
 ⟨(some 59), (some (58, true)), 0, true, .mv (T 8)⟩,
 ⟨(some 60), (some (58, true)), 0, true, .build (List.replicate 7 (.int .u32 0)) [(0, 1, (C (.int .u32 1))), (1, 1, (C (.int .u32 5))), (2, 1, (C (.int .u32 6))), (3, 1, (C (.int .u32 4))), (4, 1, (C (.int .u32 0))), (5, 1, (C (.int .u32 2))), (6, 1, (C (.int .u32 3)))]⟩,
 ⟨(some 61), (some (58, true)), 0, true, .mv (T 7)⟩,
 ⟨(some 62), (some (58, true)), 0, true, .idx 1 7 none (T 60) (T 61)⟩,
 ⟨(some 63), (some (58, true)), 0, true, .bin .eql (T 59) (T 62)⟩,
 D 64 (.pick (T 58) (T 63) (C (.bool false))),
 D 6 (.mv (T 64))])))
 (.region [
 D 48 (.mv (T 7)),
 D 49 (.bin .add (T 48) (C (.int .i64 1))),
 D 7 (.mv (T 49))])))
/-- winepress/winepresslaw22.wakes -/
def ac11 : AFn := ⟨(.seq (.region [
 D 0 (.mv (C (.bool false)))])
 (.seq (.region [
 D 31 (.bslice true 1 6 (List.replicate 6 (.int .u8 0)) [(0, 1, (C (.int .u8 97))), (1, 1, (C (.int .u8 110))), (2, 1, (C (.int .u8 110))), (3, 1, (C (.int .u8 98))), (4, 1, (C (.int .u8 97))), (5, 1, (C (.int .u8 97)))]),
 D 32 (.mark (T 31)),
 D 33 (.call 25 [(T 32)]),
 D 30 (.mv (T 33)),
 D 34 (.ext (T 30) 0),
 D 35 (.ext (T 30) 1),
 D 36 (.ext (T 30) 2),
 D 2 (.alloc true [(.int .i64 0), (.int .i64 0)]),
 D 3 (.alloc true [(.int .i64 0), (.int .i64 0)]),
 D 1 (.mv (T 34)),
 E (.store 2 (T 2) (T 35)),
 E (.store 2 (T 3) (T 36))])
 (.seq (.seq (.region [
 D 37 (.mv (T 1)),
 D 38 (.eqs false .ptr (T 37) (C (.pointer none)))])
 (.cond (T 38)
 (.seq (.region [
 D 0 (.mv (C (.bool false)))])
 .ret)
 .skip))
 (.seq (.region [
 D 40 (.mv (T 1)),
 D 41 (.load (some 2) (T 2)),
 D 42 (.load (some 2) (T 3)),
 D 43 (.call 18 [(T 40), (T 41), (C (.int .i64 4)), (T 42)]),
 D 39 (.mv (T 43)),
 D 44 (.ext (T 39) 0),
 D 45 (.ext (T 39) 1),
 D 4 (.mv (T 44)),
 D 5 (.mv (T 45))])
 (.seq (.region [
 D 6 (.mv (C (.bool true)))])
 (.seq (.seq (.region [
 D 7 (.mv (C (.int .i64 0)))])
 (.block 0 (.loop [6, 7, 4, 2, 5, 1, 3] lb11_1)))
 (.seq (.region [
 D 66 (.mv (T 1)),
 D 67 (.load (some 2) (T 2)),
 D 68 (.load (some 2) (T 3)),
 D 69 (.call 18 [(T 66), (T 67), (C (.int .i64 0)), (T 68)]),
 D 65 (.mv (T 69)),
 D 70 (.ext (T 65) 0),
 D 71 (.ext (T 65) 1),
 D 10 (.mv (T 70)),
 D 11 (.mv (T 71))])
 (.seq (.region [
 D 73 (.mv (T 1)),
 D 74 (.load (some 2) (T 2)),
 D 75 (.load (some 2) (T 3)),
 D 76 (.call 18 [(T 73), (T 74), (C (.int .i64 7)), (T 75)]),
 D 72 (.mv (T 76)),
 D 77 (.ext (T 72) 0),
 D 78 (.ext (T 72) 1),
 D 12 (.mv (T 77)),
 D 13 (.mv (T 78))])
 (.seq (.region [
 D 80 (.mv (T 1)),
 D 81 (.load (some 2) (T 2)),
 D 82 (.faddr 0 (T 3)),
 D 83 (.load none (T 82)),
 D 84 (.faddr 1 (T 3)),
 D 85 (.load none (T 84)),
 D 86 (.bin .sub (T 85) (C (.int .i64 1))),
 D 87 (.build [(.int .i64 0), (.int .i64 0)] [(0, 1, (T 83)), (1, 1, (T 86))]),
 D 88 (.call 18 [(T 80), (T 81), (C (.int .i64 4)), (T 87)]),
 D 79 (.mv (T 88)),
 D 89 (.ext (T 79) 0),
 D 90 (.ext (T 79) 1),
 D 14 (.mv (T 89)),
 D 15 (.mv (T 90))])
 (.seq (.region [
 D 92 (.load (some 2) (T 2)),
 D 93 (.load (some 2) (T 3)),
 D 94 (.call 18 [(C (.pointer none)), (T 92), (C (.int .i64 4)), (T 93)]),
 D 91 (.mv (T 94)),
 D 95 (.ext (T 91) 0),
 D 96 (.ext (T 91) 1),
 D 16 (.mv (T 95)),
 D 17 (.mv (T 96))])
 (.seq (.seq (.region [
 D 97 (.mv (T 5)),
 D 98 (.bin .neq (T 97) (C (.int .i64 0))),
 D 99 (.mv (T 98)),
 ⟨(some 100), (some (99, false)), 0, true, .mv (T 4)⟩,
 ⟨(some 101), (some (99, false)), 0, true, .eqs false .ptr (T 100) (C (.pointer none))⟩,
 D 102 (.pick (T 99) (C (.bool true)) (T 101)),
 D 103 (.mv (T 102)),
 ⟨(some 104), (some (103, false)), 0, true, .mv (T 6)⟩,
 ⟨(some 105), (some (103, false)), 0, true, .un .not (T 104)⟩,
 D 106 (.pick (T 103) (C (.bool true)) (T 105))])
 (.cond (T 106)
 (.seq (.region [
 D 0 (.mv (C (.bool false)))])
 .ret)
 .skip))
 (.seq (.region [
 D 18 (.mv (C (.slice none 0 0)))])
 (.seq (.seq (.region [
 D 19 (.mv (C (.int .i64 0)))])
 (.block 2 (.loop [4, 11, 13, 15, 17, 3, 1, 2, 19, 18] lb11_0)))
 (.seq (.region [
 D 125 (.mv (T 4)),
 D 126 (.call 27 [(T 125)]),
 D 127 (.mv (T 4)),
 D 128 (.call 26 [(T 127)]),
 D 129 (.mv (T 4)),
 D 130 (.call 27 [(T 129)]),
 D 22 (.mv (T 126)),
 D 23 (.mv (T 128)),
 D 24 (.mv (T 130))])
 (.seq (.region [
 D 131 (.mv (T 4)),
 D 132 (.call 43 [(T 131)])])
 (.seq (.region [
 D 134 (.mv (T 4)),
 D 135 (.call 29 [(T 134)]),
 D 133 (.mv (T 135)),
 D 136 (.ext (T 133) 0),
 D 137 (.ext (T 133) 1),
 D 25 (.mv (T 136)),
 D 26 (.mv (T 137))])
 (.seq (.region [
 D 27 (.mv (C (.pointer none)))])
 (.seq (.region [
 D 138 (.mv (T 27)),
 D 139 (.call 43 [(T 138)])])
 (.seq (.region [
 D 141 (.mv (T 27)),
 D 142 (.call 29 [(T 141)]),
 D 140 (.mv (T 142)),
 D 143 (.ext (T 140) 0),
 D 144 (.ext (T 140) 1),
 D 28 (.mv (T 143)),
 D 29 (.mv (T 144))])
 (.seq (.region [
 D 145 (.mv (T 11)),
 D 146 (.bin .eql (T 145) (C (.int .i64 170))),
 D 147 (.mv (T 146)),
 ⟨(some 148), (some (147, true)), 0, true, .mv (T 13)⟩,
 ⟨(some 149), (some (147, true)), 0, true, .bin .eql (T 148) (C (.int .i64 170))⟩,
 D 150 (.pick (T 147) (T 149) (C (.bool false))),
 D 151 (.mv (T 150)),
 ⟨(some 152), (some (151, true)), 0, true, .mv (T 15)⟩,
 ⟨(some 153), (some (151, true)), 0, true, .bin .eql (T 152) (C (.int .i64 2))⟩,
 D 154 (.pick (T 151) (T 153) (C (.bool false))),
 D 155 (.mv (T 154)),
 ⟨(some 156), (some (155, true)), 0, true, .mv (T 17)⟩,
 ⟨(some 157), (some (155, true)), 0, true, .bin .eql (T 156) (C (.int .i64 2))⟩,
 D 158 (.pick (T 155) (T 157) (C (.bool false))),
 D 159 (.mv (T 158)),
 ⟨(some 160), (some (159, true)), 0, true, .mv (T 18)⟩,
 ⟨(some 161), (some (159, true)), 0, true, .bstr (T 160)⟩,
 ⟨(some 162), (some (159, true)), 0, true, .bin .eql (T 161) (C (.string ⟨#[97, 110, 97, 110, 97, 98]⟩))⟩,
 D 163 (.pick (T 159) (T 162) (C (.bool false))),
 D 164 (.mv (T 163)),
 ⟨(some 165), (some (164, true)), 0, true, .mv (T 22)⟩,
 ⟨(some 166), (some (164, true)), 0, true, .bin .eql (T 165) (C (.int .i64 6))⟩,
 D 167 (.pick (T 164) (T 166) (C (.bool false))),
 D 168 (.mv (T 167)),
 ⟨(some 169), (some (168, true)), 0, true, .mv (T 23)⟩,
 D 170 (.pick (T 168) (T 169) (C (.bool false))),
 D 171 (.mv (T 170)),
 ⟨(some 172), (some (171, true)), 0, true, .mv (T 24)⟩,
 ⟨(some 173), (some (171, true)), 0, true, .bin .eql (T 172) (C (.int .i64 12))⟩,
 D 174 (.pick (T 171) (T 173) (C (.bool false))),
 D 175 (.mv (T 174)),
 ⟨(some 176), (some (175, true)), 0, true, .mv (T 25)⟩,
 ⟨(some 177), (some (175, true)), 0, true, .bin .eql (T 176) (C (.int .u8 97))⟩,
 D 178 (.pick (T 175) (T 177) (C (.bool false))),
 D 179 (.mv (T 178)),
 ⟨(some 180), (some (179, true)), 0, true, .mv (T 4)⟩,
 ⟨(some 181), (some (179, true)), 0, true, .call 28 [(T 180)]⟩,
 ⟨(some 182), (some (179, true)), 0, true, .bin .eql (T 181) (C (.int .i64 1))⟩,
 D 183 (.pick (T 179) (T 182) (C (.bool false))),
 D 184 (.mv (T 183)),
 ⟨(some 185), (some (184, true)), 0, true, .mv (T 29)⟩,
 ⟨(some 186), (some (184, true)), 0, true, .un .not (T 185)⟩,
 D 187 (.pick (T 184) (T 186) (C (.bool false))),
 D 188 (.mv (T 187)),
 ⟨(some 189), (some (188, true)), 0, true, .mv (T 27)⟩,
 ⟨(some 190), (some (188, true)), 0, true, .call 26 [(T 189)]⟩,
 ⟨(some 191), (some (188, true)), 0, true, .un .not (T 190)⟩,
 D 192 (.pick (T 188) (T 191) (C (.bool false))),
 D 193 (.mv (T 192)),
 ⟨(some 194), (some (193, true)), 0, true, .mv (T 27)⟩,
 ⟨(some 195), (some (193, true)), 0, true, .call 27 [(T 194)]⟩,
 ⟨(some 196), (some (193, true)), 0, true, .bin .eql (T 195) (C (.int .i64 0))⟩,
 D 197 (.pick (T 193) (T 196) (C (.bool false))),
 D 198 (.mv (T 197)),
 ⟨(some 199), (some (198, true)), 0, true, .mv (T 1)⟩,
 ⟨(some 200), (some (198, true)), 0, true, .load (some 2) (T 2)⟩,
 ⟨(some 201), (some (198, true)), 0, true, .load (some 2) (T 3)⟩,
 ⟨(some 202), (some (198, true)), 0, true, .call 19 [(T 199), (T 200), (T 201)]⟩,
 D 203 (.pick (T 198) (T 202) (C (.bool false))),
 D 204 (.mv (T 203)),
 ⟨(some 205), (some (204, true)), 0, true, .mv (T 1)⟩,
 ⟨(some 206), (some (204, true)), 0, true, .load (some 2) (T 2)⟩,
 ⟨(some 207), (some (204, true)), 0, true, .load (some 2) (T 2)⟩,
 ⟨(some 208), (some (204, true)), 0, true, .call 19 [(T 205), (T 206), (T 207)]⟩,
 ⟨(some 209), (some (204, true)), 0, true, .un .not (T 208)⟩,
 D 210 (.pick (T 204) (T 209) (C (.bool false))),
 D 0 (.mv (T 210))])
 .ret)))))))))))))))))))), [.tmp 0]⟩
theorem ac11_ok : compFn Try.prog Try.f11 = some ac11 := by kernel_rfl
/-- winepress/arena.New -/
def ac12 : AFn := ⟨(.seq (.region [
 D 2 (.mv (C (.pointer none))),
 D 3 (.mv (C (.int .i64 0)))])
 (.seq (.seq (.region [
 D 4 (.mv (T 0)),
 D 5 (.bin .lss (T 4) (C (.int .i64 1))),
 D 6 (.mv (T 5)),
 ⟨(some 7), (some (6, false)), 0, true, .mv (T 0)⟩,
 ⟨(some 8), (some (6, false)), 0, true, .bin .gtr (T 7) (C (.int .i64 1048576))⟩,
 D 9 (.pick (T 6) (C (.bool true)) (T 8))])
 (.cond (T 9)
 (.seq (.region [
 D 2 (.mv (C (.pointer none))),
 D 3 (.mv (C (.int .i64 2)))])
 .ret)
 .skip))
 (.seq (.region [
 D 10 (.mv (T 0)),
 D 11 (.mkslice true 1 [(.int .u8 0)] (T 10) (T 10)),
 D 12 (.build [(.slice none 0 0), (.int .i64 0), (.int .i64 0)] [(0, 1, (T 11))]),
 D 13 (.box false (T 12)),
 D 2 (.mv (T 13)),
 D 3 (.mv (C (.int .i64 0)))])
 .ret))), [.tmp 2, .tmp 3]⟩
theorem ac12_ok : compFn Try.prog Try.f12 = some ac12 := by kernel_rfl
/-- winepress/winepressref01.New -/
def ac13 : AFn := ⟨(.seq (.region [
 D 2 (.mv (C (.pointer none)))])
 (.seq (.region [
 D 3 (.mv (T 0)),
 D 4 (.mkslice true 1 [(.int .u8 0)] (T 3) (T 3)),
 D 5 (.build [(.slice none 0 0), (.int .i64 0), (.int .i64 0)] [(0, 1, (T 4))]),
 D 6 (.box false (T 5)),
 D 2 (.mv (T 6))])
 .ret)), [.tmp 2]⟩
theorem ac13_ok : compFn Try.prog Try.f13 = some ac13 := by kernel_rfl
/-- (*winepress/arena.Arena).Take -/
def ac14 : AFn := ⟨(.seq (.region [
 D 4 (.alloc true [(.int .i64 0), (.int .i64 0)]),
 D 5 (.mv (C (.int .i64 0)))])
 (.seq (.block 0 (.seq (.region [
 D 8 (.mv (T 0)),
 D 9 (.eqs false .ptr (T 8) (C (.pointer none))),
 D 10 (.mv (T 9)),
 ⟨(some 11), (some (10, false)), 0, true, .mv (T 1)⟩,
 ⟨(some 12), (some (10, false)), 0, true, .bin .lss (T 11) (C (.int .i64 0))⟩,
 D 13 (.pick (T 10) (C (.bool true)) (T 12)),
 D 7 (.mv (T 13))])
 (.cond (T 7)
 (.seq (.region [
 D 14 (.build [(.int .i64 0), (.int .i64 0)] []),
 E (.store 2 (T 4) (T 14)),
 D 5 (.mv (C (.int .i64 2)))])
 .ret)
 (.seq (.drawn [
 ⟨(some 16), none, 0, false, .mv (T 1)⟩,
 ⟨(some 17), none, 0, false, .mv (T 0)⟩,
 ⟨(some 18), none, 2, false, .nilck (T 17)⟩,
 ⟨(some 19), none, 6, false, .faddr 0 (T 18)⟩,
 ⟨(some 20), none, 14, false, .load none (T 19)⟩,
 ⟨(some 21), none, 30, false, .len (T 20)⟩,
 ⟨(some 22), none, 0, false, .mv (T 0)⟩,
 ⟨(some 23), none, 64, false, .nilck (T 22)⟩,
 ⟨(some 24), none, 192, false, .faddr 1 (T 23)⟩,
 ⟨(some 25), none, 448, false, .load none (T 24)⟩,
 ⟨(some 26), none, 1022, false, .bin .sub (T 21) (T 25)⟩,
 ⟨(some 27), none, 2047, false, .bin .gtr (T 16) (T 26)⟩,
 ⟨(some 15), none, 4095, false, .mv (T 27)⟩])
 (.cond (T 15)
 (.seq (.region [
 D 28 (.build [(.int .i64 0), (.int .i64 0)] []),
 E (.store 2 (T 4) (T 28)),
 D 5 (.mv (C (.int .i64 10)))])
 .ret)
 .skip)))))
 (.seq (.region [
 D 29 (.mv (T 0)),
 D 30 (.nilck (T 29)),
 D 31 (.faddr 1 (T 30)),
 D 32 (.load none (T 31)),
 D 33 (.mv (T 1)),
 D 34 (.build [(.int .i64 0), (.int .i64 0)] [(0, 1, (T 32)), (1, 1, (T 33))]),
 D 6 (.alloc true [(.int .i64 0), (.int .i64 0)]),
 E (.store 2 (T 6) (T 34))])
 (.seq (.drawn [
 ⟨(some 35), none, 0, false, .mv (T 0)⟩,
 ⟨(some 36), none, 1, false, .nilck (T 35)⟩,
 ⟨(some 37), none, 3, false, .faddr 0 (T 36)⟩,
 ⟨(some 38), none, 7, false, .load none (T 37)⟩,
 ⟨(some 39), none, 0, false, .faddr 0 (T 6)⟩,
 ⟨(some 40), none, 16, false, .load none (T 39)⟩,
 ⟨(some 41), none, 0, false, .faddr 0 (T 6)⟩,
 ⟨(some 42), none, 64, false, .load none (T 41)⟩,
 ⟨(some 43), none, 0, false, .mv (T 1)⟩,
 ⟨(some 44), none, 448, false, .bin .add (T 42) (T 43)⟩,
 ⟨(some 45), none, 1023, false, .slice 1 (T 38) (some (T 40)) (some (T 44)) none⟩,
 ⟨none, none, 2047, true, .clear 1 [(.int .u8 0)] (T 45)⟩])
 (.seq (.region [
 D 46 (.mv (T 0)),
 D 47 (.nilck (T 46)),
 D 48 (.faddr 1 (T 47)),
 D 49 (.load none (T 48)),
 D 50 (.mv (T 1)),
 D 51 (.bin .add (T 49) (T 50)),
 D 52 (.nilck (T 46)),
 D 53 (.faddr 1 (T 52)),
 E (.store 1 (T 53) (T 51))])
 (.seq (.drawn [
 ⟨(some 54), none, 0, false, .mv (T 0)⟩,
 ⟨(some 55), none, 0, false, .mv (T 0)⟩,
 ⟨(some 56), none, 2, false, .nilck (T 55)⟩,
 ⟨(some 57), none, 6, false, .faddr 2 (T 56)⟩,
 ⟨(some 58), none, 14, false, .load none (T 57)⟩,
 ⟨(some 59), none, 0, false, .mv (T 0)⟩,
 ⟨(some 60), none, 32, false, .nilck (T 59)⟩,
 ⟨(some 61), none, 96, false, .faddr 1 (T 60)⟩,
 ⟨(some 62), none, 224, false, .load none (T 61)⟩,
 ⟨(some 63), none, 510, false, .mm true [(T 58), (T 62)]⟩,
 ⟨(some 64), none, 1023, false, .nilck (T 54)⟩,
 ⟨(some 65), none, 2047, false, .faddr 2 (T 64)⟩,
 ⟨none, none, 4095, true, .store 1 (T 65) (T 63)⟩])
 (.seq (.region [
 D 66 (.load (some 2) (T 6)),
 E (.store 2 (T 4) (T 66)),
 D 5 (.mv (C (.int .i64 0)))])
 .ret))))))), [.cell 4 (some 2), .tmp 5]⟩
theorem ac14_ok : compFn Try.prog Try.f14 = some ac14 := by kernel_rfl
/-- a loop of (*winepress/winepressref01.Arena).Take; it keeps [7, 4, 6, 1, 0] -/
def lb15_0 : ACode := (.seq (.seq (.region [
 D 30 (.mv (T 7)),
 D 31 (.mv (T 1)),
 D 32 (.bin .lss (T 30) (T 31))])
 (.cond (T 32)
 .skip
 (.exit 0)))
 (.seq (.block 1 (.drawn [
 ⟨(some 35), none, 0, false, .mv (T 0)⟩,
 ⟨(some 36), none, 1, false, .nilck (T 35)⟩,
 ⟨(some 37), none, 3, false, .faddr 0 (T 36)⟩,
 ⟨(some 38), none, 7, false, .load none (T 37)⟩,
 ⟨(some 39), none, 0, false, .mv (T 0)⟩,
 ⟨(some 40), none, 16, false, .nilck (T 39)⟩,
 ⟨(some 41), none, 48, false, .faddr 1 (T 40)⟩,
 ⟨(some 42), none, 112, false, .load none (T 41)⟩,
 ⟨(some 43), none, 0, false, .mv (T 7)⟩,
 ⟨(some 44), none, 496, false, .bin .add (T 42) (T 43)⟩,
 ⟨(some 45), none, 1023, false, .iaddr 1 (T 38) (T 44)⟩,
 ⟨none, none, 2047, true, .store 1 (T 45) (C (.int .u8 0))⟩]))
 (.region [
 D 33 (.mv (T 7)),
 D 34 (.bin .add (T 33) (C (.int .i64 1))),
 D 7 (.mv (T 34))])))
/-- (*winepress/winepressref01.Arena).Take -/
def ac15 : AFn := ⟨(.seq (.region [
 D 4 (.alloc true [(.int .i64 0), (.int .i64 0)]),
 D 5 (.mv (C (.int .i64 0)))])
 (.seq (.seq (.region [
 D 8 (.mv (T 1)),
 D 9 (.bin .lss (T 8) (C (.int .i64 0)))])
 (.cond (T 9)
 (.seq (.region [
 D 10 (.build [(.int .i64 0), (.int .i64 0)] []),
 E (.store 2 (T 4) (T 10)),
 D 5 (.mv (C (.int .i64 2)))])
 .ret)
 .skip))
 (.seq (.seq (.drawn [
 ⟨(some 11), none, 0, false, .mv (T 1)⟩,
 ⟨(some 12), none, 0, false, .mv (T 0)⟩,
 ⟨(some 13), none, 2, false, .nilck (T 12)⟩,
 ⟨(some 14), none, 6, false, .faddr 0 (T 13)⟩,
 ⟨(some 15), none, 14, false, .load none (T 14)⟩,
 ⟨(some 16), none, 30, false, .len (T 15)⟩,
 ⟨(some 17), none, 0, false, .mv (T 0)⟩,
 ⟨(some 18), none, 64, false, .nilck (T 17)⟩,
 ⟨(some 19), none, 192, false, .faddr 1 (T 18)⟩,
 ⟨(some 20), none, 448, false, .load none (T 19)⟩,
 ⟨(some 21), none, 1022, false, .bin .sub (T 16) (T 20)⟩,
 ⟨(some 22), none, 2047, false, .bin .gtr (T 11) (T 21)⟩])
 (.cond (T 22)
 (.seq (.region [
 D 23 (.build [(.int .i64 0), (.int .i64 0)] []),
 E (.store 2 (T 4) (T 23)),
 D 5 (.mv (C (.int .i64 10)))])
 .ret)
 .skip))
 (.seq (.region [
 D 24 (.mv (T 0)),
 D 25 (.nilck (T 24)),
 D 26 (.faddr 1 (T 25)),
 D 27 (.load none (T 26)),
 D 28 (.mv (T 1)),
 D 29 (.build [(.int .i64 0), (.int .i64 0)] [(0, 1, (T 27)), (1, 1, (T 28))]),
 D 6 (.alloc true [(.int .i64 0), (.int .i64 0)]),
 E (.store 2 (T 6) (T 29))])
 (.seq (.seq (.region [
 D 7 (.mv (C (.int .i64 0)))])
 (.block 0 (.loop [7, 4, 6, 1, 0] lb15_0)))
 (.seq (.region [
 D 46 (.mv (T 0)),
 D 47 (.mv (T 0)),
 D 48 (.nilck (T 47)),
 D 49 (.faddr 1 (T 48)),
 D 50 (.load none (T 49)),
 D 51 (.mv (T 1)),
 D 52 (.bin .add (T 50) (T 51)),
 D 53 (.nilck (T 46)),
 D 54 (.faddr 1 (T 53)),
 E (.store 1 (T 54) (T 52))])
 (.seq (.drawn [
 ⟨(some 55), none, 0, false, .mv (T 0)⟩,
 ⟨(some 56), none, 0, false, .mv (T 0)⟩,
 ⟨(some 57), none, 2, false, .nilck (T 56)⟩,
 ⟨(some 58), none, 6, false, .faddr 2 (T 57)⟩,
 ⟨(some 59), none, 14, false, .load none (T 58)⟩,
 ⟨(some 60), none, 0, false, .mv (T 0)⟩,
 ⟨(some 61), none, 32, false, .nilck (T 60)⟩,
 ⟨(some 62), none, 96, false, .faddr 1 (T 61)⟩,
 ⟨(some 63), none, 224, false, .load none (T 62)⟩,
 ⟨(some 64), none, 510, false, .mm true [(T 59), (T 63)]⟩,
 ⟨(some 65), none, 1023, false, .nilck (T 55)⟩,
 ⟨(some 66), none, 2047, false, .faddr 2 (T 65)⟩,
 ⟨none, none, 4095, true, .store 1 (T 66) (T 64)⟩])
 (.seq (.region [
 D 67 (.load (some 2) (T 6)),
 E (.store 2 (T 4) (T 67)),
 D 5 (.mv (C (.int .i64 0)))])
 .ret)))))))), [.cell 4 (some 2), .tmp 5]⟩
theorem ac15_ok : compFn Try.prog Try.f15 = some ac15 := by kernel_rfl
/-- (*winepress/arena.Arena).Store -/
def ac16 : AFn := ⟨(.seq (.region [
 D 5 (.box true (T 1)),
 D 8 (.mv (C (.bool false)))])
 (.seq (.seq (.region [
 D 9 (.mv (T 0)),
 D 10 (.load (some 2) (T 5)),
 D 11 (.call 44 [(T 9), (T 10)]),
 D 12 (.un .not (T 11)),
 D 13 (.mv (T 12)),
 ⟨(some 14), (some (13, false)), 0, true, .mv (T 2)⟩,
 ⟨(some 15), (some (13, false)), 0, true, .bin .lss (T 14) (C (.int .i64 0))⟩,
 D 16 (.pick (T 13) (C (.bool true)) (T 15)),
 D 17 (.mv (T 16)),
 ⟨(some 18), (some (17, false)), 0, true, .mv (T 2)⟩,
 ⟨(some 19), (some (17, false)), 0, true, .faddr 1 (T 5)⟩,
 ⟨(some 20), (some (17, false)), 0, true, .load none (T 19)⟩,
 ⟨(some 21), (some (17, false)), 0, true, .mv (T 3)⟩,
 ⟨(some 22), (some (17, false)), 0, true, .len (T 21)⟩,
 ⟨(some 23), (some (17, false)), 0, true, .bin .sub (T 20) (T 22)⟩,
 ⟨(some 24), (some (17, false)), 0, true, .bin .gtr (T 18) (T 23)⟩,
 D 25 (.pick (T 17) (C (.bool true)) (T 24))])
 (.cond (T 25)
 (.seq (.region [
 D 8 (.mv (C (.bool false)))])
 .ret)
 .skip))
 (.seq (.drawn [
 ⟨(some 26), none, 0, false, .mv (T 0)⟩,
 ⟨(some 27), none, 1, false, .nilck (T 26)⟩,
 ⟨(some 28), none, 3, false, .faddr 0 (T 27)⟩,
 ⟨(some 29), none, 7, false, .load none (T 28)⟩,
 ⟨(some 30), none, 0, false, .faddr 0 (T 5)⟩,
 ⟨(some 31), none, 16, false, .load none (T 30)⟩,
 ⟨(some 32), none, 0, false, .mv (T 2)⟩,
 ⟨(some 33), none, 112, false, .bin .add (T 31) (T 32)⟩,
 ⟨(some 34), none, 255, false, .slice 1 (T 29) (some (T 33)) none none⟩,
 ⟨(some 35), none, 0, false, .mv (T 3)⟩,
 ⟨(some 36), none, 1023, true, .copy 1 (T 34) (T 35)⟩])
 (.seq (.region [
 D 8 (.mv (C (.bool true)))])
 .ret)))), [.tmp 8]⟩
theorem ac16_ok : compFn Try.prog Try.f16 = some ac16 := by kernel_rfl
/-- winepress/winepressref22.Valid -/
def ac17 : AFn := ⟨(.seq (.region [
 D 4 (.box true (T 1)),
 D 5 (.box true (T 2)),
 D 6 (.mv (C (.bool false)))])
 (.seq (.region [
 D 7 (.mv (T 0)),
 D 8 (.load (some 2) (T 4)),
 D 9 (.call 45 [(T 7), (T 8)]),
 D 10 (.mv (T 9)),
 ⟨(some 11), (some (10, true)), 0, true, .mv (T 0)⟩,
 ⟨(some 12), (some (10, true)), 0, true, .load (some 2) (T 5)⟩,
 ⟨(some 13), (some (10, true)), 0, true, .call 45 [(T 11), (T 12)]⟩,
 D 14 (.pick (T 10) (T 13) (C (.bool false))),
 D 15 (.mv (T 14)),
 ⟨(some 16), (some (15, true)), 0, true, .faddr 1 (T 4)⟩,
 ⟨(some 17), (some (15, true)), 0, true, .load none (T 16)⟩,
 ⟨(some 18), (some (15, true)), 0, true, .bin .geq (T 17) (C (.int .i64 1))⟩,
 D 19 (.pick (T 15) (T 18) (C (.bool false))),
 D 20 (.mv (T 19)),
 ⟨(some 21), (some (20, true)), 0, true, .faddr 1 (T 4)⟩,
 ⟨(some 22), (some (20, true)), 0, true, .load none (T 21)⟩,
 ⟨(some 23), (some (20, true)), 0, true, .bin .leq (T 22) (C (.int .i64 65536))⟩,
 D 24 (.pick (T 20) (T 23) (C (.bool false))),
 D 25 (.mv (T 24)),
 ⟨(some 26), (some (25, true)), 0, true, .faddr 1 (T 5)⟩,
 ⟨(some 27), (some (25, true)), 0, true, .load none (T 26)⟩,
 ⟨(some 28), (some (25, true)), 0, true, .faddr 1 (T 4)⟩,
 ⟨(some 29), (some (25, true)), 0, true, .load none (T 28)⟩,
 ⟨(some 30), (some (25, true)), 0, true, .bin .add (T 29) (C (.int .i64 1))⟩,
 ⟨(some 31), (some (25, true)), 0, true, .bin .mul (C (.int .i64 4)) (T 30)⟩,
 ⟨(some 32), (some (25, true)), 0, true, .bin .geq (T 27) (T 31)⟩,
 D 33 (.pick (T 25) (T 32) (C (.bool false))),
 D 34 (.mv (T 33)),
 ⟨(some 35), (some (34, true)), 0, true, .load (some 2) (T 4)⟩,
 ⟨(some 36), (some (34, true)), 0, true, .load (some 2) (T 5)⟩,
 ⟨(some 37), (some (34, true)), 0, true, .call 46 [(T 35), (T 36)]⟩,
 D 38 (.pick (T 34) (T 37) (C (.bool false))),
 D 6 (.mv (T 38))])
 .ret)), [.tmp 6]⟩
theorem ac17_ok : compFn Try.prog Try.f17 = some ac17 := by kernel_rfl
/-- a loop of winepress/tablewalk.New; it keeps [43, 42, 10, 11, 0, 7] -/
def lb18_0 : ACode := (.seq (.region [
 D 44 (.bin .lss (T 43) (T 42))])
 (.seq (.cond (T 44)
 .skip
 (.exit 1))
 (.seq (.block 2 (.seq (.region [
 D 45 (.mv (T 43)),
 D 12 (.mv (T 45))])
 (.seq (.region [
 D 13 (.mv (C (.int .i64 0)))])
 (.seq (.seq (.region [
 D 47 (.mv (T 10)),
 D 48 (.mv (T 12)),
 D 49 (.call 48 [(T 47), (T 48)]),
 D 46 (.mv (T 49)),
 D 50 (.ext (T 46) 0),
 D 51 (.ext (T 46) 1),
 D 14 (.mv (T 50)),
 D 15 (.mv (T 51))])
 (.seq (.region [
 D 52 (.mv (T 15))])
 (.cond (T 52)
 (.seq (.region [
 D 53 (.mv (T 14)),
 D 54 (.iaddra 1 256 (T 11) (T 53)),
 D 55 (.load none (T 54)),
 D 56 (.bin .add (T 55) (C (.int .i64 1))),
 D 57 (.iaddra 1 256 (T 11) (T 53)),
 E (.store 1 (T 57) (T 56))])
 (.region [
 D 58 (.mv (T 14)),
 D 59 (.iaddra 1 256 (T 11) (T 58)),
 D 60 (.load none (T 59)),
 D 13 (.mv (T 60))]))
 .skip)))
 (.region [
 D 61 (.mv (T 0)),
 D 62 (.load (some 2) (T 7)),
 D 63 (.mv (T 12)),
 D 64 (.mv (T 13)),
 D 65 (.conv .u32 (T 64)),
 D 66 (.call 49 [(T 61), (T 62), (T 63), (T 65)])])))))
 (.region [
 D 67 (.bin .add (T 43) (C (.int .i64 1))),
 D 43 (.mv (T 67))]))))
/-- winepress/tablewalk.New -/
def ac18 : AFn := ⟨(.seq (.region [
 D 5 (.box true (T 1)),
 D 7 (.box true (T 3)),
 D 8 (.mv (C (.pointer none))),
 D 9 (.mv (C (.int .i64 0)))])
 (.seq (.block 0 (.seq (.region [
 D 17 (.mv (T 0)),
 D 18 (.load (some 2) (T 5)),
 D 19 (.load (some 2) (T 7)),
 D 20 (.call 19 [(T 17), (T 18), (T 19)]),
 D 21 (.un .not (T 20)),
 D 16 (.mv (T 21))])
 (.cond (T 16)
 (.seq (.region [
 D 8 (.mv (C (.pointer none))),
 D 9 (.mv (C (.int .i64 2)))])
 .ret)
 (.seq (.region [
 D 23 (.mv (T 2)),
 D 24 (.bin .lss (T 23) (C (.int .i64 1))),
 D 25 (.mv (T 24)),
 ⟨(some 26), (some (25, false)), 0, true, .mv (T 2)⟩,
 ⟨(some 27), (some (25, false)), 0, true, .faddr 1 (T 5)⟩,
 ⟨(some 28), (some (25, false)), 0, true, .load none (T 27)⟩,
 ⟨(some 29), (some (25, false)), 0, true, .bin .gtr (T 26) (T 28)⟩,
 D 30 (.pick (T 25) (C (.bool true)) (T 29)),
 D 22 (.mv (T 30))])
 (.cond (T 22)
 (.seq (.region [
 D 8 (.mv (C (.pointer none))),
 D 9 (.mv (C (.int .i64 170)))])
 .ret)
 .skip)))))
 (.seq (.region [
 D 31 (.mv (T 0)),
 D 32 (.load (some 2) (T 5)),
 D 33 (.load (some 2) (T 7)),
 D 34 (.mv (T 2)),
 D 35 (.build [(.pointer none), (.int .i64 0), (.int .i64 0), (.int .i64 0), (.int .i64 0), (.int .i64 0), (.int .i64 0), (.int .i64 0), (.int .i64 0)] [(0, 1, (T 31)), (1, 2, (T 32)), (3, 2, (T 33)), (5, 1, (T 34))]),
 D 36 (.box false (T 35)),
 D 10 (.mv (T 36))])
 (.seq (.region [
 D 37 (.mv (T 0)),
 D 38 (.load (some 2) (T 5)),
 D 39 (.call 47 [(T 37), (T 38)]),
 D 11 (.alloc true (List.replicate 256 (.int .i64 0))),
 E (.store 256 (T 11) (T 39))])
 (.seq (.seq (.region [
 D 40 (.faddr 1 (T 5)),
 D 41 (.load none (T 40)),
 D 42 (.bin .add (T 41) (C (.int .i64 1))),
 D 43 (.mv (C (.int .i64 0)))])
 (.block 1 (.loop [43, 42, 10, 11, 0, 7] lb18_0)))
 (.seq (.region [
 D 68 (.mv (T 10)),
 D 8 (.mv (T 68)),
 D 9 (.mv (C (.int .i64 0)))])
 .ret)))))), [.tmp 8, .tmp 9]⟩
theorem ac18_ok : compFn Try.prog Try.f18 = some ac18 := by kernel_rfl
/-- winepress/tablewalk.Valid -/
def ac19 : AFn := ⟨(.seq (.region [
 D 4 (.box true (T 1)),
 D 5 (.box true (T 2)),
 D 6 (.mv (C (.bool false)))])
 (.seq (.seq (.region [
 D 7 (.mv (T 0)),
 D 8 (.load (some 2) (T 4)),
 D 9 (.call 44 [(T 7), (T 8)]),
 D 10 (.un .not (T 9)),
 D 11 (.mv (T 10)),
 ⟨(some 12), (some (11, false)), 0, true, .mv (T 0)⟩,
 ⟨(some 13), (some (11, false)), 0, true, .load (some 2) (T 5)⟩,
 ⟨(some 14), (some (11, false)), 0, true, .call 44 [(T 12), (T 13)]⟩,
 ⟨(some 15), (some (11, false)), 0, true, .un .not (T 14)⟩,
 D 16 (.pick (T 11) (C (.bool true)) (T 15)),
 D 17 (.mv (T 16)),
 ⟨(some 18), (some (17, false)), 0, true, .faddr 1 (T 4)⟩,
 ⟨(some 19), (some (17, false)), 0, true, .load none (T 18)⟩,
 ⟨(some 20), (some (17, false)), 0, true, .bin .lss (T 19) (C (.int .i64 1))⟩,
 D 21 (.pick (T 17) (C (.bool true)) (T 20)),
 D 22 (.mv (T 21)),
 ⟨(some 23), (some (22, false)), 0, true, .faddr 1 (T 4)⟩,
 ⟨(some 24), (some (22, false)), 0, true, .load none (T 23)⟩,
 ⟨(some 25), (some (22, false)), 0, true, .bin .gtr (T 24) (C (.int .i64 65536))⟩,
 D 26 (.pick (T 22) (C (.bool true)) (T 25)),
 D 27 (.mv (T 26)),
 ⟨(some 28), (some (27, false)), 0, true, .faddr 1 (T 5)⟩,
 ⟨(some 29), (some (27, false)), 0, true, .load none (T 28)⟩,
 ⟨(some 30), (some (27, false)), 0, true, .faddr 1 (T 4)⟩,
 ⟨(some 31), (some (27, false)), 0, true, .load none (T 30)⟩,
 ⟨(some 32), (some (27, false)), 0, true, .bin .add (T 31) (C (.int .i64 1))⟩,
 ⟨(some 33), (some (27, false)), 0, true, .bin .mul (C (.int .i64 4)) (T 32)⟩,
 ⟨(some 34), (some (27, false)), 0, true, .bin .lss (T 29) (T 33)⟩,
 D 35 (.pick (T 27) (C (.bool true)) (T 34))])
 (.cond (T 35)
 (.seq (.region [
 D 6 (.mv (C (.bool false)))])
 .ret)
 .skip))
 (.seq (.region [
 D 36 (.faddr 0 (T 4)),
 D 37 (.load none (T 36)),
 D 38 (.faddr 1 (T 4)),
 D 39 (.load none (T 38)),
 D 40 (.bin .add (T 37) (T 39)),
 D 41 (.faddr 0 (T 5)),
 D 42 (.load none (T 41)),
 D 43 (.bin .leq (T 40) (T 42)),
 D 44 (.mv (T 43)),
 ⟨(some 45), (some (44, false)), 0, true, .faddr 0 (T 5)⟩,
 ⟨(some 46), (some (44, false)), 0, true, .load none (T 45)⟩,
 ⟨(some 47), (some (44, false)), 0, true, .faddr 1 (T 5)⟩,
 ⟨(some 48), (some (44, false)), 0, true, .load none (T 47)⟩,
 ⟨(some 49), (some (44, false)), 0, true, .bin .add (T 46) (T 48)⟩,
 ⟨(some 50), (some (44, false)), 0, true, .faddr 0 (T 4)⟩,
 ⟨(some 51), (some (44, false)), 0, true, .load none (T 50)⟩,
 ⟨(some 52), (some (44, false)), 0, true, .bin .leq (T 49) (T 51)⟩,
 D 53 (.pick (T 44) (C (.bool true)) (T 52)),
 D 6 (.mv (T 53))])
 .ret))), [.tmp 6]⟩
theorem ac19_ok : compFn Try.prog Try.f19 = some ac19 := by kernel_rfl
/-- (*winepress/arena.Arena).Load -/
def ac20 : AFn := ⟨(.seq (.region [
 D 3 (.box true (T 1)),
 D 4 (.mv (C (.slice none 0 0)))])
 (.seq (.seq (.region [
 D 5 (.mv (T 0)),
 D 6 (.load (some 2) (T 3)),
 D 7 (.call 44 [(T 5), (T 6)]),
 D 8 (.un .not (T 7))])
 (.cond (T 8)
 (.seq (.region [
 D 4 (.mv (C (.slice none 0 0)))])
 .ret)
 .skip))
 (.seq (.drawn [
 ⟨(some 9), none, 0, false, .mv (T 0)⟩,
 ⟨(some 10), none, 1, false, .nilck (T 9)⟩,
 ⟨(some 11), none, 3, false, .faddr 0 (T 10)⟩,
 ⟨(some 12), none, 7, false, .load none (T 11)⟩,
 ⟨(some 13), none, 0, false, .faddr 0 (T 3)⟩,
 ⟨(some 14), none, 16, false, .load none (T 13)⟩,
 ⟨(some 15), none, 0, false, .faddr 0 (T 3)⟩,
 ⟨(some 16), none, 64, false, .load none (T 15)⟩,
 ⟨(some 17), none, 0, false, .faddr 1 (T 3)⟩,
 ⟨(some 18), none, 256, false, .load none (T 17)⟩,
 ⟨(some 19), none, 960, false, .bin .add (T 16) (T 18)⟩,
 ⟨(some 20), none, 2047, false, .slice 1 (T 12) (some (T 14)) (some (T 19)) none⟩,
 ⟨(some 21), none, 4095, true, .call 50 [(T 20)]⟩,
 ⟨(some 4), none, 8191, false, .mv (T 21)⟩])
 .ret))), [.tmp 4]⟩
theorem ac20_ok : compFn Try.prog Try.f20 = some ac20 := by kernel_rfl
/-- a loop of winepress/winepressref22.Rows; it keeps [5, 6, 0, 1] -/
def lb21_0 : ACode := (.seq (.seq (.region [
 D 10 (.mv (T 6)),
 D 11 (.mv (T 0)),
 D 12 (.len (T 11)),
 D 13 (.bin .leq (T 10) (T 12))])
 (.cond (T 13)
 .skip
 (.exit 0)))
 (.seq (.block 1 (.seq (.region [
 D 17 (.mv (T 0)),
 D 18 (.mv (T 1)),
 D 19 (.mv (T 6)),
 D 20 (.call 31 [(T 17), (T 18), (T 19)]),
 D 16 (.mv (T 20)),
 D 21 (.ext (T 16) 0),
 D 22 (.ext (T 16) 1),
 D 23 (.ext (T 16) 2),
 D 7 (.mv (T 21)),
 D 8 (.mv (T 22)),
 D 9 (.mv (T 23))])
 (.region [
 D 24 (.mv (T 5)),
 D 25 (.mv (T 7)),
 D 26 (.bslice true 1 1 [(.int .i64 0)] [(0, 1, (T 25))]),
 D 27 (.append true 1 (T 24) (T 26)),
 D 5 (.mv (T 27))])))
 (.region [
 D 14 (.mv (T 6)),
 D 15 (.bin .add (T 14) (C (.int .i64 1))),
 D 6 (.mv (T 15))])))
/-- winepress/winepressref22.Rows -/
def ac21 : AFn := ⟨(.seq (.region [
 D 4 (.mv (C (.slice none 0 0)))])
 (.seq (.region [
 D 5 (.mv (C (.slice none 0 0)))])
 (.seq (.seq (.region [
 D 6 (.mv (C (.int .i64 0)))])
 (.block 0 (.loop [5, 6, 0, 1] lb21_0)))
 (.seq (.region [
 D 28 (.mv (T 5)),
 D 4 (.mv (T 28))])
 .ret)))), [.tmp 4]⟩
theorem ac21_ok : compFn Try.prog Try.f21 = some ac21 := by kernel_rfl
/-- a loop of (*winepress/arena.Arena).Word; it keeps [6, 17, 16, 8, 15] -/
def lb22_0 : ACode := (.seq (.region [
 D 18 (.bin .lss (T 17) (T 16))])
 (.seq (.cond (T 18)
 .skip
 (.exit 0))
 (.seq (.block 1 (.seq (.region [
 D 19 (.mv (T 17)),
 D 20 (.iaddr 1 (T 15) (T 17)),
 D 21 (.load none (T 20)),
 D 9 (.mv (T 19)),
 D 10 (.mv (T 21))])
 (.region [
 D 22 (.mv (T 6)),
 D 23 (.mv (T 10)),
 D 24 (.conv .u32 (T 23)),
 D 25 (.mv (T 9)),
 D 26 (.bin .mul (C (.int .i64 8)) (T 25)),
 D 27 (.bin .shl (T 24) (T 26)),
 D 28 (.bin .or (T 22) (T 27)),
 D 6 (.mv (T 28))])))
 (.region [
 D 29 (.bin .add (T 17) (C (.int .i64 1))),
 D 17 (.mv (T 29))]))))
/-- (*winepress/arena.Arena).Word -/
def ac22 : AFn := ⟨(.seq (.region [
 D 4 (.box true (T 1)),
 D 6 (.mv (C (.int .u32 0))),
 D 7 (.mv (C (.bool false)))])
 (.seq (.region [
 D 11 (.mv (T 0)),
 D 12 (.load (some 2) (T 4)),
 D 13 (.mv (T 2)),
 D 14 (.call 51 [(T 11), (T 12), (T 13)]),
 D 8 (.mv (T 14))])
 (.seq (.seq (.region [
 D 15 (.mv (T 8)),
 D 16 (.len (T 15)),
 D 17 (.mv (C (.int .i64 0)))])
 (.block 0 (.loop [6, 17, 16, 8, 15] lb22_0)))
 (.seq (.region [
 D 30 (.mv (T 6)),
 D 31 (.mv (T 8)),
 D 32 (.eqs true .slice (T 31) (C (.slice none 0 0))),
 D 6 (.mv (T 30)),
 D 7 (.mv (T 32))])
 .ret)))), [.tmp 6, .tmp 7]⟩
theorem ac22_ok : compFn Try.prog Try.f22 = some ac22 := by kernel_rfl
/-- a loop of winepress/winepresslaw22.asked; it keeps [1, 0, 2, 7] -/
def lb23_0 : ACode := (.seq (.seq (.region [
 D 13 (.mv (T 7)),
 D 14 (.mv (T 2)),
 D 15 (.len (T 14)),
 D 16 (.bin .lss (T 13) (T 15))])
 (.cond (T 16)
 .skip
 (.exit 0)))
 (.seq (.block 1 (.seq (.region [
 D 8 (.mv (C (.bool true)))])
 (.seq (.seq (.region [
 D 19 (.mv (T 2)),
 D 20 (.mv (T 7)),
 D 21 (.iaddr 1 (T 19) (T 20)),
 D 22 (.load none (T 21))])
 (.block 2 (.seq (.region [
 D 32 (.bin .eql (T 22) (C (.int .i64 0))),
 D 31 (.mv (T 32))])
 (.cond (T 31)
 (.seq (.region [
 D 34 (.mv (T 0)),
 D 35 (.call 29 [(T 34)]),
 D 33 (.mv (T 35)),
 D 36 (.ext (T 33) 0),
 D 37 (.ext (T 33) 1),
 D 9 (.mv (T 36)),
 D 10 (.mv (T 37))])
 (.seq (.region [
 D 39 (.mv (T 1)),
 D 40 (.call 52 [(T 39)]),
 D 38 (.mv (T 40)),
 D 41 (.ext (T 38) 0),
 D 42 (.ext (T 38) 1),
 D 11 (.mv (T 41)),
 D 12 (.mv (T 42))])
 (.region [
 D 43 (.mv (T 9)),
 D 44 (.mv (T 11)),
 D 45 (.bin .eql (T 43) (T 44)),
 D 46 (.mv (T 45)),
 ⟨(some 47), (some (46, true)), 0, true, .mv (T 10)⟩,
 ⟨(some 48), (some (46, true)), 0, true, .mv (T 12)⟩,
 ⟨(some 49), (some (46, true)), 0, true, .eqs false .bool (T 47) (T 48)⟩,
 D 50 (.pick (T 46) (T 49) (C (.bool false))),
 D 8 (.mv (T 50))])))
 (.seq (.region [
 D 52 (.bin .eql (T 22) (C (.int .i64 1))),
 D 51 (.mv (T 52))])
 (.cond (T 51)
 (.region [
 D 53 (.mv (T 0)),
 D 54 (.call 26 [(T 53)]),
 D 55 (.mv (T 1)),
 D 56 (.call 53 [(T 55)]),
 D 57 (.eqs false .bool (T 54) (T 56)),
 D 8 (.mv (T 57))])
 (.seq (.region [
 D 23 (.mv (T 0)),
 D 24 (.call 43 [(T 23)])])
 (.region [
 D 25 (.mv (T 1)),
 D 26 (.mv (T 1)),
 D 27 (.nilck (T 25)),
 D 28 (.faddr 2 (T 27)),
 E (.store 1 (T 28) (C (.int .i64 0))),
 D 29 (.nilck (T 26)),
 D 30 (.faddr 3 (T 29)),
 E (.store 1 (T 30) (C (.int .i64 0)))]))))))))
 (.seq (.drawn [
 ⟨(some 58), none, 0, false, .mv (T 8)⟩,
 ⟨(some 59), none, 1, false, .un .not (T 58)⟩,
 ⟨(some 60), none, 3, false, .mv (T 59)⟩,
 ⟨(some 61), (some (60, false)), 7, false, .mv (T 0)⟩,
 ⟨(some 62), (some (60, false)), 15, false, .call 27 [(T 61)]⟩,
 ⟨(some 63), (some (60, false)), 7, false, .mv (T 1)⟩,
 ⟨(some 64), (some (60, false)), 39, false, .nilck (T 63)⟩,
 ⟨(some 65), (some (60, false)), 103, false, .faddr 4 (T 64)⟩,
 ⟨(some 66), (some (60, false)), 231, false, .load none (T 65)⟩,
 ⟨(some 67), (some (60, false)), 511, false, .bin .neq (T 62) (T 66)⟩,
 ⟨(some 68), none, 1023, false, .pick (T 60) (C (.bool true)) (T 67)⟩,
 ⟨(some 69), none, 2047, false, .mv (T 68)⟩,
 ⟨(some 70), (some (69, false)), 4095, false, .mv (T 0)⟩,
 ⟨(some 71), (some (69, false)), 8191, false, .call 28 [(T 70)]⟩,
 ⟨(some 72), (some (69, false)), 4095, false, .mv (T 1)⟩,
 ⟨(some 73), (some (69, false)), 20479, false, .nilck (T 72)⟩,
 ⟨(some 74), (some (69, false)), 53247, false, .faddr 3 (T 73)⟩,
 ⟨(some 75), (some (69, false)), 118783, false, .load none (T 74)⟩,
 ⟨(some 76), (some (69, false)), 262143, false, .bin .neq (T 71) (T 75)⟩,
 ⟨(some 77), none, 524287, false, .pick (T 69) (C (.bool true)) (T 76)⟩])
 (.cond (T 77)
 (.seq (.region [
 D 6 (.mv (C (.bool false)))])
 .ret)
 .skip)))))
 (.region [
 D 17 (.mv (T 7)),
 D 18 (.bin .add (T 17) (C (.int .i64 1))),
 D 7 (.mv (T 18))])))
/-- winepress/winepresslaw22.asked -/
def ac23 : AFn := ⟨(.seq (.region [
 D 6 (.mv (C (.bool false)))])
 (.seq (.seq (.region [
 D 7 (.mv (C (.int .i64 0)))])
 (.block 0 (.loop [1, 0, 2, 7] lb23_0)))
 (.seq (.region [
 D 6 (.mv (C (.bool true)))])
 .ret))), [.tmp 6]⟩
theorem ac23_ok : compFn Try.prog Try.f23 = some ac23 := by kernel_rfl
/-- winepress/winepresslaw22.laid -/
def ac25 : AFn := ⟨(.seq (.region [
 D 2 (.mv (C (.pointer none))),
 D 3 (.alloc true [(.int .i64 0), (.int .i64 0)]),
 D 4 (.alloc true [(.int .i64 0), (.int .i64 0)])])
 (.seq (.region [
 D 14 (.mv (T 0)),
 D 15 (.len (T 14)),
 D 16 (.bin .mul (C (.int .i64 5)) (T 15)),
 D 17 (.bin .add (T 16) (C (.int .i64 9))),
 D 18 (.call 12 [(T 17)]),
 D 13 (.mv (T 18)),
 D 19 (.ext (T 13) 0),
 D 20 (.ext (T 13) 1),
 D 5 (.mv (T 19)),
 D 6 (.mv (T 20))])
 (.seq (.seq (.region [
 D 21 (.mv (T 6)),
 D 22 (.bin .neq (T 21) (C (.int .i64 0))),
 D 23 (.mv (T 22)),
 ⟨(some 24), (some (23, false)), 0, true, .mv (T 5)⟩,
 ⟨(some 25), (some (23, false)), 0, true, .eqs false .ptr (T 24) (C (.pointer none))⟩,
 D 26 (.pick (T 23) (C (.bool true)) (T 25))])
 (.cond (T 26)
 (.seq (.region [
 D 27 (.build [(.int .i64 0), (.int .i64 0)] []),
 D 28 (.build [(.int .i64 0), (.int .i64 0)] []),
 D 2 (.mv (C (.pointer none))),
 E (.store 2 (T 3) (T 27)),
 E (.store 2 (T 4) (T 28))])
 .ret)
 .skip))
 (.seq (.region [
 D 30 (.mv (T 5)),
 D 31 (.mv (T 0)),
 D 32 (.len (T 31)),
 D 33 (.call 14 [(T 30), (T 32)]),
 D 29 (.mv (T 33)),
 D 34 (.ext (T 29) 0),
 D 35 (.ext (T 29) 1),
 D 7 (.alloc true [(.int .i64 0), (.int .i64 0)]),
 E (.store 2 (T 7) (T 34)),
 D 8 (.mv (T 35))])
 (.seq (.region [
 D 37 (.mv (T 5)),
 D 38 (.mv (T 0)),
 D 39 (.len (T 38)),
 D 40 (.bin .add (T 39) (C (.int .i64 1))),
 D 41 (.bin .mul (C (.int .i64 4)) (T 40)),
 D 42 (.call 14 [(T 37), (T 41)]),
 D 36 (.mv (T 42)),
 D 43 (.ext (T 36) 0),
 D 44 (.ext (T 36) 1),
 D 9 (.alloc true [(.int .i64 0), (.int .i64 0)]),
 E (.store 2 (T 9) (T 43)),
 D 10 (.mv (T 44))])
 (.seq (.region [
 D 46 (.mv (T 5)),
 D 47 (.call 14 [(T 46), (C (.int .i64 5))]),
 D 45 (.mv (T 47)),
 D 48 (.ext (T 45) 0),
 D 49 (.ext (T 45) 1),
 D 11 (.alloc true [(.int .i64 0), (.int .i64 0)]),
 E (.store 2 (T 11) (T 48)),
 D 12 (.mv (T 49))])
 (.seq (.seq (.region [
 D 50 (.mv (T 8)),
 D 51 (.bin .neq (T 50) (C (.int .i64 0))),
 D 52 (.mv (T 51)),
 ⟨(some 53), (some (52, false)), 0, true, .mv (T 10)⟩,
 ⟨(some 54), (some (52, false)), 0, true, .bin .neq (T 53) (C (.int .i64 0))⟩,
 D 55 (.pick (T 52) (C (.bool true)) (T 54)),
 D 56 (.mv (T 55)),
 ⟨(some 57), (some (56, false)), 0, true, .mv (T 12)⟩,
 ⟨(some 58), (some (56, false)), 0, true, .bin .neq (T 57) (C (.int .i64 0))⟩,
 D 59 (.pick (T 56) (C (.bool true)) (T 58)),
 D 60 (.mv (T 59)),
 ⟨(some 61), (some (60, false)), 0, true, .mv (T 5)⟩,
 ⟨(some 62), (some (60, false)), 0, true, .load (some 2) (T 7)⟩,
 ⟨(some 63), (some (60, false)), 0, true, .mv (T 0)⟩,
 ⟨(some 64), (some (60, false)), 0, true, .call 16 [(T 61), (T 62), (C (.int .i64 0)), (T 63)]⟩,
 ⟨(some 65), (some (60, false)), 0, true, .un .not (T 64)⟩,
 D 66 (.pick (T 60) (C (.bool true)) (T 65))])
 (.cond (T 66)
 (.seq (.moves [
 D 67 (.load (some 2) (T 7)),
 D 68 (.load (some 2) (T 9)),
 D 2 (.mv (C (.pointer none))),
 E (.store 2 (T 3) (T 67)),
 E (.store 2 (T 4) (T 68))])
 .ret)
 .skip))
 (.seq (.moves [
 D 69 (.mv (T 5)),
 D 70 (.load (some 2) (T 7)),
 D 71 (.load (some 2) (T 9)),
 D 2 (.mv (T 69)),
 E (.store 2 (T 3) (T 70)),
 E (.store 2 (T 4) (T 71))])
 .ret)))))))), [.tmp 2, .cell 3 (some 2), .cell 4 (some 2)]⟩
theorem ac25_ok : compFn Try.prog Try.f25 = some ac25 := by kernel_rfl
/-- a loop of (*winepress/tablewalk.Full).Valid; it keeps [3, 0, 13, 14] -/
def lb26_0 : ACode := (.seq (.region [
 D 15 (.bin .lss (T 14) (T 13))])
 (.seq (.cond (T 15)
 .skip
 (.exit 0))
 (.seq (.block 1 (.seq (.region [
 D 17 (.mv (T 0)),
 D 18 (.mv (T 3)),
 D 19 (.call 55 [(T 17), (T 18)]),
 D 16 (.mv (T 19)),
 D 20 (.ext (T 16) 0),
 D 21 (.ext (T 16) 1),
 D 22 (.ext (T 16) 2),
 D 4 (.mv (T 20)),
 D 5 (.mv (T 21)),
 D 6 (.mv (T 22))])
 (.seq (.seq (.region [
 D 23 (.mv (T 6)),
 D 24 (.un .not (T 23))])
 (.cond (T 24)
 (.seq (.region [
 D 2 (.mv (C (.bool false)))])
 .ret)
 .skip))
 (.region [
 D 25 (.mv (T 4)),
 D 3 (.mv (T 25))]))))
 (.region [
 D 26 (.bin .add (T 14) (C (.int .i64 1))),
 D 14 (.mv (T 26))]))))
/-- (*winepress/tablewalk.Full).Valid -/
def ac26 : AFn := ⟨(.seq (.region [
 D 2 (.mv (C (.bool false)))])
 (.seq (.seq (.region [
 D 7 (.mv (T 0)),
 D 8 (.eqs false .ptr (T 7) (C (.pointer none)))])
 (.cond (T 8)
 (.seq (.region [
 D 2 (.mv (C (.bool false)))])
 .ret)
 .skip))
 (.seq (.region [
 D 3 (.mv (C (.int .i64 0)))])
 (.seq (.seq (.region [
 D 9 (.mv (T 0)),
 D 10 (.nilck (T 9)),
 D 11 (.faddr 1 (T 10)),
 D 12 (.faddr 1 (T 11)),
 D 13 (.load none (T 12)),
 D 14 (.mv (C (.int .i64 0)))])
 (.block 0 (.loop [3, 0, 13, 14] lb26_0)))
 (.seq (.region [
 D 27 (.mv (T 3)),
 D 28 (.mv (T 0)),
 D 29 (.nilck (T 28)),
 D 30 (.faddr 5 (T 29)),
 D 31 (.load none (T 30)),
 D 32 (.bin .eql (T 27) (T 31)),
 D 2 (.mv (T 32))])
 .ret))))), [.tmp 2]⟩
theorem ac26_ok : compFn Try.prog Try.f26 = some ac26 := by kernel_rfl
/-- (*winepress/tablewalk.Full).Steps -/
def ac27 : AFn := ⟨(.seq (.region [
 D 2 (.mv (C (.int .i64 0)))])
 (.seq (.seq (.region [
 D 3 (.mv (T 0)),
 D 4 (.eqs false .ptr (T 3) (C (.pointer none)))])
 (.cond (T 4)
 (.seq (.region [
 D 2 (.mv (C (.int .i64 0)))])
 .ret)
 .skip))
 (.seq (.region [
 D 5 (.mv (T 0)),
 D 6 (.nilck (T 5)),
 D 7 (.faddr 8 (T 6)),
 D 8 (.load none (T 7)),
 D 2 (.mv (T 8))])
 .ret))), [.tmp 2]⟩
theorem ac27_ok : compFn Try.prog Try.f27 = some ac27 := by kernel_rfl
/-- (*winepress/tablewalk.Full).Told -/
def ac28 : AFn := ⟨(.seq (.region [
 D 2 (.mv (C (.int .i64 0)))])
 (.seq (.seq (.region [
 D 3 (.mv (T 0)),
 D 4 (.eqs false .ptr (T 3) (C (.pointer none)))])
 (.cond (T 4)
 (.seq (.region [
 D 2 (.mv (C (.int .i64 0)))])
 .ret)
 .skip))
 (.seq (.region [
 D 5 (.mv (T 0)),
 D 6 (.nilck (T 5)),
 D 7 (.faddr 7 (T 6)),
 D 8 (.load none (T 7)),
 D 2 (.mv (T 8))])
 .ret))), [.tmp 2]⟩
theorem ac28_ok : compFn Try.prog Try.f28 = some ac28 := by kernel_rfl
/-- (*winepress/tablewalk.Full).Next -/
def ac29 : AFn := ⟨(.seq (.region [
 D 2 (.mv (C (.int .u8 0))),
 D 3 (.mv (C (.bool false)))])
 (.seq (.seq (.drawn [
 ⟨(some 7), none, 0, false, .mv (T 0)⟩,
 ⟨(some 8), none, 1, false, .eqs false .ptr (T 7) (C (.pointer none))⟩,
 ⟨(some 9), none, 3, false, .mv (T 8)⟩,
 ⟨(some 10), (some (9, false)), 7, false, .mv (T 0)⟩,
 ⟨(some 11), (some (9, false)), 15, false, .nilck (T 10)⟩,
 ⟨(some 12), (some (9, false)), 31, false, .faddr 7 (T 11)⟩,
 ⟨(some 13), (some (9, false)), 63, false, .load none (T 12)⟩,
 ⟨(some 14), (some (9, false)), 7, false, .mv (T 0)⟩,
 ⟨(some 15), (some (9, false)), 135, false, .nilck (T 14)⟩,
 ⟨(some 16), (some (9, false)), 391, false, .faddr 1 (T 15)⟩,
 ⟨(some 17), (some (9, false)), 903, false, .faddr 1 (T 16)⟩,
 ⟨(some 18), (some (9, false)), 1927, false, .load none (T 17)⟩,
 ⟨(some 19), (some (9, false)), 4095, false, .bin .eql (T 13) (T 18)⟩,
 ⟨(some 20), none, 8191, false, .pick (T 9) (C (.bool true)) (T 19)⟩])
 (.cond (T 20)
 (.seq (.region [
 D 2 (.mv (C (.int .u8 0))),
 D 3 (.mv (C (.bool false)))])
 .ret)
 .skip))
 (.seq (.region [
 D 22 (.mv (T 0)),
 D 23 (.mv (T 0)),
 D 24 (.nilck (T 23)),
 D 25 (.faddr 6 (T 24)),
 D 26 (.load none (T 25)),
 D 27 (.call 55 [(T 22), (T 26)]),
 D 21 (.mv (T 27)),
 D 28 (.ext (T 21) 0),
 D 29 (.ext (T 21) 1),
 D 30 (.ext (T 21) 2),
 D 4 (.mv (T 28)),
 D 5 (.mv (T 29)),
 D 6 (.mv (T 30))])
 (.seq (.seq (.region [
 D 31 (.mv (T 6)),
 D 32 (.un .not (T 31))])
 (.cond (T 32)
 (.seq (.region [
 D 2 (.mv (C (.int .u8 0))),
 D 3 (.mv (C (.bool false)))])
 .ret)
 .skip))
 (.seq (.region [
 D 33 (.mv (T 0)),
 D 34 (.mv (T 4)),
 D 35 (.nilck (T 33)),
 D 36 (.faddr 6 (T 35)),
 E (.store 1 (T 36) (T 34))])
 (.seq (.region [
 D 37 (.mv (T 0)),
 D 38 (.nilck (T 37)),
 D 39 (.faddr 7 (T 38)),
 D 40 (.load none (T 39)),
 D 41 (.bin .add (T 40) (C (.int .i64 1))),
 D 42 (.nilck (T 37)),
 D 43 (.faddr 7 (T 42)),
 E (.store 1 (T 43) (T 41))])
 (.seq (.region [
 D 44 (.mv (T 5)),
 D 2 (.mv (T 44)),
 D 3 (.mv (C (.bool true)))])
 .ret))))))), [.tmp 2, .tmp 3]⟩
theorem ac29_ok : compFn Try.prog Try.f29 = some ac29 := by kernel_rfl
/-- a loop of winepress/winepressref17.Next; it keeps [10, 11, 0, 9] -/
def lb31_0 : ACode := (.seq (.seq (.region [
 D 41 (.mv (T 11)),
 D 42 (.mv (T 0)),
 D 43 (.len (T 42)),
 D 44 (.bin .lss (T 41) (T 43))])
 (.cond (T 44)
 .skip
 (.exit 0)))
 (.seq (.block 1 (.seq (.drawn [
 ⟨(some 47), none, 0, false, .mv (T 0)⟩,
 ⟨(some 48), none, 0, false, .mv (T 11)⟩,
 ⟨(some 49), none, 3, false, .iaddr 1 (T 47) (T 48)⟩,
 ⟨(some 50), none, 7, false, .load none (T 49)⟩,
 ⟨(some 51), none, 0, false, .mv (T 0)⟩,
 ⟨(some 52), none, 0, false, .mv (T 9)⟩,
 ⟨(some 53), none, 48, false, .iaddr 1 (T 51) (T 52)⟩,
 ⟨(some 54), none, 112, false, .load none (T 53)⟩,
 ⟨(some 55), none, 255, false, .bin .lss (T 50) (T 54)⟩,
 ⟨(some 56), none, 511, false, .mv (T 55)⟩,
 ⟨(some 57), (some (56, false)), 1023, false, .mv (T 0)⟩,
 ⟨(some 58), (some (56, false)), 1023, false, .mv (T 11)⟩,
 ⟨(some 59), (some (56, false)), 4095, false, .iaddr 1 (T 57) (T 58)⟩,
 ⟨(some 60), (some (56, false)), 8191, false, .load none (T 59)⟩,
 ⟨(some 61), (some (56, false)), 1023, false, .mv (T 0)⟩,
 ⟨(some 62), (some (56, false)), 1023, false, .mv (T 9)⟩,
 ⟨(some 63), (some (56, false)), 50175, false, .iaddr 1 (T 61) (T 62)⟩,
 ⟨(some 64), (some (56, false)), 115711, false, .load none (T 63)⟩,
 ⟨(some 65), (some (56, false)), 262143, false, .bin .eql (T 60) (T 64)⟩,
 ⟨(some 66), (some (56, false)), 524287, false, .mv (T 65)⟩,
 ⟨(some 67), (some (66, true)), 1048575, false, .mv (T 11)⟩,
 ⟨(some 68), (some (66, true)), 1048575, false, .mv (T 9)⟩,
 ⟨(some 69), (some (66, true)), 4194303, false, .bin .lss (T 67) (T 68)⟩,
 ⟨(some 70), (some (56, false)), 8388607, false, .pick (T 66) (T 69) (C (.bool false))⟩,
 ⟨(some 71), none, 16777215, false, .pick (T 56) (C (.bool true)) (T 70)⟩])
 (.cond (T 71)
 (.region [
 D 72 (.mv (T 10)),
 D 73 (.bin .add (T 72) (C (.int .i64 1))),
 D 10 (.mv (T 73))])
 .skip)))
 (.region [
 D 45 (.mv (T 11)),
 D 46 (.bin .add (T 45) (C (.int .i64 1))),
 D 11 (.mv (T 46))])))
/-- winepress/winepressref17.Next -/
def ac31 : AFn := ⟨(.seq (.region [
 D 6 (.mv (C (.int .i64 0))),
 D 7 (.mv (C (.int .u8 0))),
 D 8 (.mv (C (.bool false)))])
 (.seq (.seq (.region [
 D 12 (.mv (T 1)),
 D 13 (.bin .lss (T 12) (C (.int .i64 0))),
 D 14 (.mv (T 13)),
 ⟨(some 15), (some (14, false)), 0, true, .mv (T 1)⟩,
 ⟨(some 16), (some (14, false)), 0, true, .mv (T 0)⟩,
 ⟨(some 17), (some (14, false)), 0, true, .len (T 16)⟩,
 ⟨(some 18), (some (14, false)), 0, true, .bin .gtr (T 15) (T 17)⟩,
 D 19 (.pick (T 14) (C (.bool true)) (T 18)),
 D 20 (.mv (T 19)),
 ⟨(some 21), (some (20, false)), 0, true, .mv (T 2)⟩,
 ⟨(some 22), (some (20, false)), 0, true, .bin .lss (T 21) (C (.int .i64 0))⟩,
 D 23 (.pick (T 20) (C (.bool true)) (T 22)),
 D 24 (.mv (T 23)),
 ⟨(some 25), (some (24, false)), 0, true, .mv (T 2)⟩,
 ⟨(some 26), (some (24, false)), 0, true, .mv (T 0)⟩,
 ⟨(some 27), (some (24, false)), 0, true, .len (T 26)⟩,
 ⟨(some 28), (some (24, false)), 0, true, .bin .gtr (T 25) (T 27)⟩,
 D 29 (.pick (T 24) (C (.bool true)) (T 28)),
 D 30 (.mv (T 29)),
 ⟨(some 31), (some (30, false)), 0, true, .mv (T 2)⟩,
 ⟨(some 32), (some (30, false)), 0, true, .mv (T 1)⟩,
 ⟨(some 33), (some (30, false)), 0, true, .bin .eql (T 31) (T 32)⟩,
 D 34 (.pick (T 30) (C (.bool true)) (T 33))])
 (.cond (T 34)
 (.seq (.region [
 D 6 (.mv (C (.int .i64 0))),
 D 7 (.mv (C (.int .u8 0))),
 D 8 (.mv (C (.bool false)))])
 .ret)
 .skip))
 (.seq (.region [
 D 35 (.mv (T 2)),
 D 9 (.mv (T 35))])
 (.seq (.seq (.region [
 D 36 (.mv (T 2)),
 D 37 (.mv (T 1)),
 D 38 (.bin .gtr (T 36) (T 37))])
 (.cond (T 38)
 (.region [
 D 39 (.mv (T 2)),
 D 40 (.bin .sub (T 39) (C (.int .i64 1))),
 D 9 (.mv (T 40))])
 .skip))
 (.seq (.region [
 D 10 (.mv (C (.int .i64 1)))])
 (.seq (.seq (.region [
 D 11 (.mv (C (.int .i64 0)))])
 (.block 0 (.loop [10, 11, 0, 9] lb31_0)))
 (.seq (.drawn [
 ⟨(some 74), none, 0, false, .mv (T 10)⟩,
 ⟨(some 75), none, 0, false, .mv (T 0)⟩,
 ⟨(some 76), none, 0, false, .mv (T 9)⟩,
 ⟨(some 77), none, 6, false, .iaddr 1 (T 75) (T 76)⟩,
 ⟨(some 78), none, 14, true, .load none (T 77)⟩,
 ⟨(some 6), none, 1, false, .mv (T 74)⟩,
 ⟨(some 7), none, 63, false, .mv (T 78)⟩,
 ⟨(some 8), none, 127, false, .mv (C (.bool true))⟩])
 .ret))))))), [.tmp 6, .tmp 7, .tmp 8]⟩
theorem ac31_ok : compFn Try.prog Try.f31 = some ac31 := by kernel_rfl
/-- (*winepress/tablewalk.Full).Reset -/
def ac43 : AFn := ⟨(.seq (.region [
 D 2 (.mv (T 0)),
 D 3 (.eqs true .ptr (T 2) (C (.pointer none)))])
 (.cond (T 3)
 (.region [
 D 4 (.mv (T 0)),
 D 5 (.mv (T 0)),
 D 6 (.nilck (T 4)),
 D 7 (.faddr 6 (T 6)),
 E (.store 1 (T 7) (C (.int .i64 0))),
 D 8 (.nilck (T 5)),
 D 9 (.faddr 7 (T 8)),
 E (.store 1 (T 9) (C (.int .i64 0)))])
 .skip)), []⟩
theorem ac43_ok : compFn Try.prog Try.f43 = some ac43 := by kernel_rfl
/-- (*winepress/arena.Arena).Has -/
def ac44 : AFn := ⟨(.seq (.region [
 D 3 (.box true (T 1)),
 D 4 (.mv (C (.bool false)))])
 (.seq (.drawn [
 ⟨(some 5), none, 0, false, .mv (T 0)⟩,
 ⟨(some 6), none, 1, false, .eqs true .ptr (T 5) (C (.pointer none))⟩,
 ⟨(some 7), none, 3, false, .mv (T 6)⟩,
 ⟨(some 8), (some (7, true)), 7, false, .faddr 0 (T 3)⟩,
 ⟨(some 9), (some (7, true)), 15, true, .load none (T 8)⟩,
 ⟨(some 10), (some (7, true)), 31, false, .bin .geq (T 9) (C (.int .i64 0))⟩,
 ⟨(some 11), none, 63, false, .pick (T 7) (T 10) (C (.bool false))⟩,
 ⟨(some 12), none, 127, false, .mv (T 11)⟩,
 ⟨(some 13), (some (12, true)), 255, false, .faddr 1 (T 3)⟩,
 ⟨(some 14), (some (12, true)), 511, true, .load none (T 13)⟩,
 ⟨(some 15), (some (12, true)), 1023, false, .bin .geq (T 14) (C (.int .i64 0))⟩,
 ⟨(some 16), none, 2047, false, .pick (T 12) (T 15) (C (.bool false))⟩,
 ⟨(some 17), none, 4095, false, .mv (T 16)⟩,
 ⟨(some 18), (some (17, true)), 8191, false, .faddr 0 (T 3)⟩,
 ⟨(some 19), (some (17, true)), 16383, false, .load none (T 18)⟩,
 ⟨(some 20), (some (17, true)), 8191, false, .mv (T 0)⟩,
 ⟨(some 21), (some (17, true)), 40959, false, .nilck (T 20)⟩,
 ⟨(some 22), (some (17, true)), 106495, false, .faddr 1 (T 21)⟩,
 ⟨(some 23), (some (17, true)), 237567, false, .load none (T 22)⟩,
 ⟨(some 24), (some (17, true)), 524287, false, .bin .leq (T 19) (T 23)⟩,
 ⟨(some 25), none, 1048575, false, .pick (T 17) (T 24) (C (.bool false))⟩,
 ⟨(some 26), none, 2097151, false, .mv (T 25)⟩,
 ⟨(some 27), (some (26, true)), 4194303, false, .faddr 1 (T 3)⟩,
 ⟨(some 28), (some (26, true)), 8388607, false, .load none (T 27)⟩,
 ⟨(some 29), (some (26, true)), 4194303, false, .mv (T 0)⟩,
 ⟨(some 30), (some (26, true)), 20971519, false, .nilck (T 29)⟩,
 ⟨(some 31), (some (26, true)), 54525951, false, .faddr 1 (T 30)⟩,
 ⟨(some 32), (some (26, true)), 121634815, false, .load none (T 31)⟩,
 ⟨(some 33), (some (26, true)), 4194303, false, .faddr 0 (T 3)⟩,
 ⟨(some 34), (some (26, true)), 272629759, false, .load none (T 33)⟩,
 ⟨(some 35), (some (26, true)), 1061158911, false, .bin .sub (T 32) (T 34)⟩,
 ⟨(some 36), (some (26, true)), 2147483647, false, .bin .leq (T 28) (T 35)⟩,
 ⟨(some 37), none, 4294967295, false, .pick (T 26) (T 36) (C (.bool false))⟩,
 ⟨(some 4), none, 8589934591, false, .mv (T 37)⟩])
 .ret)), [.tmp 4]⟩
theorem ac44_ok : compFn Try.prog Try.f44 = some ac44 := by kernel_rfl
/-- (*winepress/winepressref01.Arena).Has -/
def ac45 : AFn := ⟨(.seq (.region [
 D 3 (.box true (T 1)),
 D 4 (.mv (C (.bool false)))])
 (.seq (.drawn [
 ⟨(some 5), none, 0, false, .faddr 0 (T 3)⟩,
 ⟨(some 6), none, 1, true, .load none (T 5)⟩,
 ⟨(some 7), none, 3, false, .bin .geq (T 6) (C (.int .i64 0))⟩,
 ⟨(some 8), none, 7, false, .mv (T 7)⟩,
 ⟨(some 9), (some (8, true)), 15, false, .faddr 1 (T 3)⟩,
 ⟨(some 10), (some (8, true)), 31, true, .load none (T 9)⟩,
 ⟨(some 11), (some (8, true)), 63, false, .bin .geq (T 10) (C (.int .i64 0))⟩,
 ⟨(some 12), none, 127, false, .pick (T 8) (T 11) (C (.bool false))⟩,
 ⟨(some 13), none, 255, false, .mv (T 12)⟩,
 ⟨(some 14), (some (13, true)), 511, false, .faddr 0 (T 3)⟩,
 ⟨(some 15), (some (13, true)), 1023, false, .load none (T 14)⟩,
 ⟨(some 16), (some (13, true)), 511, false, .mv (T 0)⟩,
 ⟨(some 17), (some (13, true)), 2559, false, .nilck (T 16)⟩,
 ⟨(some 18), (some (13, true)), 6655, false, .faddr 1 (T 17)⟩,
 ⟨(some 19), (some (13, true)), 14847, false, .load none (T 18)⟩,
 ⟨(some 20), (some (13, true)), 32767, false, .bin .leq (T 15) (T 19)⟩,
 ⟨(some 21), none, 65535, false, .pick (T 13) (T 20) (C (.bool false))⟩,
 ⟨(some 22), none, 131071, false, .mv (T 21)⟩,
 ⟨(some 23), (some (22, true)), 262143, false, .faddr 1 (T 3)⟩,
 ⟨(some 24), (some (22, true)), 524287, false, .load none (T 23)⟩,
 ⟨(some 25), (some (22, true)), 262143, false, .mv (T 0)⟩,
 ⟨(some 26), (some (22, true)), 1310719, false, .nilck (T 25)⟩,
 ⟨(some 27), (some (22, true)), 3407871, false, .faddr 1 (T 26)⟩,
 ⟨(some 28), (some (22, true)), 7602175, false, .load none (T 27)⟩,
 ⟨(some 29), (some (22, true)), 262143, false, .faddr 0 (T 3)⟩,
 ⟨(some 30), (some (22, true)), 17039359, false, .load none (T 29)⟩,
 ⟨(some 31), (some (22, true)), 66322431, false, .bin .sub (T 28) (T 30)⟩,
 ⟨(some 32), (some (22, true)), 134217727, false, .bin .leq (T 24) (T 31)⟩,
 ⟨(some 33), none, 268435455, false, .pick (T 22) (T 32) (C (.bool false))⟩,
 ⟨(some 4), none, 536870911, false, .mv (T 33)⟩])
 .ret)), [.tmp 4]⟩
theorem ac45_ok : compFn Try.prog Try.f45 = some ac45 := by kernel_rfl
/-- a loop of winepress/winepressref22.apart; it keeps [3, 2, 5] -/
def lb46_0 : ACode := (.seq (.seq (.region [
 D 8 (.mv (T 5)),
 D 9 (.faddr 0 (T 2)),
 D 10 (.load none (T 9)),
 D 11 (.faddr 1 (T 2)),
 D 12 (.load none (T 11)),
 D 13 (.bin .add (T 10) (T 12)),
 D 14 (.bin .lss (T 8) (T 13))])
 (.cond (T 14)
 .skip
 (.exit 0)))
 (.seq (.block 1 (.seq (.region [
 D 17 (.mv (T 5)),
 D 18 (.faddr 0 (T 3)),
 D 19 (.load none (T 18)),
 D 20 (.bin .geq (T 17) (T 19)),
 D 21 (.mv (T 20)),
 ⟨(some 22), (some (21, true)), 0, true, .mv (T 5)⟩,
 ⟨(some 23), (some (21, true)), 0, true, .faddr 0 (T 3)⟩,
 ⟨(some 24), (some (21, true)), 0, true, .load none (T 23)⟩,
 ⟨(some 25), (some (21, true)), 0, true, .faddr 1 (T 3)⟩,
 ⟨(some 26), (some (21, true)), 0, true, .load none (T 25)⟩,
 ⟨(some 27), (some (21, true)), 0, true, .bin .add (T 24) (T 26)⟩,
 ⟨(some 28), (some (21, true)), 0, true, .bin .lss (T 22) (T 27)⟩,
 D 29 (.pick (T 21) (T 28) (C (.bool false)))])
 (.cond (T 29)
 (.seq (.region [
 D 4 (.mv (C (.bool false)))])
 .ret)
 .skip)))
 (.region [
 D 15 (.mv (T 5)),
 D 16 (.bin .add (T 15) (C (.int .i64 1))),
 D 5 (.mv (T 16))])))
/-- winepress/winepressref22.apart -/
def ac46 : AFn := ⟨(.seq (.region [
 D 2 (.box true (T 0)),
 D 3 (.box true (T 1)),
 D 4 (.mv (C (.bool false)))])
 (.seq (.seq (.region [
 D 6 (.faddr 0 (T 2)),
 D 7 (.load none (T 6)),
 D 5 (.mv (T 7))])
 (.block 0 (.loop [3, 2, 5] lb46_0)))
 (.seq (.region [
 D 4 (.mv (C (.bool true)))])
 .ret))), [.tmp 4]⟩
theorem ac46_ok : compFn Try.prog Try.f46 = some ac46 := by kernel_rfl
/-- a loop of winepress/rank.Less; it keeps [8, 24, 4, 5] -/
def lb47_0 : ACode := (.seq (.region [
 D 25 (.bin .lss (T 24) (C (.int .i64 256)))])
 (.seq (.cond (T 25)
 .skip
 (.exit 2))
 (.seq (.block 3 (.seq (.region [
 D 26 (.mv (T 24)),
 D 9 (.mv (T 26))])
 (.seq (.region [
 D 27 (.mv (T 9)),
 D 28 (.mv (T 8)),
 D 29 (.iaddra 1 256 (T 4) (T 27)),
 E (.store 1 (T 29) (T 28))])
 (.region [
 D 30 (.mv (T 8)),
 D 31 (.mv (T 9)),
 D 32 (.iaddra 1 256 (T 5) (T 31)),
 D 33 (.load none (T 32)),
 D 34 (.bin .add (T 30) (T 33)),
 D 8 (.mv (T 34))]))))
 (.region [
 D 35 (.bin .add (T 24) (C (.int .i64 1))),
 D 24 (.mv (T 35))]))))
/-- a loop of winepress/rank.Less; it keeps [14, 13, 4, 12, 5] -/
def lb47_1 : ACode := (.seq (.region [
 D 15 (.bin .lss (T 14) (T 13))])
 (.seq (.cond (T 15)
 .skip
 (.exit 0))
 (.seq (.block 1 (.seq (.region [
 D 16 (.iaddr 1 (T 12) (T 14)),
 D 17 (.load none (T 16)),
 D 7 (.mv (T 17))])
 (.region [
 D 18 (.mv (T 7)),
 D 19 (.iaddra 1 256 (T 5) (T 18)),
 D 20 (.load none (T 19)),
 D 21 (.bin .add (T 20) (C (.int .i64 1))),
 D 22 (.iaddra 1 256 (T 5) (T 18)),
 E (.store 1 (T 22) (T 21))])))
 (.region [
 D 23 (.bin .add (T 14) (C (.int .i64 1))),
 D 14 (.mv (T 23))]))))
/-- winepress/rank.Less -/
def ac47 : AFn := ⟨(.seq (.region [
 D 3 (.box true (T 1)),
 D 4 (.alloc true (List.replicate 256 (.int .i64 0)))])
 (.seq (.region [
 D 5 (.alloc true (List.replicate 256 (.int .i64 0)))])
 (.seq (.seq (.region [
 D 10 (.mv (T 0)),
 D 11 (.load (some 2) (T 3)),
 D 12 (.call 20 [(T 10), (T 11)]),
 D 13 (.len (T 12)),
 D 14 (.mv (C (.int .i64 0)))])
 (.block 0 (.loop [14, 13, 4, 12, 5] lb47_1)))
 (.seq (.region [
 D 8 (.mv (C (.int .i64 0)))])
 (.seq (.seq (.region [
 D 24 (.mv (C (.int .i64 0)))])
 (.block 2 (.loop [8, 24, 4, 5] lb47_0)))
 (.seq (.region [
 D 36 (.load (some 256) (T 4)),
 E (.store 256 (T 4) (T 36))])
 .ret)))))), [.cell 4 (some 256)]⟩
theorem ac47_ok : compFn Try.prog Try.f47 = some ac47 := by kernel_rfl
/-- (*winepress/tablewalk.Full).byte -/
def ac48 : AFn := ⟨(.seq (.region [
 D 4 (.mv (C (.int .u8 0))),
 D 5 (.mv (C (.bool false)))])
 (.seq (.seq (.region [
 D 6 (.mv (T 1)),
 D 7 (.mv (T 0)),
 D 8 (.nilck (T 7)),
 D 9 (.faddr 5 (T 8)),
 D 10 (.load none (T 9)),
 D 11 (.bin .eql (T 6) (T 10))])
 (.cond (T 11)
 (.seq (.region [
 D 4 (.mv (C (.int .u8 0))),
 D 5 (.mv (C (.bool false)))])
 .ret)
 .skip))
 (.seq (.seq (.region [
 D 12 (.mv (T 1)),
 D 13 (.mv (T 0)),
 D 14 (.nilck (T 13)),
 D 15 (.faddr 5 (T 14)),
 D 16 (.load none (T 15)),
 D 17 (.bin .gtr (T 12) (T 16))])
 (.cond (T 17)
 (.region [
 D 18 (.mv (T 1)),
 D 19 (.bin .sub (T 18) (C (.int .i64 1))),
 D 1 (.mv (T 19))])
 .skip))
 (.seq (.drawn [
 ⟨(some 20), none, 0, false, .mv (T 0)⟩,
 ⟨(some 21), none, 1, false, .nilck (T 20)⟩,
 ⟨(some 22), none, 3, false, .faddr 0 (T 21)⟩,
 ⟨(some 23), none, 7, false, .load none (T 22)⟩,
 ⟨(some 24), none, 0, false, .mv (T 0)⟩,
 ⟨(some 25), none, 16, false, .nilck (T 24)⟩,
 ⟨(some 26), none, 48, false, .faddr 1 (T 25)⟩,
 ⟨(some 27), none, 112, false, .load (some 2) (T 26)⟩,
 ⟨(some 28), none, 0, false, .mv (T 1)⟩,
 ⟨(some 29), none, 511, true, .call 61 [(T 23), (T 27), (T 28)]⟩,
 ⟨(some 30), none, 1023, false, .ext (T 29) 0⟩,
 ⟨(some 31), none, 1023, false, .ext (T 29) 1⟩,
 ⟨(some 4), none, 4095, false, .mv (T 30)⟩,
 ⟨(some 5), none, 8191, false, .mv (T 31)⟩])
 .ret)))), [.tmp 4, .tmp 5]⟩
theorem ac48_ok : compFn Try.prog Try.f48 = some ac48 := by kernel_rfl
/-- a loop of (*winepress/arena.Arena).SetWord; it keeps [17, 16, 9, 3] -/
def lb49_0 : ACode := (.seq (.region [
 D 18 (.bin .lss (T 17) (T 16))])
 (.seq (.cond (T 18)
 .skip
 (.exit 0))
 (.seq (.block 1 (.seq (.region [
 D 19 (.mv (T 17)),
 D 10 (.mv (T 19))])
 (.region [
 D 20 (.mv (T 9)),
 D 21 (.mv (T 10)),
 D 22 (.mv (T 3)),
 D 23 (.mv (T 10)),
 D 24 (.bin .mul (C (.int .i64 8)) (T 23)),
 D 25 (.bin .shr (T 22) (T 24)),
 D 26 (.conv .u8 (T 25)),
 D 27 (.iaddr 1 (T 20) (T 21)),
 E (.store 1 (T 27) (T 26))])))
 (.region [
 D 28 (.bin .add (T 17) (C (.int .i64 1))),
 D 17 (.mv (T 28))]))))
/-- (*winepress/arena.Arena).SetWord -/
def ac49 : AFn := ⟨(.seq (.region [
 D 5 (.box true (T 1)),
 D 8 (.mv (C (.bool false)))])
 (.seq (.region [
 D 11 (.mv (T 0)),
 D 12 (.load (some 2) (T 5)),
 D 13 (.mv (T 2)),
 D 14 (.call 51 [(T 11), (T 12), (T 13)]),
 D 9 (.mv (T 14))])
 (.seq (.seq (.region [
 D 15 (.mv (T 9)),
 D 16 (.len (T 15)),
 D 17 (.mv (C (.int .i64 0)))])
 (.block 0 (.loop [17, 16, 9, 3] lb49_0)))
 (.seq (.region [
 D 29 (.mv (T 9)),
 D 30 (.eqs true .slice (T 29) (C (.slice none 0 0))),
 D 8 (.mv (T 30))])
 .ret)))), [.tmp 8]⟩
theorem ac49_ok : compFn Try.prog Try.f49 = some ac49 := by kernel_rfl
/-- bytes.Clone -/
def ac50 : AFn := ⟨(.seq (.region [
 D 2 (.mv (C (.slice none 0 0)))])
 (.seq (.seq (.region [
 D 3 (.mv (T 0)),
 D 4 (.eqs false .slice (T 3) (C (.slice none 0 0)))])
 (.cond (T 4)
 (.seq (.region [
 D 2 (.mv (C (.slice none 0 0)))])
 .ret)
 .skip))
 (.seq (.region [
 D 5 (.bslice true 1 0 [] []),
 D 6 (.mv (T 0)),
 D 7 (.append true 1 (T 5) (T 6)),
 D 2 (.mv (T 7))])
 .ret))), [.tmp 2]⟩
theorem ac50_ok : compFn Try.prog Try.f50 = some ac50 := by kernel_rfl
/-- (*winepress/arena.Arena).word -/
def ac51 : AFn := ⟨(.seq (.region [
 D 4 (.box true (T 1)),
 D 6 (.mv (C (.slice none 0 0)))])
 (.seq (.seq (.region [
 D 7 (.mv (T 2)),
 D 8 (.bin .lss (T 7) (C (.int .i64 0))),
 D 9 (.mv (T 8)),
 ⟨(some 10), (some (9, false)), 0, true, .mv (T 2)⟩,
 ⟨(some 11), (some (9, false)), 0, true, .bin .gtr (T 10) (C (.int .i64 1048576))⟩,
 D 12 (.pick (T 9) (C (.bool true)) (T 11))])
 (.cond (T 12)
 (.seq (.region [
 D 6 (.mv (C (.slice none 0 0)))])
 .ret)
 .skip))
 (.seq (.region [
 D 13 (.mv (T 0)),
 D 14 (.load (some 2) (T 4)),
 D 15 (.mv (T 2)),
 D 16 (.bin .shl (T 15) (C (.int .u64 2))),
 D 17 (.call 62 [(T 13), (T 14), (T 16), (C (.int .i64 4))]),
 D 6 (.mv (T 17))])
 .ret))), [.tmp 6]⟩
theorem ac51_ok : compFn Try.prog Try.f51 = some ac51 := by kernel_rfl
/-- (*winepress/winepressref22.Full).Next -/
def ac52 : AFn := ⟨(.seq (.region [
 D 2 (.mv (C (.int .u8 0))),
 D 3 (.mv (C (.bool false)))])
 (.seq (.seq (.drawn [
 ⟨(some 7), none, 0, false, .mv (T 0)⟩,
 ⟨(some 8), none, 1, false, .nilck (T 7)⟩,
 ⟨(some 9), none, 3, false, .faddr 3 (T 8)⟩,
 ⟨(some 10), none, 7, false, .load none (T 9)⟩,
 ⟨(some 11), none, 0, false, .mv (T 0)⟩,
 ⟨(some 12), none, 16, false, .nilck (T 11)⟩,
 ⟨(some 13), none, 48, false, .faddr 0 (T 12)⟩,
 ⟨(some 14), none, 112, false, .load none (T 13)⟩,
 ⟨(some 15), none, 240, false, .len (T 14)⟩,
 ⟨(some 16), none, 511, false, .bin .eql (T 10) (T 15)⟩])
 (.cond (T 16)
 (.seq (.region [
 D 2 (.mv (C (.int .u8 0))),
 D 3 (.mv (C (.bool false)))])
 .ret)
 .skip))
 (.seq (.region [
 D 18 (.mv (T 0)),
 D 19 (.mv (T 0)),
 D 20 (.nilck (T 19)),
 D 21 (.faddr 2 (T 20)),
 D 22 (.load none (T 21)),
 D 23 (.call 63 [(T 18), (T 22)]),
 D 17 (.mv (T 23)),
 D 24 (.ext (T 17) 0),
 D 25 (.ext (T 17) 1),
 D 26 (.ext (T 17) 2),
 D 4 (.mv (T 24)),
 D 5 (.mv (T 25)),
 D 6 (.mv (T 26))])
 (.seq (.seq (.region [
 D 27 (.mv (T 6))])
 (.cond (T 27)
 (.seq (.region [
 D 28 (.mv (T 0)),
 D 29 (.mv (T 4)),
 D 30 (.nilck (T 28)),
 D 31 (.faddr 2 (T 30)),
 E (.store 1 (T 31) (T 29))])
 (.region [
 D 32 (.mv (T 0)),
 D 33 (.nilck (T 32)),
 D 34 (.faddr 3 (T 33)),
 D 35 (.load none (T 34)),
 D 36 (.bin .add (T 35) (C (.int .i64 1))),
 D 37 (.nilck (T 32)),
 D 38 (.faddr 3 (T 37)),
 E (.store 1 (T 38) (T 36))]))
 .skip))
 (.seq (.region [
 D 39 (.mv (T 5)),
 D 40 (.mv (T 6)),
 D 2 (.mv (T 39)),
 D 3 (.mv (T 40))])
 .ret))))), [.tmp 2, .tmp 3]⟩
theorem ac52_ok : compFn Try.prog Try.f52 = some ac52 := by kernel_rfl
/-- a loop of (*winepress/winepressref22.Full).Valid; it keeps [3, 0, 4] -/
def lb53_0 : ACode := (.seq (.seq (.region [
 D 8 (.mv (T 4)),
 D 9 (.mv (T 0)),
 D 10 (.nilck (T 9)),
 D 11 (.faddr 0 (T 10)),
 D 12 (.load none (T 11)),
 D 13 (.len (T 12)),
 D 14 (.bin .lss (T 8) (T 13))])
 (.cond (T 14)
 .skip
 (.exit 0)))
 (.seq (.block 1 (.seq (.region [
 D 18 (.mv (T 0)),
 D 19 (.mv (T 3)),
 D 20 (.call 63 [(T 18), (T 19)]),
 D 17 (.mv (T 20)),
 D 21 (.ext (T 17) 0),
 D 22 (.ext (T 17) 1),
 D 23 (.ext (T 17) 2),
 D 5 (.mv (T 21)),
 D 6 (.mv (T 22)),
 D 7 (.mv (T 23))])
 (.seq (.seq (.region [
 D 24 (.mv (T 7)),
 D 25 (.un .not (T 24))])
 (.cond (T 25)
 (.seq (.region [
 D 2 (.mv (C (.bool false)))])
 .ret)
 .skip))
 (.region [
 D 26 (.mv (T 5)),
 D 3 (.mv (T 26))]))))
 (.region [
 D 15 (.mv (T 4)),
 D 16 (.bin .add (T 15) (C (.int .i64 1))),
 D 4 (.mv (T 16))])))
/-- (*winepress/winepressref22.Full).Valid -/
def ac53 : AFn := ⟨(.seq (.region [
 D 2 (.mv (C (.bool false)))])
 (.seq (.region [
 D 3 (.mv (C (.int .i64 0)))])
 (.seq (.seq (.region [
 D 4 (.mv (C (.int .i64 0)))])
 (.block 0 (.loop [3, 0, 4] lb53_0)))
 (.seq (.region [
 D 27 (.mv (T 3)),
 D 28 (.mv (T 0)),
 D 29 (.nilck (T 28)),
 D 30 (.faddr 1 (T 29)),
 D 31 (.load none (T 30)),
 D 32 (.bin .eql (T 27) (T 31)),
 D 2 (.mv (T 32))])
 .ret)))), [.tmp 2]⟩
theorem ac53_ok : compFn Try.prog Try.f53 = some ac53 := by kernel_rfl
/-- (*winepress/tablewalk.Full).behind -/
def ac55 : AFn := ⟨(.seq (.region [
 D 4 (.mv (C (.int .i64 0))),
 D 5 (.mv (C (.int .u8 0))),
 D 6 (.mv (C (.bool false)))])
 (.seq (.region [
 D 11 (.mv (T 0)),
 D 12 (.mv (T 1)),
 D 13 (.call 48 [(T 11), (T 12)]),
 D 10 (.mv (T 13)),
 D 14 (.ext (T 10) 0),
 D 15 (.ext (T 10) 1),
 D 5 (.mv (T 14)),
 D 7 (.mv (T 15))])
 (.seq (.drawn [
 ⟨(some 17), none, 0, false, .mv (T 0)⟩,
 ⟨(some 18), none, 1, false, .nilck (T 17)⟩,
 ⟨(some 19), none, 3, false, .faddr 0 (T 18)⟩,
 ⟨(some 20), none, 7, false, .load none (T 19)⟩,
 ⟨(some 21), none, 0, false, .mv (T 0)⟩,
 ⟨(some 22), none, 16, false, .nilck (T 21)⟩,
 ⟨(some 23), none, 48, false, .faddr 3 (T 22)⟩,
 ⟨(some 24), none, 112, false, .load (some 2) (T 23)⟩,
 ⟨(some 25), none, 0, false, .mv (T 1)⟩,
 ⟨(some 26), none, 511, true, .call 22 [(T 20), (T 24), (T 25)]⟩,
 ⟨(some 16), none, 1023, false, .mv (T 26)⟩,
 ⟨(some 27), none, 2047, false, .ext (T 16) 0⟩,
 ⟨(some 28), none, 2047, false, .ext (T 16) 1⟩,
 ⟨(some 8), none, 4095, false, .mv (T 27)⟩,
 ⟨(some 9), none, 16383, false, .mv (T 28)⟩])
 (.seq (.seq (.region [
 D 29 (.mv (T 7)),
 D 30 (.un .not (T 29)),
 D 31 (.mv (T 30)),
 ⟨(some 32), (some (31, false)), 0, true, .mv (T 9)⟩,
 ⟨(some 33), (some (31, false)), 0, true, .un .not (T 32)⟩,
 D 34 (.pick (T 31) (C (.bool true)) (T 33))])
 (.cond (T 34)
 (.seq (.region [
 D 4 (.mv (C (.int .i64 0))),
 D 5 (.mv (C (.int .u8 0))),
 D 6 (.mv (C (.bool false)))])
 .ret)
 .skip))
 (.seq (.region [
 D 35 (.mv (T 0)),
 D 36 (.nilck (T 35)),
 D 37 (.faddr 8 (T 36)),
 D 38 (.load none (T 37)),
 D 39 (.bin .add (T 38) (C (.int .i64 1))),
 D 40 (.nilck (T 35)),
 D 41 (.faddr 8 (T 40)),
 E (.store 1 (T 41) (T 39))])
 (.seq (.region [
 D 42 (.mv (T 8)),
 D 43 (.conv .i64 (T 42)),
 D 44 (.mv (T 5)),
 D 4 (.mv (T 43)),
 D 5 (.mv (T 44)),
 D 6 (.mv (C (.bool true)))])
 .ret)))))), [.tmp 4, .tmp 5, .tmp 6]⟩
theorem ac55_ok : compFn Try.prog Try.f55 = some ac55 := by kernel_rfl
/-- (*winepress/arena.Arena).Byte -/
def ac61 : AFn := ⟨(.seq (.region [
 D 4 (.box true (T 1)),
 D 6 (.mv (C (.int .u8 0))),
 D 7 (.mv (C (.bool false)))])
 (.seq (.region [
 D 9 (.mv (T 0)),
 D 10 (.load (some 2) (T 4)),
 D 11 (.mv (T 2)),
 D 12 (.call 62 [(T 9), (T 10), (T 11), (C (.int .i64 1))]),
 D 8 (.mv (T 12))])
 (.seq (.seq (.region [
 D 13 (.mv (T 8)),
 D 14 (.eqs false .slice (T 13) (C (.slice none 0 0)))])
 (.cond (T 14)
 (.seq (.region [
 D 6 (.mv (C (.int .u8 0))),
 D 7 (.mv (C (.bool false)))])
 .ret)
 .skip))
 (.seq (.region [
 D 15 (.mv (T 8)),
 D 16 (.iaddr 1 (T 15) (C (.int .i64 0))),
 D 17 (.load none (T 16)),
 D 6 (.mv (T 17)),
 D 7 (.mv (C (.bool true)))])
 .ret)))), [.tmp 6, .tmp 7]⟩
theorem ac61_ok : compFn Try.prog Try.f61 = some ac61 := by kernel_rfl
/-- (*winepress/arena.Arena).part -/
def ac62 : AFn := ⟨(.seq (.region [
 D 5 (.box true (T 1)),
 D 8 (.mv (C (.slice none 0 0)))])
 (.seq (.seq (.region [
 D 9 (.mv (T 0)),
 D 10 (.load (some 2) (T 5)),
 D 11 (.call 44 [(T 9), (T 10)]),
 D 12 (.un .not (T 11)),
 D 13 (.mv (T 12)),
 ⟨(some 14), (some (13, false)), 0, true, .mv (T 2)⟩,
 ⟨(some 15), (some (13, false)), 0, true, .bin .lss (T 14) (C (.int .i64 0))⟩,
 D 16 (.pick (T 13) (C (.bool true)) (T 15)),
 D 17 (.mv (T 16)),
 ⟨(some 18), (some (17, false)), 0, true, .mv (T 2)⟩,
 ⟨(some 19), (some (17, false)), 0, true, .faddr 1 (T 5)⟩,
 ⟨(some 20), (some (17, false)), 0, true, .load none (T 19)⟩,
 ⟨(some 21), (some (17, false)), 0, true, .mv (T 3)⟩,
 ⟨(some 22), (some (17, false)), 0, true, .bin .sub (T 20) (T 21)⟩,
 ⟨(some 23), (some (17, false)), 0, true, .bin .gtr (T 18) (T 22)⟩,
 D 24 (.pick (T 17) (C (.bool true)) (T 23))])
 (.cond (T 24)
 (.seq (.region [
 D 8 (.mv (C (.slice none 0 0)))])
 .ret)
 .skip))
 (.seq (.region [
 D 25 (.mv (T 2)),
 D 26 (.faddr 0 (T 5)),
 D 27 (.load none (T 26)),
 D 28 (.bin .add (T 25) (T 27)),
 D 2 (.mv (T 28))])
 (.seq (.region [
 D 29 (.mv (T 0)),
 D 30 (.nilck (T 29)),
 D 31 (.faddr 0 (T 30)),
 D 32 (.load none (T 31)),
 D 33 (.mv (T 2)),
 D 34 (.mv (T 2)),
 D 35 (.mv (T 3)),
 D 36 (.bin .add (T 34) (T 35)),
 D 37 (.mv (T 2)),
 D 38 (.mv (T 3)),
 D 39 (.bin .add (T 37) (T 38)),
 D 40 (.slice 1 (T 32) (some (T 33)) (some (T 36)) (some (T 39))),
 D 8 (.mv (T 40))])
 .ret)))), [.tmp 8]⟩
theorem ac62_ok : compFn Try.prog Try.f62 = some ac62 := by kernel_rfl
/-- (*winepress/winepressref22.Full).behind -/
def ac63 : AFn := ⟨(.seq (.region [
 D 4 (.mv (C (.int .i64 0))),
 D 5 (.mv (C (.int .u8 0))),
 D 6 (.mv (C (.bool false)))])
 (.seq (.drawn [
 ⟨(some 11), none, 0, false, .mv (T 0)⟩,
 ⟨(some 12), none, 1, false, .nilck (T 11)⟩,
 ⟨(some 13), none, 3, false, .faddr 0 (T 12)⟩,
 ⟨(some 14), none, 7, false, .load none (T 13)⟩,
 ⟨(some 15), none, 0, false, .mv (T 0)⟩,
 ⟨(some 16), none, 16, false, .nilck (T 15)⟩,
 ⟨(some 17), none, 48, false, .faddr 1 (T 16)⟩,
 ⟨(some 18), none, 112, false, .load none (T 17)⟩,
 ⟨(some 19), none, 0, false, .mv (T 1)⟩,
 ⟨(some 20), none, 511, true, .call 31 [(T 14), (T 18), (T 19)]⟩,
 ⟨(some 10), none, 1023, false, .mv (T 20)⟩,
 ⟨(some 21), none, 2047, false, .ext (T 10) 0⟩,
 ⟨(some 22), none, 2047, false, .ext (T 10) 1⟩,
 ⟨(some 23), none, 2047, false, .ext (T 10) 2⟩,
 ⟨(some 7), none, 4095, false, .mv (T 21)⟩,
 ⟨(some 8), none, 24575, false, .mv (T 22)⟩,
 ⟨(some 9), none, 65535, false, .mv (T 23)⟩])
 (.seq (.seq (.region [
 D 24 (.mv (T 9))])
 (.cond (T 24)
 (.region [
 D 25 (.mv (T 0)),
 D 26 (.nilck (T 25)),
 D 27 (.faddr 4 (T 26)),
 D 28 (.load none (T 27)),
 D 29 (.bin .add (T 28) (C (.int .i64 1))),
 D 30 (.nilck (T 25)),
 D 31 (.faddr 4 (T 30)),
 E (.store 1 (T 31) (T 29))])
 .skip))
 (.seq (.region [
 D 32 (.mv (T 7)),
 D 33 (.mv (T 8)),
 D 34 (.mv (T 9)),
 D 4 (.mv (T 32)),
 D 5 (.mv (T 33)),
 D 6 (.mv (T 34))])
 .ret)))), [.tmp 4, .tmp 5, .tmp 6]⟩
theorem ac63_ok : compFn Try.prog Try.f63 = some ac63 := by kernel_rfl
def env0 : Env := [(3, ac3), (11, ac11), (12, ac12), (13, ac13), (14, ac14), (15, ac15), (16, ac16), (17, ac17), (18, ac18), (19, ac19), (20, ac20), (21, ac21), (22, ac22), (23, ac23), (25, ac25), (26, ac26), (27, ac27), (28, ac28), (29, ac29), (31, ac31), (43, ac43), (44, ac44), (45, ac45), (46, ac46), (47, ac47), (48, ac48), (49, ac49), (50, ac50), (51, ac51), (52, ac52), (53, ac53), (55, ac55), (61, ac61), (62, ac62), (63, ac63)]
theorem env0_ok : EnvOk Try.prog env0 :=
 EnvOk.cons Try.func3 ac3_ok (of_decide_eq_true (by kernel_rfl)) <|
 EnvOk.cons Try.func11 ac11_ok (of_decide_eq_true (by kernel_rfl)) <|
 EnvOk.cons Try.func12 ac12_ok (of_decide_eq_true (by kernel_rfl)) <|
 EnvOk.cons Try.func13 ac13_ok (of_decide_eq_true (by kernel_rfl)) <|
 EnvOk.cons Try.func14 ac14_ok (of_decide_eq_true (by kernel_rfl)) <|
 EnvOk.cons Try.func15 ac15_ok (of_decide_eq_true (by kernel_rfl)) <|
 EnvOk.cons Try.func16 ac16_ok (of_decide_eq_true (by kernel_rfl)) <|
 EnvOk.cons Try.func17 ac17_ok (of_decide_eq_true (by kernel_rfl)) <|
 EnvOk.cons Try.func18 ac18_ok (of_decide_eq_true (by kernel_rfl)) <|
 EnvOk.cons Try.func19 ac19_ok (of_decide_eq_true (by kernel_rfl)) <|
 EnvOk.cons Try.func20 ac20_ok (of_decide_eq_true (by kernel_rfl)) <|
 EnvOk.cons Try.func21 ac21_ok (of_decide_eq_true (by kernel_rfl)) <|
 EnvOk.cons Try.func22 ac22_ok (of_decide_eq_true (by kernel_rfl)) <|
 EnvOk.cons Try.func23 ac23_ok (of_decide_eq_true (by kernel_rfl)) <|
 EnvOk.cons Try.func25 ac25_ok (of_decide_eq_true (by kernel_rfl)) <|
 EnvOk.cons Try.func26 ac26_ok (of_decide_eq_true (by kernel_rfl)) <|
 EnvOk.cons Try.func27 ac27_ok (of_decide_eq_true (by kernel_rfl)) <|
 EnvOk.cons Try.func28 ac28_ok (of_decide_eq_true (by kernel_rfl)) <|
 EnvOk.cons Try.func29 ac29_ok (of_decide_eq_true (by kernel_rfl)) <|
 EnvOk.cons Try.func31 ac31_ok (of_decide_eq_true (by kernel_rfl)) <|
 EnvOk.cons Try.func43 ac43_ok (of_decide_eq_true (by kernel_rfl)) <|
 EnvOk.cons Try.func44 ac44_ok (of_decide_eq_true (by kernel_rfl)) <|
 EnvOk.cons Try.func45 ac45_ok (of_decide_eq_true (by kernel_rfl)) <|
 EnvOk.cons Try.func46 ac46_ok (of_decide_eq_true (by kernel_rfl)) <|
 EnvOk.cons Try.func47 ac47_ok (of_decide_eq_true (by kernel_rfl)) <|
 EnvOk.cons Try.func48 ac48_ok (of_decide_eq_true (by kernel_rfl)) <|
 EnvOk.cons Try.func49 ac49_ok (of_decide_eq_true (by kernel_rfl)) <|
 EnvOk.cons Try.func50 ac50_ok (of_decide_eq_true (by kernel_rfl)) <|
 EnvOk.cons Try.func51 ac51_ok (of_decide_eq_true (by kernel_rfl)) <|
 EnvOk.cons Try.func52 ac52_ok (of_decide_eq_true (by kernel_rfl)) <|
 EnvOk.cons Try.func53 ac53_ok (of_decide_eq_true (by kernel_rfl)) <|
 EnvOk.cons Try.func55 ac55_ok (of_decide_eq_true (by kernel_rfl)) <|
 EnvOk.cons Try.func61 ac61_ok (of_decide_eq_true (by kernel_rfl)) <|
 EnvOk.cons Try.func62 ac62_ok (of_decide_eq_true (by kernel_rfl)) <|
 EnvOk.cons Try.func63 ac63_ok (of_decide_eq_true (by kernel_rfl)) <|
 EnvOk.nil
theorem mixed : Try.prog.follows .mixedOrders = true := by kernel_rfl
theorem wakes11 : isTrue (run env0 20000 (.func 11) [] ⟨[], 0, [], []⟩) = true := by kernel_rfl
def env : Env := (11, constFn (.bool true)) :: env0
theorem env_or : EnvOr Try.prog env :=
 EnvOr.cons Try.func11 (of_decide_eq_true (by kernel_rfl)) (by kernel_rfl) (constTrue_ok env0_ok mixed wakes11) <|
 EnvOr.of env0_ok
theorem fn3 : env.fn 3 = some ac3 := rfl
theorem fn11 : env.fn 11 = some (constFn (.bool true)) := rfl
theorem fn12 : env.fn 12 = some ac12 := rfl
theorem fn13 : env.fn 13 = some ac13 := rfl
theorem fn14 : env.fn 14 = some ac14 := rfl
theorem fn15 : env.fn 15 = some ac15 := rfl
theorem fn16 : env.fn 16 = some ac16 := rfl
theorem fn17 : env.fn 17 = some ac17 := rfl
theorem fn18 : env.fn 18 = some ac18 := rfl
theorem fn19 : env.fn 19 = some ac19 := rfl
theorem fn20 : env.fn 20 = some ac20 := rfl
theorem fn21 : env.fn 21 = some ac21 := rfl
theorem fn22 : env.fn 22 = some ac22 := rfl
theorem fn23 : env.fn 23 = some ac23 := rfl
theorem fn25 : env.fn 25 = some ac25 := rfl
theorem fn26 : env.fn 26 = some ac26 := rfl
theorem fn27 : env.fn 27 = some ac27 := rfl
theorem fn28 : env.fn 28 = some ac28 := rfl
theorem fn29 : env.fn 29 = some ac29 := rfl
theorem fn31 : env.fn 31 = some ac31 := rfl
theorem fn43 : env.fn 43 = some ac43 := rfl
theorem fn44 : env.fn 44 = some ac44 := rfl
theorem fn45 : env.fn 45 = some ac45 := rfl
theorem fn46 : env.fn 46 = some ac46 := rfl
theorem fn47 : env.fn 47 = some ac47 := rfl
theorem fn48 : env.fn 48 = some ac48 := rfl
theorem fn49 : env.fn 49 = some ac49 := rfl
theorem fn50 : env.fn 50 = some ac50 := rfl
theorem fn51 : env.fn 51 = some ac51 := rfl
theorem fn52 : env.fn 52 = some ac52 := rfl
theorem fn53 : env.fn 53 = some ac53 := rfl
theorem fn55 : env.fn 55 = some ac55 := rfl
theorem fn61 : env.fn 61 = some ac61 := rfl
theorem fn62 : env.fn 62 = some ac62 := rfl
theorem fn63 : env.fn 63 = some ac63 := rfl
end ArEnv
end Go.Proofs.Ytlbdgbfblgjjgaa
