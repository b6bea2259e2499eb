/-
 THE TRANSLATED FUNCTIONS, printed by a program, and that they are the program's functions. Conditions: none.
-/
import Derived.Test.YtpjjkmfidghkjaaProg
import Derived.Test.YtpjjkmfidghkjaaAOr
import Derived.KernelRfl
import Derived.Test.YtpjjkmfidghkjaaSmOr
namespace Go.Proofs.Ytpjjkmfidghkjaa
namespace ArEnv
open Go AM
abbrev T (n : Nat) : Operand := .tmp n
abbrev C (v : Value) : Operand := .const v
abbrev D (d : Nat) (o : AOp) : AOper := ⟨some d, none, 0, true, o⟩
abbrev E (o : AOp) : AOper := ⟨none, none, 0, true, o⟩
/-- winepress/winepresslaw24.HeaderMatches -/
def ac3 : AFn := ⟨(.seq (.region [
 D 7 (.box true (T 0)),
 D 9 (.box true (T 2)),
 D 10 (.box true (T 3)),
 D 11 (.box true (T 4)),
 D 14 (.mv (C (.bool false)))])
 (.seq (.seq (.region [
 D 39 (.mv (T 6)),
 D 40 (.len (T 39)),
 D 41 (.bin .gtr (T 40) (C (.int .i64 60)))])
 (.cond (T 41)
 (.seq (.region [
 D 42 (.call 7 []),
 D 14 (.mv (T 42))])
 .ret)
 .skip))
 (.seq (.region [
 D 44 (.load (some 1) (T 7)),
 D 45 (.call 8 [(T 44)]),
 D 43 (.mv (T 45)),
 D 46 (.ext (T 43) 0),
 D 47 (.ext (T 43) 1),
 D 15 (.mv (T 46)),
 D 16 (.mv (T 47))])
 (.seq (.region [
 D 49 (.load (some 1) (T 7)),
 D 50 (.call 9 [(T 49)]),
 D 48 (.mv (T 50)),
 D 51 (.ext (T 48) 0),
 D 52 (.ext (T 48) 1),
 D 17 (.mv (T 51)),
 D 18 (.mv (T 52))])
 (.seq (.region [
 D 54 (.mv (T 1)),
 D 55 (.load (some 3) (T 9)),
 D 56 (.call 10 [(T 54), (T 55)]),
 D 53 (.mv (T 56)),
 D 57 (.ext (T 53) 0),
 D 58 (.ext (T 53) 1),
 D 19 (.mv (T 57)),
 D 20 (.mv (T 58))])
 (.seq (.region [
 D 60 (.mv (T 1)),
 D 61 (.load (some 3) (T 9)),
 D 62 (.call 11 [(T 60), (T 61)]),
 D 59 (.mv (T 62)),
 D 63 (.ext (T 59) 0),
 D 64 (.ext (T 59) 1),
 D 21 (.mv (T 63)),
 D 22 (.mv (T 64))])
 (.seq (.seq (.drawn [
 ⟨(some 65), none, 0, false, .mv (T 15)⟩,
 ⟨(some 66), none, 1, false, .bstr (T 65)⟩,
 ⟨(some 67), none, 0, false, .mv (T 17)⟩,
 ⟨(some 68), none, 4, false, .bstr (T 67)⟩,
 ⟨(some 69), none, 15, false, .bin .neq (T 66) (T 68)⟩,
 ⟨(some 70), none, 31, false, .mv (T 69)⟩,
 ⟨(some 71), (some (70, false)), 63, false, .mv (T 16)⟩,
 ⟨(some 72), (some (70, false)), 63, false, .mv (T 18)⟩,
 ⟨(some 73), (some (70, false)), 255, false, .bin .neq (T 71) (T 72)⟩,
 ⟨(some 74), none, 511, false, .pick (T 70) (C (.bool true)) (T 73)⟩,
 ⟨(some 75), none, 1023, false, .mv (T 74)⟩,
 ⟨(some 76), (some (75, false)), 2047, false, .mv (T 19)⟩,
 ⟨(some 77), (some (75, false)), 4095, false, .bstr (T 76)⟩,
 ⟨(some 78), (some (75, false)), 2047, false, .mv (T 21)⟩,
 ⟨(some 79), (some (75, false)), 10239, false, .bstr (T 78)⟩,
 ⟨(some 80), (some (75, false)), 32767, false, .bin .neq (T 77) (T 79)⟩,
 ⟨(some 81), none, 65535, false, .pick (T 75) (C (.bool true)) (T 80)⟩,
 ⟨(some 82), none, 131071, false, .mv (T 81)⟩,
 ⟨(some 83), (some (82, false)), 262143, false, .mv (T 20)⟩,
 ⟨(some 84), (some (82, false)), 262143, false, .mv (T 22)⟩,
 ⟨(some 85), (some (82, false)), 1048575, false, .bin .neq (T 83) (T 84)⟩,
 ⟨(some 86), none, 2097151, false, .pick (T 82) (C (.bool true)) (T 85)⟩,
 ⟨(some 87), none, 4194303, false, .mv (T 86)⟩,
 ⟨(some 88), (some (87, false)), 8388607, false, .faddr 2 (T 9)⟩,
 ⟨(some 89), (some (87, false)), 16777215, false, .load none (T 88)⟩,
 ⟨(some 90), (some (87, false)), 33554431, false, .call 12 [(T 89)]⟩,
 ⟨(some 91), (some (87, false)), 67108863, false, .bstr (T 90)⟩,
 ⟨(some 92), (some (87, false)), 8388607, false, .faddr 2 (T 9)⟩,
 ⟨(some 93), (some (87, false)), 142606335, false, .load none (T 92)⟩,
 ⟨(some 94), (some (87, false)), 469762047, false, .call 13 [(T 93)]⟩,
 ⟨(some 95), (some (87, false)), 1006632959, false, .bstr (T 94)⟩,
 ⟨(some 96), (some (87, false)), 2147483647, false, .bin .neq (T 91) (T 95)⟩,
 ⟨(some 97), none, 4294967295, false, .pick (T 87) (C (.bool true)) (T 96)⟩,
 ⟨(some 98), none, 8589934591, false, .mv (T 97)⟩,
 ⟨(some 99), (some (98, false)), 17179869183, false, .load (some 4) (T 10)⟩,
 ⟨(some 100), (some (98, false)), 34359738367, false, .call 14 [(T 99)]⟩,
 ⟨(some 101), (some (98, false)), 17179869183, false, .load (some 4) (T 10)⟩,
 ⟨(some 102), (some (98, false)), 137438953471, true, .call 15 [(T 101)]⟩,
 ⟨(some 103), (some (98, false)), 274877906943, false, .eqs true .bool (T 100) (T 102)⟩,
 ⟨(some 104), none, 549755813887, false, .pick (T 98) (C (.bool true)) (T 103)⟩,
 ⟨(some 105), none, 1099511627775, false, .mv (T 104)⟩,
 ⟨(some 106), (some (105, false)), 2199023255551, false, .mv (T 1)⟩,
 ⟨(some 107), (some (105, false)), 2199023255551, false, .load (some 7) (T 11)⟩,
 ⟨(some 108), (some (105, false)), 8796093022207, false, .call 16 [(T 106), (T 107)]⟩,
 ⟨(some 109), (some (105, false)), 2199023255551, false, .mv (T 1)⟩,
 ⟨(some 110), (some (105, false)), 2199023255551, false, .load (some 7) (T 11)⟩,
 ⟨(some 111), (some (105, false)), 70368744177663, true, .call 17 [(T 109), (T 110)]⟩,
 ⟨(some 112), (some (105, false)), 140737488355327, false, .eqs true .bool (T 108) (T 111)⟩,
 ⟨(some 113), none, 281474976710655, false, .pick (T 105) (C (.bool true)) (T 112)⟩])
 (.cond (T 113)
 (.seq (.region [
 D 14 (.mv (C (.bool false)))])
 .ret)
 .skip))
 (.seq (.region [
 D 115 (.load (some 4) (T 10)),
 D 116 (.mv (T 5)),
 D 117 (.call 18 [(T 115), (T 116)]),
 D 114 (.mv (T 117)),
 D 118 (.ext (T 114) 0),
 D 119 (.ext (T 114) 1),
 D 120 (.ext (T 114) 2),
 D 23 (.alloc true [(.int .i64 0), (.int .i64 0), (.int .i64 0), (.int .i64 0)]),
 E (.store 4 (T 23) (T 118)),
 D 24 (.mv (T 119)),
 D 16 (.mv (T 120))])
 (.seq (.region [
 D 122 (.load (some 4) (T 10)),
 D 123 (.mv (T 5)),
 D 124 (.call 19 [(T 122), (T 123)]),
 D 121 (.mv (T 124)),
 D 125 (.ext (T 121) 0),
 D 126 (.ext (T 121) 1),
 D 127 (.ext (T 121) 2),
 D 25 (.alloc true [(.int .i64 0), (.int .i64 0), (.int .i64 0), (.int .i64 0)]),
 E (.store 4 (T 25) (T 125)),
 D 26 (.mv (T 126)),
 D 18 (.mv (T 127))])
 (.seq (.region [
 D 129 (.mv (T 1)),
 D 130 (.load (some 7) (T 11)),
 D 131 (.mv (T 5)),
 D 132 (.call 20 [(T 129), (T 130), (T 131)]),
 D 128 (.mv (T 132)),
 D 133 (.ext (T 128) 0),
 D 134 (.ext (T 128) 1),
 D 135 (.ext (T 128) 2),
 D 27 (.alloc true (List.replicate 5 (.int .i64 0) ++ [(.int .u32 0), (.int .i64 0)])),
 E (.store 7 (T 27) (T 133)),
 D 28 (.mv (T 134)),
 D 20 (.mv (T 135))])
 (.seq (.region [
 D 137 (.mv (T 1)),
 D 138 (.load (some 7) (T 11)),
 D 139 (.mv (T 5)),
 D 140 (.call 21 [(T 137), (T 138), (T 139)]),
 D 136 (.mv (T 140)),
 D 141 (.ext (T 136) 0),
 D 142 (.ext (T 136) 1),
 D 143 (.ext (T 136) 2),
 D 29 (.alloc true (List.replicate 5 (.int .i64 0) ++ [(.int .u32 0), (.int .i64 0)])),
 E (.store 7 (T 29) (T 141)),
 D 30 (.mv (T 142)),
 D 22 (.mv (T 143))])
 (.seq (.seq (.region [
 D 144 (.load (some 4) (T 23)),
 D 145 (.load (some 4) (T 25)),
 D 146 (.eqs true (.agg [.nu, .nu, .nu, .nu]) (T 144) (T 145)),
 D 147 (.mv (T 146)),
 ⟨(some 148), (some (147, false)), 0, true, .mv (T 24)⟩,
 ⟨(some 149), (some (147, false)), 0, true, .mv (T 26)⟩,
 ⟨(some 150), (some (147, false)), 0, true, .eqs true .bool (T 148) (T 149)⟩,
 D 151 (.pick (T 147) (C (.bool true)) (T 150)),
 D 152 (.mv (T 151)),
 ⟨(some 153), (some (152, false)), 0, true, .mv (T 16)⟩,
 ⟨(some 154), (some (152, false)), 0, true, .mv (T 18)⟩,
 ⟨(some 155), (some (152, false)), 0, true, .bin .neq (T 153) (T 154)⟩,
 D 156 (.pick (T 152) (C (.bool true)) (T 155)),
 D 157 (.mv (T 156)),
 ⟨(some 158), (some (157, false)), 0, true, .load (some 7) (T 27)⟩,
 ⟨(some 159), (some (157, false)), 0, true, .load (some 7) (T 29)⟩,
 ⟨(some 160), (some (157, false)), 0, true, .eqs true (.agg (List.replicate 7 .nu)) (T 158) (T 159)⟩,
 D 161 (.pick (T 157) (C (.bool true)) (T 160)),
 D 162 (.mv (T 161)),
 ⟨(some 163), (some (162, false)), 0, true, .mv (T 28)⟩,
 ⟨(some 164), (some (162, false)), 0, true, .mv (T 30)⟩,
 ⟨(some 165), (some (162, false)), 0, true, .eqs true .bool (T 163) (T 164)⟩,
 D 166 (.pick (T 162) (C (.bool true)) (T 165)),
 D 167 (.mv (T 166)),
 ⟨(some 168), (some (167, false)), 0, true, .mv (T 20)⟩,
 ⟨(some 169), (some (167, false)), 0, true, .mv (T 22)⟩,
 ⟨(some 170), (some (167, false)), 0, true, .bin .neq (T 168) (T 169)⟩,
 D 171 (.pick (T 167) (C (.bool true)) (T 170))])
 (.cond (T 171)
 (.seq (.region [
 D 14 (.mv (C (.bool false)))])
 .ret)
 .skip))
 (.seq (.region [
 D 173 (.mv (T 6)),
 D 174 (.call 22 [(T 173)]),
 D 172 (.mv (T 174)),
 D 175 (.ext (T 172) 0),
 D 176 (.ext (T 172) 1),
 D 177 (.ext (T 172) 2),
 D 31 (.alloc true [(.int .i64 0)]),
 E (.store 1 (T 31) (T 175)),
 D 32 (.mv (T 176)),
 D 16 (.mv (T 177))])
 (.seq (.region [
 D 179 (.mv (T 6)),
 D 180 (.call 23 [(T 179)]),
 D 178 (.mv (T 180)),
 D 181 (.ext (T 178) 0),
 D 182 (.ext (T 178) 1),
 D 183 (.ext (T 178) 2),
 D 33 (.alloc true [(.int .i64 0)]),
 E (.store 1 (T 33) (T 181)),
 D 34 (.mv (T 182)),
 D 18 (.mv (T 183))])
 (.seq (.region [
 D 185 (.mv (T 1)),
 D 186 (.mv (T 6)),
 D 187 (.call 24 [(T 185), (T 186)]),
 D 184 (.mv (T 187)),
 D 188 (.ext (T 184) 0),
 D 189 (.ext (T 184) 1),
 D 190 (.ext (T 184) 2),
 D 35 (.alloc true (List.replicate 5 (.int .i64 0) ++ [(.int .u32 0), (.int .i64 0)])),
 E (.store 7 (T 35) (T 188)),
 D 36 (.mv (T 189)),
 D 20 (.mv (T 190))])
 (.seq (.region [
 D 192 (.mv (T 1)),
 D 193 (.mv (T 6)),
 D 194 (.call 25 [(T 192), (T 193)]),
 D 191 (.mv (T 194)),
 D 195 (.ext (T 191) 0),
 D 196 (.ext (T 191) 1),
 D 197 (.ext (T 191) 2),
 D 37 (.alloc true (List.replicate 5 (.int .i64 0) ++ [(.int .u32 0), (.int .i64 0)])),
 E (.store 7 (T 37) (T 195)),
 D 38 (.mv (T 196)),
 D 22 (.mv (T 197))])
 (.seq (.region [
 D 198 (.load (some 1) (T 31)),
 D 199 (.load (some 1) (T 33)),
 D 200 (.eqs false (.agg [.nu]) (T 198) (T 199)),
 D 201 (.mv (T 200)),
 ⟨(some 202), (some (201, true)), 0, true, .mv (T 32)⟩,
 ⟨(some 203), (some (201, true)), 0, true, .bstr (T 202)⟩,
 ⟨(some 204), (some (201, true)), 0, true, .mv (T 34)⟩,
 ⟨(some 205), (some (201, true)), 0, true, .bstr (T 204)⟩,
 ⟨(some 206), (some (201, true)), 0, true, .bin .eql (T 203) (T 205)⟩,
 D 207 (.pick (T 201) (T 206) (C (.bool false))),
 D 208 (.mv (T 207)),
 ⟨(some 209), (some (208, true)), 0, true, .mv (T 16)⟩,
 ⟨(some 210), (some (208, true)), 0, true, .mv (T 18)⟩,
 ⟨(some 211), (some (208, true)), 0, true, .bin .eql (T 209) (T 210)⟩,
 D 212 (.pick (T 208) (T 211) (C (.bool false))),
 D 213 (.mv (T 212)),
 ⟨(some 214), (some (213, true)), 0, true, .load (some 7) (T 35)⟩,
 ⟨(some 215), (some (213, true)), 0, true, .load (some 7) (T 37)⟩,
 ⟨(some 216), (some (213, true)), 0, true, .eqs false (.agg (List.replicate 7 .nu)) (T 214) (T 215)⟩,
 D 217 (.pick (T 213) (T 216) (C (.bool false))),
 D 218 (.mv (T 217)),
 ⟨(some 219), (some (218, true)), 0, true, .mv (T 36)⟩,
 ⟨(some 220), (some (218, true)), 0, true, .bstr (T 219)⟩,
 ⟨(some 221), (some (218, true)), 0, true, .mv (T 38)⟩,
 ⟨(some 222), (some (218, true)), 0, true, .bstr (T 221)⟩,
 ⟨(some 223), (some (218, true)), 0, true, .bin .eql (T 220) (T 222)⟩,
 D 224 (.pick (T 218) (T 223) (C (.bool false))),
 D 225 (.mv (T 224)),
 ⟨(some 226), (some (225, true)), 0, true, .mv (T 20)⟩,
 ⟨(some 227), (some (225, true)), 0, true, .mv (T 22)⟩,
 ⟨(some 228), (some (225, true)), 0, true, .bin .eql (T 226) (T 227)⟩,
 D 229 (.pick (T 225) (T 228) (C (.bool false))),
 D 230 (.mv (T 229)),
 ⟨(some 231), (some (230, true)), 0, true, .call 7 []⟩,
 D 232 (.pick (T 230) (T 231) (C (.bool false))),
 D 14 (.mv (T 232))])
 .ret))))))))))))))))), [.tmp 14]⟩
theorem ac3_ok : compFn Try.prog Try.f3 = some ac3 := by kernel_rfl
/-- winepress/winepresslaw24.HeaderBack -/
def ac4 : AFn := ⟨(.seq (.region [
 D 4 (.box true (T 0)),
 D 5 (.box true (T 1)),
 D 8 (.mv (C (.bool false)))])
 (.seq (.seq (.region [
 D 32 (.mv (T 3)),
 D 33 (.len (T 32)),
 D 34 (.bin .gtr (T 33) (C (.int .i64 60))),
 D 35 (.mv (T 34)),
 ⟨(some 36), (some (35, false)), 0, true, .faddr 0 (T 4)⟩,
 ⟨(some 37), (some (35, false)), 0, true, .load none (T 36)⟩,
 ⟨(some 38), (some (35, false)), 0, true, .bin .lss (T 37) (C (.int .i64 1))⟩,
 D 39 (.pick (T 35) (C (.bool true)) (T 38)),
 D 40 (.mv (T 39)),
 ⟨(some 41), (some (40, false)), 0, true, .faddr 0 (T 4)⟩,
 ⟨(some 42), (some (40, false)), 0, true, .load none (T 41)⟩,
 ⟨(some 43), (some (40, false)), 0, true, .bin .gtr (T 42) (C (.int .i64 65536))⟩,
 D 44 (.pick (T 40) (C (.bool true)) (T 43)),
 D 45 (.mv (T 44)),
 ⟨(some 46), (some (45, false)), 0, true, .faddr 0 (T 5)⟩,
 ⟨(some 47), (some (45, false)), 0, true, .load none (T 46)⟩,
 ⟨(some 48), (some (45, false)), 0, true, .bin .lss (T 47) (C (.int .i64 1))⟩,
 D 49 (.pick (T 45) (C (.bool true)) (T 48)),
 D 50 (.mv (T 49)),
 ⟨(some 51), (some (50, false)), 0, true, .faddr 0 (T 5)⟩,
 ⟨(some 52), (some (50, false)), 0, true, .load none (T 51)⟩,
 ⟨(some 53), (some (50, false)), 0, true, .faddr 0 (T 4)⟩,
 ⟨(some 54), (some (50, false)), 0, true, .load none (T 53)⟩,
 ⟨(some 55), (some (50, false)), 0, true, .bin .gtr (T 52) (T 54)⟩,
 D 56 (.pick (T 50) (C (.bool true)) (T 55)),
 D 57 (.mv (T 56)),
 ⟨(some 58), (some (57, false)), 0, true, .faddr 1 (T 5)⟩,
 ⟨(some 59), (some (57, false)), 0, true, .load none (T 58)⟩,
 ⟨(some 60), (some (57, false)), 0, true, .bin .lss (T 59) (C (.int .i64 1))⟩,
 D 61 (.pick (T 57) (C (.bool true)) (T 60)),
 D 62 (.mv (T 61)),
 ⟨(some 63), (some (62, false)), 0, true, .faddr 1 (T 5)⟩,
 ⟨(some 64), (some (62, false)), 0, true, .load none (T 63)⟩,
 ⟨(some 65), (some (62, false)), 0, true, .faddr 0 (T 5)⟩,
 ⟨(some 66), (some (62, false)), 0, true, .load none (T 65)⟩,
 ⟨(some 67), (some (62, false)), 0, true, .bin .gtr (T 64) (T 66)⟩,
 D 68 (.pick (T 62) (C (.bool true)) (T 67))])
 (.cond (T 68)
 (.seq (.region [
 D 69 (.call 7 []),
 D 8 (.mv (T 69))])
 .ret)
 .skip))
 (.seq (.region [
 D 71 (.load (some 1) (T 4)),
 D 72 (.call 8 [(T 71)]),
 D 70 (.mv (T 72)),
 D 73 (.ext (T 70) 0),
 D 74 (.ext (T 70) 1),
 D 9 (.mv (T 73)),
 D 10 (.mv (T 74))])
 (.seq (.region [
 D 76 (.faddr 0 (T 4)),
 D 77 (.load none (T 76)),
 D 78 (.load (some 3) (T 5)),
 D 79 (.call 10 [(T 77), (T 78)]),
 D 75 (.mv (T 79)),
 D 80 (.ext (T 75) 0),
 D 81 (.ext (T 75) 1),
 D 11 (.mv (T 80)),
 D 12 (.mv (T 81))])
 (.seq (.region [
 D 82 (.mv (T 2)),
 D 83 (.call 12 [(T 82)]),
 D 13 (.mv (T 83))])
 (.seq (.seq (.region [
 D 84 (.mv (T 10)),
 D 85 (.bin .neq (T 84) (C (.int .i64 0))),
 D 86 (.mv (T 85)),
 ⟨(some 87), (some (86, false)), 0, true, .mv (T 12)⟩,
 ⟨(some 88), (some (86, false)), 0, true, .bin .neq (T 87) (C (.int .i64 0))⟩,
 D 89 (.pick (T 86) (C (.bool true)) (T 88)),
 D 90 (.mv (T 89)),
 ⟨(some 91), (some (90, false)), 0, true, .mv (T 9)⟩,
 ⟨(some 92), (some (90, false)), 0, true, .len (T 91)⟩,
 ⟨(some 93), (some (90, false)), 0, true, .bin .lss (T 92) (C (.int .i64 4))⟩,
 D 94 (.pick (T 90) (C (.bool true)) (T 93)),
 D 95 (.mv (T 94)),
 ⟨(some 96), (some (95, false)), 0, true, .mv (T 9)⟩,
 ⟨(some 97), (some (95, false)), 0, true, .len (T 96)⟩,
 ⟨(some 98), (some (95, false)), 0, true, .bin .gtr (T 97) (C (.int .i64 6))⟩,
 D 99 (.pick (T 95) (C (.bool true)) (T 98)),
 D 100 (.mv (T 99)),
 ⟨(some 101), (some (100, false)), 0, true, .mv (T 11)⟩,
 ⟨(some 102), (some (100, false)), 0, true, .len (T 101)⟩,
 ⟨(some 103), (some (100, false)), 0, true, .bin .lss (T 102) (C (.int .i64 7))⟩,
 D 104 (.pick (T 100) (C (.bool true)) (T 103)),
 D 105 (.mv (T 104)),
 ⟨(some 106), (some (105, false)), 0, true, .mv (T 11)⟩,
 ⟨(some 107), (some (105, false)), 0, true, .len (T 106)⟩,
 ⟨(some 108), (some (105, false)), 0, true, .bin .gtr (T 107) (C (.int .i64 11))⟩,
 D 109 (.pick (T 105) (C (.bool true)) (T 108)),
 D 110 (.mv (T 109)),
 ⟨(some 111), (some (110, false)), 0, true, .mv (T 13)⟩,
 ⟨(some 112), (some (110, false)), 0, true, .len (T 111)⟩,
 ⟨(some 113), (some (110, false)), 0, true, .bin .neq (T 112) (C (.int .i64 5))⟩,
 D 114 (.pick (T 110) (C (.bool true)) (T 113))])
 (.cond (T 114)
 (.seq (.region [
 D 8 (.mv (C (.bool false)))])
 .ret)
 .skip))
 (.seq (.region [
 D 116 (.bslice true 1 0 [] []),
 D 117 (.mv (T 9)),
 D 118 (.append true 1 (T 116) (T 117)),
 D 119 (.mv (T 3)),
 D 120 (.append true 1 (T 118) (T 119)),
 D 121 (.call 22 [(T 120)]),
 D 115 (.mv (T 121)),
 D 122 (.ext (T 115) 0),
 D 123 (.ext (T 115) 1),
 D 124 (.ext (T 115) 2),
 D 14 (.alloc true [(.int .i64 0)]),
 E (.store 1 (T 14) (T 122)),
 D 15 (.mv (T 123)),
 D 16 (.mv (T 124))])
 (.seq (.drawn [
 ⟨(some 126), none, 0, false, .faddr 0 (T 4)⟩,
 ⟨(some 127), none, 1, false, .load none (T 126)⟩,
 ⟨(some 128), none, 0, false, .bslice true 1 0 [] []⟩,
 ⟨(some 129), none, 0, false, .mv (T 11)⟩,
 ⟨(some 130), none, 57896044618658097711785492504343953926634992332820282019728792003956564819980, true, .append true 1 (T 128) (T 129)⟩,
 ⟨(some 131), none, 0, false, .mv (T 3)⟩,
 ⟨(some 132), none, 57896044618658097711785492504343953926634992332820282019728792003956564820028, true, .append true 1 (T 130) (T 131)⟩,
 ⟨(some 133), none, 127, true, .call 24 [(T 127), (T 132)]⟩,
 ⟨(some 125), none, 255, false, .mv (T 133)⟩,
 ⟨(some 134), none, 511, false, .ext (T 125) 0⟩,
 ⟨(some 135), none, 511, false, .ext (T 125) 1⟩,
 ⟨(some 136), none, 511, false, .ext (T 125) 2⟩,
 ⟨(some 17), none, 0, false, .alloc true (List.replicate 5 (.int .i64 0) ++ [(.int .u32 0), (.int .i64 0)])⟩,
 ⟨none, none, 5119, true, .store 7 (T 17) (T 134)⟩,
 ⟨(some 18), none, 14335, false, .mv (T 135)⟩,
 ⟨(some 19), none, 32767, false, .mv (T 136)⟩])
 (.seq (.drawn [
 ⟨(some 138), none, 0, false, .faddr 0 (T 4)⟩,
 ⟨(some 139), none, 1, false, .load none (T 138)⟩,
 ⟨(some 140), none, 0, false, .bslice true 1 0 [] []⟩,
 ⟨(some 141), none, 0, false, .mv (T 13)⟩,
 ⟨(some 142), none, 57896044618658097711785492504343953926634992332820282019728792003956564819980, true, .append true 1 (T 140) (T 141)⟩,
 ⟨(some 143), none, 0, false, .mv (T 3)⟩,
 ⟨(some 144), none, 57896044618658097711785492504343953926634992332820282019728792003956564820028, true, .append true 1 (T 142) (T 143)⟩,
 ⟨(some 145), none, 127, true, .call 24 [(T 139), (T 144)]⟩,
 ⟨(some 137), none, 255, false, .mv (T 145)⟩,
 ⟨(some 146), none, 511, false, .ext (T 137) 0⟩,
 ⟨(some 147), none, 511, false, .ext (T 137) 1⟩,
 ⟨(some 148), none, 511, false, .ext (T 137) 2⟩,
 ⟨(some 20), none, 0, false, .alloc true (List.replicate 5 (.int .i64 0) ++ [(.int .u32 0), (.int .i64 0)])⟩,
 ⟨none, none, 5119, true, .store 7 (T 20) (T 146)⟩,
 ⟨(some 21), none, 14335, false, .mv (T 147)⟩,
 ⟨(some 22), none, 32767, false, .mv (T 148)⟩])
 (.seq (.seq (.region [
 D 149 (.mv (T 16)),
 D 150 (.bin .neq (T 149) (C (.int .i64 0))),
 D 151 (.mv (T 150)),
 ⟨(some 152), (some (151, false)), 0, true, .mv (T 19)⟩,
 ⟨(some 153), (some (151, false)), 0, true, .bin .neq (T 152) (C (.int .i64 0))⟩,
 D 154 (.pick (T 151) (C (.bool true)) (T 153)),
 D 155 (.mv (T 154)),
 ⟨(some 156), (some (155, false)), 0, true, .mv (T 22)⟩,
 ⟨(some 157), (some (155, false)), 0, true, .bin .neq (T 156) (C (.int .i64 0))⟩,
 D 158 (.pick (T 155) (C (.bool true)) (T 157)),
 D 159 (.mv (T 158)),
 ⟨(some 160), (some (159, false)), 0, true, .load (some 1) (T 14)⟩,
 ⟨(some 161), (some (159, false)), 0, true, .load (some 1) (T 4)⟩,
 ⟨(some 162), (some (159, false)), 0, true, .eqs true (.agg [.nu]) (T 160) (T 161)⟩,
 D 163 (.pick (T 159) (C (.bool true)) (T 162)),
 D 164 (.mv (T 163)),
 ⟨(some 165), (some (164, false)), 0, true, .load (some 7) (T 17)⟩,
 ⟨(some 166), (some (164, false)), 0, true, .load (some 3) (T 5)⟩,
 ⟨(some 167), (some (164, false)), 0, true, .build (List.replicate 5 (.int .i64 0) ++ [(.int .u32 0), (.int .i64 0)]) [(0, 1, (C (.int .i64 4))), (3, 3, (T 166)), (6, 1, (C (.int .i64 4)))]⟩,
 ⟨(some 168), (some (164, false)), 0, true, .eqs true (.agg (List.replicate 7 .nu)) (T 165) (T 167)⟩,
 D 169 (.pick (T 164) (C (.bool true)) (T 168)),
 D 170 (.mv (T 169)),
 ⟨(some 171), (some (170, false)), 0, true, .load (some 7) (T 20)⟩,
 ⟨(some 172), (some (170, false)), 0, true, .mv (T 2)⟩,
 ⟨(some 173), (some (170, false)), 0, true, .build [(.int .i64 0), (.int .i64 0), (.int .u32 0)] [(2, 1, (T 172))]⟩,
 ⟨(some 174), (some (170, false)), 0, true, .build (List.replicate 5 (.int .i64 0) ++ [(.int .u32 0), (.int .i64 0)]) [(0, 1, (C (.int .i64 6))), (3, 3, (T 173)), (6, 1, (C (.int .i64 4)))]⟩,
 ⟨(some 175), (some (170, false)), 0, true, .eqs true (.agg (List.replicate 7 .nu)) (T 171) (T 174)⟩,
 D 176 (.pick (T 170) (C (.bool true)) (T 175))])
 (.cond (T 176)
 (.seq (.region [
 D 8 (.mv (C (.bool false)))])
 .ret)
 .skip))
 (.seq (.region [
 D 178 (.mv (T 9)),
 D 179 (.mv (T 9)),
 D 180 (.len (T 179)),
 D 181 (.bin .sub (T 180) (C (.int .i64 1))),
 D 182 (.slice 1 (T 178) none (some (T 181)) none),
 D 183 (.call 22 [(T 182)]),
 D 177 (.mv (T 183)),
 D 184 (.ext (T 177) 0),
 D 185 (.ext (T 177) 1),
 D 186 (.ext (T 177) 2),
 D 23 (.alloc true [(.int .i64 0)]),
 E (.store 1 (T 23) (T 184)),
 D 24 (.mv (T 185)),
 D 25 (.mv (T 186))])
 (.seq (.drawn [
 ⟨(some 188), none, 0, false, .faddr 0 (T 4)⟩,
 ⟨(some 189), none, 1, true, .load none (T 188)⟩,
 ⟨(some 190), none, 0, false, .mv (T 11)⟩,
 ⟨(some 191), none, 0, false, .mv (T 11)⟩,
 ⟨(some 192), none, 8, false, .len (T 191)⟩,
 ⟨(some 193), none, 24, false, .bin .sub (T 192) (C (.int .i64 1))⟩,
 ⟨(some 194), none, 60, false, .slice 1 (T 190) none (some (T 193)) none⟩,
 ⟨(some 195), none, 127, true, .call 24 [(T 189), (T 194)]⟩,
 ⟨(some 187), none, 255, false, .mv (T 195)⟩,
 ⟨(some 196), none, 511, false, .ext (T 187) 0⟩,
 ⟨(some 197), none, 511, false, .ext (T 187) 1⟩,
 ⟨(some 198), none, 511, false, .ext (T 187) 2⟩,
 ⟨(some 26), none, 0, false, .alloc true (List.replicate 5 (.int .i64 0) ++ [(.int .u32 0), (.int .i64 0)])⟩,
 ⟨none, none, 5119, true, .store 7 (T 26) (T 196)⟩,
 ⟨(some 27), none, 14335, false, .mv (T 197)⟩,
 ⟨(some 28), none, 32767, false, .mv (T 198)⟩])
 (.seq (.drawn [
 ⟨(some 200), none, 0, false, .faddr 0 (T 4)⟩,
 ⟨(some 201), none, 1, true, .load none (T 200)⟩,
 ⟨(some 202), none, 0, false, .mv (T 13)⟩,
 ⟨(some 203), none, 4, false, .slice 1 (T 202) none (some (C (.int .i64 4))) none⟩,
 ⟨(some 204), none, 15, true, .call 24 [(T 201), (T 203)]⟩,
 ⟨(some 199), none, 31, false, .mv (T 204)⟩,
 ⟨(some 205), none, 63, false, .ext (T 199) 0⟩,
 ⟨(some 206), none, 63, false, .ext (T 199) 1⟩,
 ⟨(some 207), none, 63, false, .ext (T 199) 2⟩,
 ⟨(some 29), none, 0, false, .alloc true (List.replicate 5 (.int .i64 0) ++ [(.int .u32 0), (.int .i64 0)])⟩,
 ⟨none, none, 639, true, .store 7 (T 29) (T 205)⟩,
 ⟨(some 30), none, 1791, false, .mv (T 206)⟩,
 ⟨(some 31), none, 4095, false, .mv (T 207)⟩])
 (.seq (.region [
 D 208 (.mv (T 25)),
 D 209 (.bin .eql (T 208) (C (.int .i64 50))),
 D 210 (.mv (T 209)),
 ⟨(some 211), (some (210, true)), 0, true, .mv (T 28)⟩,
 ⟨(some 212), (some (210, true)), 0, true, .bin .eql (T 211) (C (.int .i64 50))⟩,
 D 213 (.pick (T 210) (T 212) (C (.bool false))),
 D 214 (.mv (T 213)),
 ⟨(some 215), (some (214, true)), 0, true, .mv (T 31)⟩,
 ⟨(some 216), (some (214, true)), 0, true, .bin .eql (T 215) (C (.int .i64 50))⟩,
 D 217 (.pick (T 214) (T 216) (C (.bool false))),
 D 218 (.mv (T 217)),
 ⟨(some 219), (some (218, true)), 0, true, .mv (T 15)⟩,
 ⟨(some 220), (some (218, true)), 0, true, .bstr (T 219)⟩,
 ⟨(some 221), (some (218, true)), 0, true, .mv (T 3)⟩,
 ⟨(some 222), (some (218, true)), 0, true, .bstr (T 221)⟩,
 ⟨(some 223), (some (218, true)), 0, true, .bin .eql (T 220) (T 222)⟩,
 D 224 (.pick (T 218) (T 223) (C (.bool false))),
 D 225 (.mv (T 224)),
 ⟨(some 226), (some (225, true)), 0, true, .mv (T 18)⟩,
 ⟨(some 227), (some (225, true)), 0, true, .bstr (T 226)⟩,
 ⟨(some 228), (some (225, true)), 0, true, .mv (T 3)⟩,
 ⟨(some 229), (some (225, true)), 0, true, .bstr (T 228)⟩,
 ⟨(some 230), (some (225, true)), 0, true, .bin .eql (T 227) (T 229)⟩,
 D 231 (.pick (T 225) (T 230) (C (.bool false))),
 D 232 (.mv (T 231)),
 ⟨(some 233), (some (232, true)), 0, true, .mv (T 21)⟩,
 ⟨(some 234), (some (232, true)), 0, true, .bstr (T 233)⟩,
 ⟨(some 235), (some (232, true)), 0, true, .mv (T 3)⟩,
 ⟨(some 236), (some (232, true)), 0, true, .bstr (T 235)⟩,
 ⟨(some 237), (some (232, true)), 0, true, .bin .eql (T 234) (T 236)⟩,
 D 238 (.pick (T 232) (T 237) (C (.bool false))),
 D 239 (.mv (T 238)),
 ⟨(some 240), (some (239, true)), 0, true, .call 7 []⟩,
 D 241 (.pick (T 239) (T 240) (C (.bool false))),
 D 8 (.mv (T 241))])
 .ret)))))))))))))), [.tmp 8]⟩
theorem ac4_ok : compFn Try.prog Try.f4 = some ac4 := by kernel_rfl
/-- a loop of winepress/winepresslaw24.HeaderOnly; it keeps [1, 0, 14, 12] -/
def lb5_0 : ACode := (.seq (.seq (.region [
 D 102 (.mv (T 14)),
 D 103 (.mv (T 1)),
 D 104 (.len (T 103)),
 D 105 (.bin .leq (T 102) (T 104))])
 (.cond (T 105)
 .skip
 (.exit 0)))
 (.seq (.block 1 (.seq (.region [
 D 109 (.mv (T 0)),
 D 110 (.mv (T 1)),
 D 111 (.mv (T 14)),
 D 112 (.slice 1 (T 110) none (some (T 111)) none),
 D 113 (.call 24 [(T 109), (T 112)]),
 D 108 (.mv (T 113)),
 D 114 (.ext (T 108) 0),
 D 115 (.ext (T 108) 1),
 D 116 (.ext (T 108) 2),
 D 15 (.alloc true (List.replicate 5 (.int .i64 0) ++ [(.int .u32 0), (.int .i64 0)])),
 E (.store 7 (T 15) (T 114)),
 D 16 (.mv (T 115)),
 D 17 (.mv (T 116))])
 (.seq (.region [
 D 117 (.mv (T 17)),
 D 118 (.bin .neq (T 117) (C (.int .i64 50)))])
 (.cond (T 118)
 (.seq (.region [
 D 119 (.mv (T 17)),
 D 120 (.mv (T 12)),
 D 121 (.bin .eql (T 119) (T 120)),
 D 122 (.mv (T 121)),
 ⟨(some 123), (some (122, true)), 0, true, .mv (T 17)⟩,
 ⟨(some 124), (some (122, true)), 0, true, .bin .eql (T 123) (C (.int .i64 242))⟩,
 D 125 (.pick (T 122) (T 124) (C (.bool false))),
 D 126 (.mv (T 125)),
 ⟨(some 127), (some (126, true)), 0, true, .call 7 []⟩,
 D 128 (.pick (T 126) (T 127) (C (.bool false))),
 D 4 (.mv (T 128))])
 .ret)
 .skip))))
 (.region [
 D 106 (.mv (T 14)),
 D 107 (.bin .add (T 106) (C (.int .i64 1))),
 D 14 (.mv (T 107))])))
/-- winepress/winepresslaw24.HeaderOnly -/
def ac5 : AFn := ⟨(.seq (.region [
 D 4 (.mv (C (.bool false)))])
 (.seq (.seq (.region [
 D 18 (.mv (T 1)),
 D 19 (.len (T 18)),
 D 20 (.bin .gtr (T 19) (C (.int .i64 60)))])
 (.cond (T 20)
 (.seq (.region [
 D 21 (.call 7 []),
 D 4 (.mv (T 21))])
 .ret)
 .skip))
 (.seq (.region [
 D 23 (.mv (T 1)),
 D 24 (.call 22 [(T 23)]),
 D 22 (.mv (T 24)),
 D 25 (.ext (T 22) 0),
 D 26 (.ext (T 22) 1),
 D 27 (.ext (T 22) 2),
 D 5 (.alloc true [(.int .i64 0)]),
 E (.store 1 (T 5) (T 25)),
 D 6 (.mv (T 26)),
 D 7 (.mv (T 27))])
 (.seq (.seq (.region [
 D 28 (.mv (T 7)),
 D 29 (.bin .eql (T 28) (C (.int .i64 0)))])
 (.cond (T 29)
 (.seq (.region [
 D 31 (.load (some 1) (T 5)),
 D 32 (.call 8 [(T 31)]),
 D 30 (.mv (T 32)),
 D 33 (.ext (T 30) 0),
 D 34 (.ext (T 30) 1),
 D 8 (.mv (T 33)),
 D 9 (.mv (T 34))])
 (.seq (.region [
 D 35 (.mv (T 9)),
 D 36 (.bin .neq (T 35) (C (.int .i64 0))),
 D 37 (.mv (T 36)),
 ⟨(some 38), (some (37, false)), 0, true, .mv (T 8)⟩,
 ⟨(some 39), (some (37, false)), 0, true, .bstr (T 38)⟩,
 ⟨(some 40), (some (37, false)), 0, true, .mv (T 6)⟩,
 ⟨(some 41), (some (37, false)), 0, true, .bstr (T 40)⟩,
 ⟨(some 42), (some (37, false)), 0, true, .bin .add (T 39) (T 41)⟩,
 ⟨(some 43), (some (37, false)), 0, true, .mv (T 1)⟩,
 ⟨(some 44), (some (37, false)), 0, true, .bstr (T 43)⟩,
 ⟨(some 45), (some (37, false)), 0, true, .bin .neq (T 42) (T 44)⟩,
 D 46 (.pick (T 37) (C (.bool true)) (T 45))])
 (.cond (T 46)
 (.seq (.region [
 D 4 (.mv (C (.bool false)))])
 .ret)
 .skip)))
 .skip))
 (.seq (.region [
 D 48 (.mv (T 0)),
 D 49 (.mv (T 1)),
 D 50 (.call 24 [(T 48), (T 49)]),
 D 47 (.mv (T 50)),
 D 51 (.ext (T 47) 0),
 D 52 (.ext (T 47) 1),
 D 53 (.ext (T 47) 2),
 D 10 (.alloc true (List.replicate 5 (.int .i64 0) ++ [(.int .u32 0), (.int .i64 0)])),
 E (.store 7 (T 10) (T 51)),
 D 11 (.mv (T 52)),
 D 12 (.mv (T 53))])
 (.seq (.seq (.region [
 D 54 (.mv (T 12)),
 D 55 (.bin .eql (T 54) (C (.int .i64 0)))])
 (.cond (T 55)
 (.seq (.region [
 D 56 (.faddr 3 (T 10)),
 D 57 (.faddr 2 (T 56)),
 D 58 (.load none (T 57)),
 D 59 (.call 12 [(T 58)]),
 D 13 (.mv (T 59))])
 (.seq (.seq (.region [
 D 60 (.faddr 0 (T 10)),
 D 61 (.load none (T 60)),
 D 62 (.bin .eql (T 61) (C (.int .i64 4)))])
 (.cond (T 62)
 (.region [
 D 64 (.mv (T 0)),
 D 65 (.faddr 3 (T 10)),
 D 66 (.load (some 3) (T 65)),
 D 67 (.call 10 [(T 64), (T 66)]),
 D 63 (.mv (T 67)),
 D 68 (.ext (T 63) 0),
 D 69 (.ext (T 63) 1),
 D 13 (.mv (T 68))])
 .skip))
 (.seq (.region [
 D 70 (.mv (T 13)),
 D 71 (.bstr (T 70)),
 D 72 (.mv (T 11)),
 D 73 (.bstr (T 72)),
 D 74 (.bin .add (T 71) (T 73)),
 D 75 (.mv (T 1)),
 D 76 (.bstr (T 75)),
 D 77 (.bin .eql (T 74) (T 76)),
 D 78 (.mv (T 77)),
 ⟨(some 79), (some (78, true)), 0, true, .faddr 6 (T 10)⟩,
 ⟨(some 80), (some (78, true)), 0, true, .load none (T 79)⟩,
 ⟨(some 81), (some (78, true)), 0, true, .bin .eql (T 80) (C (.int .i64 4))⟩,
 D 82 (.pick (T 78) (T 81) (C (.bool false))),
 D 83 (.mv (T 82)),
 ⟨(some 84), (some (83, true)), 0, true, .mv (T 0)⟩,
 ⟨(some 85), (some (83, true)), 0, true, .load (some 7) (T 10)⟩,
 ⟨(some 86), (some (83, true)), 0, true, .call 16 [(T 84), (T 85)]⟩,
 D 87 (.pick (T 83) (T 86) (C (.bool false))),
 D 88 (.mv (T 87)),
 ⟨(some 89), (some (88, true)), 0, true, .call 7 []⟩,
 D 90 (.pick (T 88) (T 89) (C (.bool false))),
 D 4 (.mv (T 90))])
 .ret)))
 .skip))
 (.seq (.seq (.region [
 D 91 (.mv (T 12)),
 D 92 (.bin .eql (T 91) (C (.int .i64 2)))])
 (.cond (T 92)
 (.seq (.region [
 D 93 (.mv (T 0)),
 D 94 (.bin .lss (T 93) (C (.int .i64 1))),
 D 95 (.mv (T 94)),
 ⟨(some 96), (some (95, false)), 0, true, .mv (T 0)⟩,
 ⟨(some 97), (some (95, false)), 0, true, .bin .gtr (T 96) (C (.int .i64 65536))⟩,
 D 98 (.pick (T 95) (C (.bool true)) (T 97)),
 D 99 (.mv (T 98)),
 ⟨(some 100), (some (99, true)), 0, true, .call 7 []⟩,
 D 101 (.pick (T 99) (T 100) (C (.bool false))),
 D 4 (.mv (T 101))])
 .ret)
 .skip))
 (.seq (.seq (.region [
 D 14 (.mv (C (.int .i64 0)))])
 (.block 0 (.loop [1, 0, 14, 12] lb5_0)))
 (.seq (.region [
 D 129 (.mv (T 12)),
 D 130 (.bin .eql (T 129) (C (.int .i64 50))),
 D 131 (.mv (T 130)),
 ⟨(some 132), (some (131, true)), 0, true, .call 7 []⟩,
 D 133 (.pick (T 131) (T 132) (C (.bool false))),
 D 4 (.mv (T 133))])
 .ret))))))))), [.tmp 4]⟩
theorem ac5_ok : compFn Try.prog Try.f5 = some ac5 := by kernel_rfl
/-- a loop of winepress/winepresslaw24.HeaderSteps; it keeps [9, 18, 1, 0, 16, 17, 14] -/
def lb6_0 : ACode := (.seq (.seq (.region [
 D 96 (.mv (T 18)),
 D 97 (.mv (T 1)),
 D 98 (.len (T 97)),
 D 99 (.bin .lss (T 96) (T 98)),
 D 100 (.mv (T 99)),
 ⟨(some 101), (some (100, true)), 0, true, .mv (T 9)⟩,
 ⟨(some 102), (some (100, true)), 0, true, .bin .eql (T 101) (C (.int .i64 50))⟩,
 D 103 (.pick (T 100) (T 102) (C (.bool false)))])
 (.cond (T 103)
 .skip
 (.exit 2)))
 (.seq (.block 3 (.seq (.drawn [
 ⟨(some 107), none, 0, false, .mv (T 0)⟩,
 ⟨(some 108), none, 0, false, .load (some 7) (T 17)⟩,
 ⟨(some 109), none, 0, false, .mv (T 1)⟩,
 ⟨(some 110), none, 0, false, .mv (T 18)⟩,
 ⟨(some 111), none, 12, false, .iaddr 1 (T 109) (T 110)⟩,
 ⟨(some 112), none, 28, false, .load none (T 111)⟩,
 ⟨(some 113), none, 63, true, .call 20 [(T 107), (T 108), (T 112)]⟩,
 ⟨(some 106), none, 127, false, .mv (T 113)⟩,
 ⟨(some 114), none, 255, false, .ext (T 106) 0⟩,
 ⟨(some 115), none, 255, false, .ext (T 106) 1⟩,
 ⟨(some 116), none, 255, false, .ext (T 106) 2⟩,
 ⟨(some 19), none, 0, false, .alloc true (List.replicate 5 (.int .i64 0) ++ [(.int .u32 0), (.int .i64 0)])⟩,
 ⟨none, none, 2559, true, .store 7 (T 19) (T 114)⟩,
 ⟨(some 20), none, 7167, false, .mv (T 115)⟩,
 ⟨(some 21), none, 16383, false, .mv (T 116)⟩])
 (.seq (.seq (.region [
 D 117 (.mv (T 21)),
 D 118 (.bin .neq (T 117) (C (.int .i64 0)))])
 (.cond (T 118)
 (.seq (.region [
 D 119 (.mv (T 21)),
 D 9 (.mv (T 119))])
 (.exit 2))
 .skip))
 (.seq (.seq (.region [
 D 120 (.mv (T 0)),
 D 121 (.load (some 7) (T 19)),
 D 122 (.call 16 [(T 120), (T 121)]),
 D 123 (.un .not (T 122))])
 (.cond (T 123)
 (.seq (.region [
 D 4 (.mv (C (.bool false)))])
 .ret)
 .skip))
 (.seq (.region [
 D 124 (.load (some 7) (T 19)),
 E (.store 7 (T 17) (T 124))])
 (.seq (.region [
 D 125 (.mv (T 20))])
 (.cond (T 125)
 (.region [
 D 9 (.mv (C (.int .i64 0)))])
 .skip)))))))
 (.region [
 D 104 (.mv (T 18)),
 D 105 (.bin .add (T 104) (C (.int .i64 1))),
 D 18 (.mv (T 105))])))
/-- a loop of winepress/winepresslaw24.HeaderSteps; it keeps [9, 10, 7, 8, 5, 0, 1] -/
def lb6_1 : ACode := (.seq (.seq (.region [
 D 40 (.mv (T 10)),
 D 41 (.mv (T 1)),
 D 42 (.len (T 41)),
 D 43 (.bin .lss (T 40) (T 42)),
 D 44 (.mv (T 43)),
 ⟨(some 45), (some (44, true)), 0, true, .mv (T 9)⟩,
 ⟨(some 46), (some (44, true)), 0, true, .bin .eql (T 45) (C (.int .i64 50))⟩,
 D 47 (.pick (T 44) (T 46) (C (.bool false)))])
 (.cond (T 47)
 .skip
 (.exit 0)))
 (.seq (.block 1 (.seq (.drawn [
 ⟨(some 51), none, 0, false, .load (some 4) (T 8)⟩,
 ⟨(some 52), none, 0, false, .mv (T 1)⟩,
 ⟨(some 53), none, 0, false, .mv (T 10)⟩,
 ⟨(some 54), none, 6, false, .iaddr 1 (T 52) (T 53)⟩,
 ⟨(some 55), none, 14, false, .load none (T 54)⟩,
 ⟨(some 56), none, 31, true, .call 18 [(T 51), (T 55)]⟩,
 ⟨(some 50), none, 63, false, .mv (T 56)⟩,
 ⟨(some 57), none, 127, false, .ext (T 50) 0⟩,
 ⟨(some 58), none, 127, false, .ext (T 50) 1⟩,
 ⟨(some 59), none, 127, false, .ext (T 50) 2⟩,
 ⟨(some 11), none, 0, false, .alloc true [(.int .i64 0), (.int .i64 0), (.int .i64 0), (.int .i64 0)]⟩,
 ⟨none, none, 1279, true, .store 4 (T 11) (T 57)⟩,
 ⟨(some 12), none, 3583, false, .mv (T 58)⟩,
 ⟨(some 13), none, 8191, false, .mv (T 59)⟩])
 (.seq (.seq (.region [
 D 60 (.mv (T 13)),
 D 61 (.bin .neq (T 60) (C (.int .i64 0)))])
 (.cond (T 61)
 (.seq (.region [
 D 62 (.mv (T 13)),
 D 9 (.mv (T 62))])
 (.exit 0))
 .skip))
 (.seq (.seq (.region [
 D 63 (.load (some 4) (T 11)),
 D 64 (.call 14 [(T 63)]),
 D 65 (.un .not (T 64)),
 D 66 (.mv (T 65)),
 ⟨(some 67), (some (66, false)), 0, true, .mv (T 12)⟩,
 ⟨(some 68), (some (66, false)), 0, true, .faddr 0 (T 11)⟩,
 ⟨(some 69), (some (66, false)), 0, true, .load none (T 68)⟩,
 ⟨(some 70), (some (66, false)), 0, true, .bin .eql (T 69) (C (.int .i64 4))⟩,
 ⟨(some 71), (some (66, false)), 0, true, .eqs true .bool (T 67) (T 70)⟩,
 D 72 (.pick (T 66) (C (.bool true)) (T 71))])
 (.cond (T 72)
 (.seq (.region [
 D 4 (.mv (C (.bool false)))])
 .ret)
 .skip))
 (.seq (.region [
 D 73 (.load (some 4) (T 11)),
 E (.store 4 (T 8) (T 73))])
 (.seq (.region [
 D 74 (.mv (T 12))])
 (.cond (T 74)
 (.region [
 D 9 (.mv (C (.int .i64 0)))])
 .skip)))))))
 (.region [
 D 48 (.mv (T 10)),
 D 49 (.bin .add (T 48) (C (.int .i64 1))),
 D 10 (.mv (T 49))])))
/-- winepress/winepresslaw24.HeaderSteps -/
def ac6 : AFn := ⟨(.seq (.region [
 D 4 (.mv (C (.bool false)))])
 (.seq (.seq (.region [
 D 22 (.mv (T 1)),
 D 23 (.len (T 22)),
 D 24 (.bin .gtr (T 23) (C (.int .i64 60))),
 D 25 (.mv (T 24)),
 ⟨(some 26), (some (25, false)), 0, true, .mv (T 0)⟩,
 ⟨(some 27), (some (25, false)), 0, true, .bin .lss (T 26) (C (.int .i64 1))⟩,
 D 28 (.pick (T 25) (C (.bool true)) (T 27)),
 D 29 (.mv (T 28)),
 ⟨(some 30), (some (29, false)), 0, true, .mv (T 0)⟩,
 ⟨(some 31), (some (29, false)), 0, true, .bin .gtr (T 30) (C (.int .i64 65536))⟩,
 D 32 (.pick (T 29) (C (.bool true)) (T 31))])
 (.cond (T 32)
 (.seq (.region [
 D 33 (.call 7 []),
 D 4 (.mv (T 33))])
 .ret)
 .skip))
 (.seq (.region [
 D 35 (.mv (T 1)),
 D 36 (.call 22 [(T 35)]),
 D 34 (.mv (T 36)),
 D 37 (.ext (T 34) 0),
 D 38 (.ext (T 34) 1),
 D 39 (.ext (T 34) 2),
 D 5 (.alloc true [(.int .i64 0)]),
 E (.store 1 (T 5) (T 37)),
 D 6 (.mv (T 38)),
 D 7 (.mv (T 39))])
 (.seq (.region [
 D 8 (.alloc true [(.int .i64 0), (.int .i64 0), (.int .i64 0), (.int .i64 0)])])
 (.seq (.region [
 D 9 (.mv (C (.int .i64 50)))])
 (.seq (.seq (.region [
 D 10 (.mv (C (.int .i64 0)))])
 (.block 0 (.loop [9, 10, 7, 8, 5, 0, 1] lb6_1)))
 (.seq (.seq (.region [
 D 75 (.mv (T 9)),
 D 76 (.mv (T 7)),
 D 77 (.bin .neq (T 75) (T 76)),
 D 78 (.mv (T 77)),
 ⟨(some 79), (some (78, false)), 0, true, .mv (T 7)⟩,
 ⟨(some 80), (some (78, false)), 0, true, .bin .eql (T 79) (C (.int .i64 0))⟩,
 ⟨(some 81), (some (78, false)), 0, true, .mv (T 80)⟩,
 ⟨(some 82), (some (81, true)), 0, true, .faddr 3 (T 8)⟩,
 ⟨(some 83), (some (81, true)), 0, true, .load none (T 82)⟩,
 ⟨(some 84), (some (81, true)), 0, true, .faddr 0 (T 5)⟩,
 ⟨(some 85), (some (81, true)), 0, true, .load none (T 84)⟩,
 ⟨(some 86), (some (81, true)), 0, true, .bin .neq (T 83) (T 85)⟩,
 ⟨(some 87), (some (78, false)), 0, true, .pick (T 81) (T 86) (C (.bool false))⟩,
 D 88 (.pick (T 78) (C (.bool true)) (T 87))])
 (.cond (T 88)
 (.seq (.region [
 D 4 (.mv (C (.bool false)))])
 .ret)
 .skip))
 (.seq (.region [
 D 90 (.mv (T 0)),
 D 91 (.mv (T 1)),
 D 92 (.call 24 [(T 90), (T 91)]),
 D 89 (.mv (T 92)),
 D 93 (.ext (T 89) 0),
 D 94 (.ext (T 89) 1),
 D 95 (.ext (T 89) 2),
 D 14 (.alloc true (List.replicate 5 (.int .i64 0) ++ [(.int .u32 0), (.int .i64 0)])),
 E (.store 7 (T 14) (T 93)),
 D 15 (.mv (T 94)),
 D 16 (.mv (T 95))])
 (.seq (.region [
 D 17 (.alloc true (List.replicate 5 (.int .i64 0) ++ [(.int .u32 0), (.int .i64 0)]))])
 (.seq (.region [
 D 9 (.mv (C (.int .i64 50)))])
 (.seq (.seq (.region [
 D 18 (.mv (C (.int .i64 0)))])
 (.block 2 (.loop [9, 18, 1, 0, 16, 17, 14] lb6_0)))
 (.seq (.region [
 D 126 (.mv (T 9)),
 D 127 (.mv (T 16)),
 D 128 (.bin .eql (T 126) (T 127)),
 D 129 (.mv (T 128)),
 ⟨(some 130), (some (129, true)), 0, true, .mv (T 16)⟩,
 ⟨(some 131), (some (129, true)), 0, true, .bin .neq (T 130) (C (.int .i64 0))⟩,
 ⟨(some 132), (some (129, true)), 0, true, .mv (T 131)⟩,
 ⟨(some 133), (some (132, false)), 0, true, .load (some 7) (T 17)⟩,
 ⟨(some 134), (some (132, false)), 0, true, .load (some 7) (T 14)⟩,
 ⟨(some 135), (some (132, false)), 0, true, .eqs false (.agg (List.replicate 7 .nu)) (T 133) (T 134)⟩,
 ⟨(some 136), (some (129, true)), 0, true, .pick (T 132) (C (.bool true)) (T 135)⟩,
 D 137 (.pick (T 129) (T 136) (C (.bool false))),
 D 138 (.mv (T 137)),
 ⟨(some 139), (some (138, true)), 0, true, .call 7 []⟩,
 D 140 (.pick (T 138) (T 139) (C (.bool false))),
 D 4 (.mv (T 140))])
 .ret)))))))))))), [.tmp 4]⟩
theorem ac6_ok : compFn Try.prog Try.f6 = some ac6 := by kernel_rfl
/-- winepress/winepresslaw24.wakes -/
def ac7 : AFn := ⟨(.seq (.region [
 D 0 (.mv (C (.bool false)))])
 (.seq (.region [
 D 42 (.build [(.int .i64 0)] [(0, 1, (C (.int .i64 300)))]),
 D 43 (.call 8 [(T 42)]),
 D 41 (.mv (T 43)),
 D 44 (.ext (T 41) 0),
 D 45 (.ext (T 41) 1),
 D 1 (.mv (T 44)),
 D 2 (.mv (T 45))])
 (.seq (.region [
 D 47 (.build [(.int .i64 0)] []),
 D 48 (.call 8 [(T 47)]),
 D 46 (.mv (T 48)),
 D 49 (.ext (T 46) 0),
 D 50 (.ext (T 46) 1),
 D 3 (.mv (T 49)),
 D 4 (.mv (T 50))])
 (.seq (.region [
 D 52 (.build [(.int .i64 0), (.int .i64 0), (.int .u32 0)] [(0, 1, (C (.int .i64 5))), (1, 1, (C (.int .i64 2))), (2, 1, (C (.int .u32 258)))]),
 D 53 (.call 10 [(C (.int .i64 300)), (T 52)]),
 D 51 (.mv (T 53)),
 D 54 (.ext (T 51) 0),
 D 55 (.ext (T 51) 1),
 D 5 (.mv (T 54)),
 D 6 (.mv (T 55))])
 (.seq (.region [
 D 57 (.build [(.int .i64 0), (.int .i64 0), (.int .u32 0)] [(0, 1, (C (.int .i64 5))), (1, 1, (C (.int .i64 2)))]),
 D 58 (.call 10 [(C (.int .i64 4)), (T 57)]),
 D 56 (.mv (T 58)),
 D 59 (.ext (T 56) 0),
 D 60 (.ext (T 56) 1),
 D 7 (.mv (T 59)),
 D 8 (.mv (T 60))])
 (.seq (.region [
 D 61 (.call 12 [(C (.int .u32 258))]),
 D 9 (.mv (T 61))])
 (.seq (.region [
 D 63 (.bslice true 1 6 (List.replicate 6 (.int .u8 0)) [(0, 1, (C (.int .u8 87))), (1, 1, (C (.int .u8 80))), (2, 1, (C (.int .u8 1))), (3, 1, (C (.int .u8 130))), (4, 1, (C (.int .u8 44))), (5, 1, (C (.int .u8 120)))]),
 D 64 (.mark (T 63)),
 D 65 (.call 22 [(T 64)]),
 D 62 (.mv (T 65)),
 D 66 (.ext (T 62) 0),
 D 67 (.ext (T 62) 1),
 D 68 (.ext (T 62) 2),
 D 10 (.alloc true [(.int .i64 0)]),
 E (.store 1 (T 10) (T 66)),
 D 11 (.mv (T 67)),
 D 12 (.mv (T 68))])
 (.seq (.region [
 D 70 (.bslice true 1 2 [(.int .u8 0), (.int .u8 0)] [(0, 1, (C (.int .u8 87))), (1, 1, (C (.int .u8 81)))]),
 D 71 (.mark (T 70)),
 D 72 (.call 22 [(T 71)]),
 D 69 (.mv (T 72)),
 D 73 (.ext (T 69) 0),
 D 74 (.ext (T 69) 1),
 D 75 (.ext (T 69) 2),
 D 13 (.alloc true [(.int .i64 0)]),
 E (.store 1 (T 13) (T 73)),
 D 14 (.mv (T 74)),
 D 15 (.mv (T 75))])
 (.seq (.region [
 D 77 (.bslice true 1 3 [(.int .u8 0), (.int .u8 0), (.int .u8 0)] [(0, 1, (C (.int .u8 87))), (1, 1, (C (.int .u8 80))), (2, 1, (C (.int .u8 2)))]),
 D 78 (.mark (T 77)),
 D 79 (.call 22 [(T 78)]),
 D 76 (.mv (T 79)),
 D 80 (.ext (T 76) 0),
 D 81 (.ext (T 76) 1),
 D 82 (.ext (T 76) 2),
 D 16 (.alloc true [(.int .i64 0)]),
 E (.store 1 (T 16) (T 80)),
 D 17 (.mv (T 81)),
 D 18 (.mv (T 82))])
 (.seq (.region [
 D 84 (.bslice true 1 4 [(.int .u8 0), (.int .u8 0), (.int .u8 0), (.int .u8 0)] [(0, 1, (C (.int .u8 87))), (1, 1, (C (.int .u8 80))), (2, 1, (C (.int .u8 1))), (3, 1, (C (.int .u8 128)))]),
 D 85 (.mark (T 84)),
 D 86 (.call 22 [(T 85)]),
 D 83 (.mv (T 86)),
 D 87 (.ext (T 83) 0),
 D 88 (.ext (T 83) 1),
 D 89 (.ext (T 83) 2),
 D 19 (.alloc true [(.int .i64 0)]),
 E (.store 1 (T 19) (T 87)),
 D 20 (.mv (T 88)),
 D 21 (.mv (T 89))])
 (.seq (.region [
 D 91 (.bslice true 1 6 (List.replicate 6 (.int .u8 0)) [(0, 1, (C (.int .u8 87))), (1, 1, (C (.int .u8 80))), (2, 1, (C (.int .u8 1))), (3, 1, (C (.int .u8 132))), (4, 1, (C (.int .u8 128))), (5, 1, (C (.int .u8 1)))]),
 D 92 (.mark (T 91)),
 D 93 (.call 22 [(T 92)]),
 D 90 (.mv (T 93)),
 D 94 (.ext (T 90) 0),
 D 95 (.ext (T 90) 1),
 D 96 (.ext (T 90) 2),
 D 22 (.alloc true [(.int .i64 0)]),
 E (.store 1 (T 22) (T 94)),
 D 23 (.mv (T 95)),
 D 24 (.mv (T 96))])
 (.seq (.region [
 D 98 (.bslice true 1 5 (List.replicate 5 (.int .u8 0)) [(0, 1, (C (.int .u8 87))), (1, 1, (C (.int .u8 80))), (2, 1, (C (.int .u8 1))), (3, 1, (C (.int .u8 132))), (4, 1, (C (.int .u8 128)))]),
 D 99 (.mark (T 98)),
 D 100 (.call 22 [(T 99)]),
 D 97 (.mv (T 100)),
 D 101 (.ext (T 97) 0),
 D 102 (.ext (T 97) 1),
 D 103 (.ext (T 97) 2),
 D 25 (.alloc true [(.int .i64 0)]),
 E (.store 1 (T 25) (T 101)),
 D 26 (.mv (T 102)),
 D 27 (.mv (T 103))])
 (.seq (.region [
 D 105 (.bslice true 1 9 (List.replicate 9 (.int .u8 0)) [(0, 1, (C (.int .u8 1))), (1, 1, (C (.int .u8 5))), (2, 1, (C (.int .u8 2))), (3, 1, (C (.int .u8 0))), (4, 1, (C (.int .u8 0))), (5, 1, (C (.int .u8 1))), (6, 1, (C (.int .u8 2))), (7, 1, (C (.int .u8 121))), (8, 1, (C (.int .u8 122)))]),
 D 106 (.mark (T 105)),
 D 107 (.call 24 [(C (.int .i64 300)), (T 106)]),
 D 104 (.mv (T 107)),
 D 108 (.ext (T 104) 0),
 D 109 (.ext (T 104) 1),
 D 110 (.ext (T 104) 2),
 D 28 (.alloc true (List.replicate 5 (.int .i64 0) ++ [(.int .u32 0), (.int .i64 0)])),
 E (.store 7 (T 28) (T 108)),
 D 29 (.mv (T 109)),
 D 30 (.mv (T 110))])
 (.seq (.region [
 D 112 (.mv (T 9)),
 D 113 (.call 24 [(C (.int .i64 300)), (T 112)]),
 D 111 (.mv (T 113)),
 D 114 (.ext (T 111) 0),
 D 115 (.ext (T 111) 1),
 D 116 (.ext (T 111) 2),
 D 31 (.alloc true (List.replicate 5 (.int .i64 0) ++ [(.int .u32 0), (.int .i64 0)])),
 E (.store 7 (T 31) (T 114)),
 D 32 (.mv (T 115)),
 D 33 (.mv (T 116))])
 (.seq (.region [
 D 118 (.bslice true 1 1 [(.int .u8 0)] [(0, 1, (C (.int .u8 2)))]),
 D 119 (.call 24 [(C (.int .i64 300)), (T 118)]),
 D 117 (.mv (T 119)),
 D 120 (.ext (T 117) 0),
 D 121 (.ext (T 117) 1),
 D 122 (.ext (T 117) 2),
 D 34 (.alloc true (List.replicate 5 (.int .i64 0) ++ [(.int .u32 0), (.int .i64 0)])),
 E (.store 7 (T 34) (T 120)),
 D 35 (.mv (T 121)),
 D 36 (.mv (T 122))])
 (.seq (.region [
 D 124 (.mv (T 9)),
 D 125 (.call 24 [(C (.int .i64 0)), (T 124)]),
 D 123 (.mv (T 125)),
 D 126 (.ext (T 123) 0),
 D 127 (.ext (T 123) 1),
 D 128 (.ext (T 123) 2),
 D 37 (.alloc true (List.replicate 5 (.int .i64 0) ++ [(.int .u32 0), (.int .i64 0)])),
 E (.store 7 (T 37) (T 126)),
 D 38 (.mv (T 127)),
 D 39 (.mv (T 128))])
 (.seq (.region [
 D 129 (.load (some 7) (T 28)),
 D 130 (.build [(.int .i64 0), (.int .i64 0), (.int .u32 0)] [(0, 1, (C (.int .i64 5))), (1, 1, (C (.int .i64 2))), (2, 1, (C (.int .u32 258)))]),
 D 131 (.build (List.replicate 5 (.int .i64 0) ++ [(.int .u32 0), (.int .i64 0)]) [(0, 1, (C (.int .i64 4))), (3, 3, (T 130)), (6, 1, (C (.int .i64 4)))]),
 D 132 (.eqs false (.agg (List.replicate 7 .nu)) (T 129) (T 131)),
 D 133 (.mv (T 132)),
 ⟨(some 134), (some (133, true)), 0, true, .load (some 7) (T 31)⟩,
 ⟨(some 135), (some (133, true)), 0, true, .build [(.int .i64 0), (.int .i64 0), (.int .u32 0)] [(2, 1, (C (.int .u32 258)))]⟩,
 ⟨(some 136), (some (133, true)), 0, true, .build (List.replicate 5 (.int .i64 0) ++ [(.int .u32 0), (.int .i64 0)]) [(0, 1, (C (.int .i64 6))), (3, 3, (T 135)), (6, 1, (C (.int .i64 4)))]⟩,
 ⟨(some 137), (some (133, true)), 0, true, .eqs false (.agg (List.replicate 7 .nu)) (T 134) (T 136)⟩,
 D 138 (.pick (T 133) (T 137) (C (.bool false))),
 D 40 (.mv (T 138))])
 (.seq (.region [
 D 139 (.mv (T 2)),
 D 140 (.bin .eql (T 139) (C (.int .i64 0))),
 D 141 (.mv (T 140)),
 ⟨(some 142), (some (141, true)), 0, true, .mv (T 1)⟩,
 ⟨(some 143), (some (141, true)), 0, true, .bstr (T 142)⟩,
 ⟨(some 144), (some (141, true)), 0, true, .bin .eql (T 143) (C (.string ⟨#[87, 80, 1, 130, 44]⟩))⟩,
 D 145 (.pick (T 141) (T 144) (C (.bool false))),
 D 146 (.mv (T 145)),
 ⟨(some 147), (some (146, true)), 0, true, .mv (T 4)⟩,
 ⟨(some 148), (some (146, true)), 0, true, .bin .eql (T 147) (C (.int .i64 2))⟩,
 D 149 (.pick (T 146) (T 148) (C (.bool false))),
 D 150 (.mv (T 149)),
 ⟨(some 151), (some (150, true)), 0, true, .mv (T 6)⟩,
 ⟨(some 152), (some (150, true)), 0, true, .bin .eql (T 151) (C (.int .i64 0))⟩,
 D 153 (.pick (T 150) (T 152) (C (.bool false))),
 D 154 (.mv (T 153)),
 ⟨(some 155), (some (154, true)), 0, true, .mv (T 5)⟩,
 ⟨(some 156), (some (154, true)), 0, true, .bstr (T 155)⟩,
 ⟨(some 157), (some (154, true)), 0, true, .bin .eql (T 156) (C (.string ⟨#[1, 5, 2, 0, 0, 1, 2]⟩))⟩,
 D 158 (.pick (T 154) (T 157) (C (.bool false))),
 D 159 (.mv (T 158)),
 ⟨(some 160), (some (159, true)), 0, true, .mv (T 8)⟩,
 ⟨(some 161), (some (159, true)), 0, true, .bin .eql (T 160) (C (.int .i64 2))⟩,
 D 162 (.pick (T 159) (T 161) (C (.bool false))),
 D 163 (.mv (T 162)),
 ⟨(some 164), (some (163, true)), 0, true, .mv (T 9)⟩,
 ⟨(some 165), (some (163, true)), 0, true, .bstr (T 164)⟩,
 ⟨(some 166), (some (163, true)), 0, true, .bin .eql (T 165) (C (.string ⟨#[0, 0, 0, 1, 2]⟩))⟩,
 D 167 (.pick (T 163) (T 166) (C (.bool false))),
 D 168 (.mv (T 167)),
 ⟨(some 169), (some (168, true)), 0, true, .mv (T 12)⟩,
 ⟨(some 170), (some (168, true)), 0, true, .bin .eql (T 169) (C (.int .i64 0))⟩,
 D 171 (.pick (T 168) (T 170) (C (.bool false))),
 D 172 (.mv (T 171)),
 ⟨(some 173), (some (172, true)), 0, true, .faddr 0 (T 10)⟩,
 ⟨(some 174), (some (172, true)), 0, true, .load none (T 173)⟩,
 ⟨(some 175), (some (172, true)), 0, true, .bin .eql (T 174) (C (.int .i64 300))⟩,
 D 176 (.pick (T 172) (T 175) (C (.bool false))),
 D 177 (.mv (T 176)),
 ⟨(some 178), (some (177, true)), 0, true, .mv (T 11)⟩,
 ⟨(some 179), (some (177, true)), 0, true, .bstr (T 178)⟩,
 ⟨(some 180), (some (177, true)), 0, true, .bin .eql (T 179) (C (.string ⟨#[120]⟩))⟩,
 D 181 (.pick (T 177) (T 180) (C (.bool false))),
 D 182 (.mv (T 181)),
 ⟨(some 183), (some (182, true)), 0, true, .mv (T 15)⟩,
 ⟨(some 184), (some (182, true)), 0, true, .bin .eql (T 183) (C (.int .i64 240))⟩,
 D 185 (.pick (T 182) (T 184) (C (.bool false))),
 D 186 (.mv (T 185)),
 ⟨(some 187), (some (186, true)), 0, true, .mv (T 18)⟩,
 ⟨(some 188), (some (186, true)), 0, true, .bin .eql (T 187) (C (.int .i64 241))⟩,
 D 189 (.pick (T 186) (T 188) (C (.bool false))),
 D 190 (.mv (T 189)),
 ⟨(some 191), (some (190, true)), 0, true, .mv (T 21)⟩,
 ⟨(some 192), (some (190, true)), 0, true, .bin .eql (T 191) (C (.int .i64 242))⟩,
 D 193 (.pick (T 190) (T 192) (C (.bool false))),
 D 194 (.mv (T 193)),
 ⟨(some 195), (some (194, true)), 0, true, .mv (T 24)⟩,
 ⟨(some 196), (some (194, true)), 0, true, .bin .eql (T 195) (C (.int .i64 242))⟩,
 D 197 (.pick (T 194) (T 196) (C (.bool false))),
 D 198 (.mv (T 197)),
 ⟨(some 199), (some (198, true)), 0, true, .mv (T 27)⟩,
 ⟨(some 200), (some (198, true)), 0, true, .bin .eql (T 199) (C (.int .i64 50))⟩,
 D 201 (.pick (T 198) (T 200) (C (.bool false))),
 D 202 (.mv (T 201)),
 ⟨(some 203), (some (202, true)), 0, true, .mv (T 30)⟩,
 ⟨(some 204), (some (202, true)), 0, true, .bin .eql (T 203) (C (.int .i64 0))⟩,
 D 205 (.pick (T 202) (T 204) (C (.bool false))),
 D 206 (.mv (T 205)),
 ⟨(some 207), (some (206, true)), 0, true, .mv (T 40)⟩,
 D 208 (.pick (T 206) (T 207) (C (.bool false))),
 D 209 (.mv (T 208)),
 ⟨(some 210), (some (209, true)), 0, true, .mv (T 29)⟩,
 ⟨(some 211), (some (209, true)), 0, true, .bstr (T 210)⟩,
 ⟨(some 212), (some (209, true)), 0, true, .bin .eql (T 211) (C (.string ⟨#[121, 122]⟩))⟩,
 D 213 (.pick (T 209) (T 212) (C (.bool false))),
 D 214 (.mv (T 213)),
 ⟨(some 215), (some (214, true)), 0, true, .mv (T 33)⟩,
 ⟨(some 216), (some (214, true)), 0, true, .bin .eql (T 215) (C (.int .i64 0))⟩,
 D 217 (.pick (T 214) (T 216) (C (.bool false))),
 D 218 (.mv (T 217)),
 ⟨(some 219), (some (218, true)), 0, true, .mv (T 32)⟩,
 ⟨(some 220), (some (218, true)), 0, true, .len (T 219)⟩,
 ⟨(some 221), (some (218, true)), 0, true, .bin .eql (T 220) (C (.int .i64 0))⟩,
 D 222 (.pick (T 218) (T 221) (C (.bool false))),
 D 223 (.mv (T 222)),
 ⟨(some 224), (some (223, true)), 0, true, .mv (T 36)⟩,
 ⟨(some 225), (some (223, true)), 0, true, .bin .eql (T 224) (C (.int .i64 242))⟩,
 D 226 (.pick (T 223) (T 225) (C (.bool false))),
 D 227 (.mv (T 226)),
 ⟨(some 228), (some (227, true)), 0, true, .mv (T 39)⟩,
 ⟨(some 229), (some (227, true)), 0, true, .bin .eql (T 228) (C (.int .i64 2))⟩,
 D 230 (.pick (T 227) (T 229) (C (.bool false))),
 D 231 (.mv (T 230)),
 ⟨(some 232), (some (231, true)), 0, true, .build [(.int .i64 0), (.int .i64 0), (.int .i64 0), (.int .i64 0)] [(0, 1, (C (.int .i64 4))), (3, 1, (C (.int .i64 1)))]⟩,
 ⟨(some 233), (some (231, true)), 0, true, .call 14 [(T 232)]⟩,
 D 234 (.pick (T 231) (T 233) (C (.bool false))),
 D 235 (.mv (T 234)),
 ⟨(some 236), (some (235, true)), 0, true, .build [(.int .i64 0), (.int .i64 0), (.int .i64 0), (.int .i64 0)] [(0, 1, (C (.int .i64 4)))]⟩,
 ⟨(some 237), (some (235, true)), 0, true, .call 14 [(T 236)]⟩,
 ⟨(some 238), (some (235, true)), 0, true, .un .not (T 237)⟩,
 D 239 (.pick (T 235) (T 238) (C (.bool false))),
 D 240 (.mv (T 239)),
 ⟨(some 241), (some (240, true)), 0, true, .load (some 7) (T 28)⟩,
 ⟨(some 242), (some (240, true)), 0, true, .call 16 [(C (.int .i64 300)), (T 241)]⟩,
 D 243 (.pick (T 240) (T 242) (C (.bool false))),
 D 244 (.mv (T 243)),
 ⟨(some 245), (some (244, true)), 0, true, .load (some 7) (T 28)⟩,
 ⟨(some 246), (some (244, true)), 0, true, .call 16 [(C (.int .i64 4)), (T 245)]⟩,
 ⟨(some 247), (some (244, true)), 0, true, .un .not (T 246)⟩,
 D 248 (.pick (T 244) (T 247) (C (.bool false))),
 D 0 (.mv (T 248))])
 .ret)))))))))))))))))), [.tmp 0]⟩
theorem ac7_ok : compFn Try.prog Try.f7 = some ac7 := by kernel_rfl
/-- winepress/header.Put -/
def ac8 : AFn := ⟨(.seq (.region [
 D 1 (.box true (T 0)),
 D 2 (.mv (C (.slice none 0 0))),
 D 3 (.mv (C (.int .i64 0)))])
 (.seq (.region [
 D 7 (.faddr 0 (T 1)),
 D 8 (.load none (T 7)),
 D 9 (.call 26 [(T 8), (C (.int .i64 65536))]),
 D 6 (.mv (T 9)),
 D 10 (.ext (T 6) 0),
 D 11 (.ext (T 6) 1),
 D 4 (.mv (T 10)),
 D 5 (.mv (T 11))])
 (.seq (.seq (.region [
 D 12 (.mv (T 5)),
 D 13 (.un .not (T 12))])
 (.cond (T 13)
 (.seq (.region [
 D 2 (.mv (C (.slice none 0 0))),
 D 3 (.mv (C (.int .i64 2)))])
 .ret)
 .skip))
 (.seq (.region [
 D 14 (.bslice true 1 3 [(.int .u8 0), (.int .u8 0), (.int .u8 0)] [(0, 1, (C (.int .u8 87))), (1, 1, (C (.int .u8 80))), (2, 1, (C (.int .u8 1)))]),
 D 15 (.mark (T 14)),
 D 16 (.mv (T 4)),
 D 17 (.append true 1 (T 15) (T 16)),
 D 2 (.mv (T 17)),
 D 3 (.mv (C (.int .i64 0)))])
 .ret)))), [.tmp 2, .tmp 3]⟩
theorem ac8_ok : compFn Try.prog Try.f8 = some ac8 := by kernel_rfl
/-- winepress/winepressref24.Put -/
def ac9 : AFn := ⟨(.seq (.region [
 D 1 (.box true (T 0)),
 D 2 (.mv (C (.slice none 0 0))),
 D 3 (.mv (C (.int .i64 0)))])
 (.seq (.seq (.region [
 D 6 (.faddr 0 (T 1)),
 D 7 (.load none (T 6)),
 D 8 (.bin .lss (T 7) (C (.int .i64 1))),
 D 9 (.mv (T 8)),
 ⟨(some 10), (some (9, false)), 0, true, .faddr 0 (T 1)⟩,
 ⟨(some 11), (some (9, false)), 0, true, .load none (T 10)⟩,
 ⟨(some 12), (some (9, false)), 0, true, .bin .gtr (T 11) (C (.int .i64 65536))⟩,
 D 13 (.pick (T 9) (C (.bool true)) (T 12))])
 (.cond (T 13)
 (.seq (.region [
 D 2 (.mv (C (.slice none 0 0))),
 D 3 (.mv (C (.int .i64 2)))])
 .ret)
 .skip))
 (.seq (.region [
 D 15 (.faddr 0 (T 1)),
 D 16 (.load none (T 15)),
 D 17 (.call 27 [(T 16)]),
 D 14 (.mv (T 17)),
 D 18 (.ext (T 14) 0),
 D 19 (.ext (T 14) 1),
 D 4 (.mv (T 18)),
 D 5 (.mv (T 19))])
 (.seq (.region [
 D 20 (.bslice true 1 3 [(.int .u8 0), (.int .u8 0), (.int .u8 0)] [(0, 1, (C (.int .u8 87))), (1, 1, (C (.int .u8 80))), (2, 1, (C (.int .u8 1)))]),
 D 21 (.mv (T 4)),
 D 22 (.append true 1 (T 20) (T 21)),
 D 2 (.mv (T 22)),
 D 3 (.mv (C (.int .i64 0)))])
 .ret)))), [.tmp 2, .tmp 3]⟩
theorem ac9_ok : compFn Try.prog Try.f9 = some ac9 := by kernel_rfl
/-- winepress/header.PutBlock -/
def ac10 : AFn := ⟨(.seq (.region [
 D 3 (.box true (T 1)),
 D 4 (.mv (C (.slice none 0 0))),
 D 5 (.mv (C (.int .i64 0)))])
 (.seq (.region [
 D 11 (.faddr 0 (T 3)),
 D 12 (.load none (T 11)),
 D 13 (.mv (T 0)),
 D 14 (.call 26 [(T 12), (T 13)]),
 D 10 (.mv (T 14)),
 D 15 (.ext (T 10) 0),
 D 16 (.ext (T 10) 1),
 D 6 (.mv (T 15)),
 D 7 (.mv (T 16))])
 (.seq (.region [
 D 18 (.faddr 1 (T 3)),
 D 19 (.load none (T 18)),
 D 20 (.faddr 0 (T 3)),
 D 21 (.load none (T 20)),
 D 22 (.call 26 [(T 19), (T 21)]),
 D 17 (.mv (T 22)),
 D 23 (.ext (T 17) 0),
 D 24 (.ext (T 17) 1),
 D 8 (.mv (T 23)),
 D 9 (.mv (T 24))])
 (.seq (.seq (.region [
 D 25 (.mv (T 0)),
 D 26 (.call 28 [(T 25), (C (.int .i64 1)), (C (.int .i64 65536))]),
 D 27 (.un .not (T 26)),
 D 28 (.mv (T 27)),
 ⟨(some 29), (some (28, false)), 0, true, .mv (T 7)⟩,
 ⟨(some 30), (some (28, false)), 0, true, .un .not (T 29)⟩,
 D 31 (.pick (T 28) (C (.bool true)) (T 30)),
 D 32 (.mv (T 31)),
 ⟨(some 33), (some (32, false)), 0, true, .mv (T 9)⟩,
 ⟨(some 34), (some (32, false)), 0, true, .un .not (T 33)⟩,
 D 35 (.pick (T 32) (C (.bool true)) (T 34))])
 (.cond (T 35)
 (.seq (.region [
 D 4 (.mv (C (.slice none 0 0))),
 D 5 (.mv (C (.int .i64 2)))])
 .ret)
 .skip))
 (.seq (.region [
 D 36 (.bslice true 1 1 [(.int .u8 0)] [(0, 1, (C (.int .u8 1)))]),
 D 37 (.mv (T 6)),
 D 38 (.mv (T 8)),
 D 39 (.faddr 2 (T 3)),
 D 40 (.load none (T 39)),
 D 41 (.call 30 [(T 40)]),
 D 42 (.bslice false 1 4 [(.slice none 0 0), (.slice none 0 0), (.slice none 0 0), (.slice none 0 0)] [(0, 1, (T 36)), (1, 1, (T 37)), (2, 1, (T 38)), (3, 1, (T 41))]),
 D 43 (.call 29 [(T 42)]),
 D 4 (.mv (T 43)),
 D 5 (.mv (C (.int .i64 0)))])
 .ret))))), [.tmp 4, .tmp 5]⟩
theorem ac10_ok : compFn Try.prog Try.f10 = some ac10 := by kernel_rfl
/-- winepress/winepressref24.PutBlock -/
def ac11 : AFn := ⟨(.seq (.region [
 D 3 (.box true (T 1)),
 D 4 (.mv (C (.slice none 0 0))),
 D 5 (.mv (C (.int .i64 0)))])
 (.seq (.seq (.region [
 D 11 (.mv (T 0)),
 D 12 (.bin .lss (T 11) (C (.int .i64 1))),
 D 13 (.mv (T 12)),
 ⟨(some 14), (some (13, false)), 0, true, .mv (T 0)⟩,
 ⟨(some 15), (some (13, false)), 0, true, .bin .gtr (T 14) (C (.int .i64 65536))⟩,
 D 16 (.pick (T 13) (C (.bool true)) (T 15)),
 D 17 (.mv (T 16)),
 ⟨(some 18), (some (17, false)), 0, true, .faddr 0 (T 3)⟩,
 ⟨(some 19), (some (17, false)), 0, true, .load none (T 18)⟩,
 ⟨(some 20), (some (17, false)), 0, true, .bin .lss (T 19) (C (.int .i64 1))⟩,
 D 21 (.pick (T 17) (C (.bool true)) (T 20)),
 D 22 (.mv (T 21)),
 ⟨(some 23), (some (22, false)), 0, true, .faddr 0 (T 3)⟩,
 ⟨(some 24), (some (22, false)), 0, true, .load none (T 23)⟩,
 ⟨(some 25), (some (22, false)), 0, true, .mv (T 0)⟩,
 ⟨(some 26), (some (22, false)), 0, true, .bin .gtr (T 24) (T 25)⟩,
 D 27 (.pick (T 22) (C (.bool true)) (T 26)),
 D 28 (.mv (T 27)),
 ⟨(some 29), (some (28, false)), 0, true, .faddr 1 (T 3)⟩,
 ⟨(some 30), (some (28, false)), 0, true, .load none (T 29)⟩,
 ⟨(some 31), (some (28, false)), 0, true, .bin .lss (T 30) (C (.int .i64 1))⟩,
 D 32 (.pick (T 28) (C (.bool true)) (T 31)),
 D 33 (.mv (T 32)),
 ⟨(some 34), (some (33, false)), 0, true, .faddr 1 (T 3)⟩,
 ⟨(some 35), (some (33, false)), 0, true, .load none (T 34)⟩,
 ⟨(some 36), (some (33, false)), 0, true, .faddr 0 (T 3)⟩,
 ⟨(some 37), (some (33, false)), 0, true, .load none (T 36)⟩,
 ⟨(some 38), (some (33, false)), 0, true, .bin .gtr (T 35) (T 37)⟩,
 D 39 (.pick (T 33) (C (.bool true)) (T 38))])
 (.cond (T 39)
 (.seq (.region [
 D 4 (.mv (C (.slice none 0 0))),
 D 5 (.mv (C (.int .i64 2)))])
 .ret)
 .skip))
 (.seq (.region [
 D 41 (.faddr 0 (T 3)),
 D 42 (.load none (T 41)),
 D 43 (.call 27 [(T 42)]),
 D 40 (.mv (T 43)),
 D 44 (.ext (T 40) 0),
 D 45 (.ext (T 40) 1),
 D 6 (.mv (T 44)),
 D 7 (.mv (T 45))])
 (.seq (.region [
 D 47 (.faddr 1 (T 3)),
 D 48 (.load none (T 47)),
 D 49 (.call 27 [(T 48)]),
 D 46 (.mv (T 49)),
 D 50 (.ext (T 46) 0),
 D 51 (.ext (T 46) 1),
 D 8 (.mv (T 50)),
 D 9 (.mv (T 51))])
 (.seq (.region [
 D 52 (.bslice true 1 1 [(.int .u8 0)] [(0, 1, (C (.int .u8 1)))]),
 D 53 (.mv (T 6)),
 D 54 (.append true 1 (T 52) (T 53)),
 D 10 (.mv (T 54))])
 (.seq (.region [
 D 55 (.mv (T 10)),
 D 56 (.mv (T 8)),
 D 57 (.append true 1 (T 55) (T 56)),
 D 10 (.mv (T 57))])
 (.seq (.region [
 D 58 (.mv (T 10)),
 D 59 (.faddr 2 (T 3)),
 D 60 (.load none (T 59)),
 D 61 (.call 31 [(T 60)]),
 D 62 (.append true 1 (T 58) (T 61)),
 D 4 (.mv (T 62)),
 D 5 (.mv (C (.int .i64 0)))])
 .ret))))))), [.tmp 4, .tmp 5]⟩
theorem ac11_ok : compFn Try.prog Try.f11 = some ac11 := by kernel_rfl
/-- winepress/header.PutEnd -/
def ac12 : AFn := ⟨(.seq (.region [
 D 2 (.mv (C (.slice none 0 0)))])
 (.seq (.region [
 D 3 (.bslice true 1 1 [(.int .u8 0)] [(0, 1, (C (.int .u8 0)))]),
 D 4 (.mv (T 0)),
 D 5 (.call 30 [(T 4)]),
 D 6 (.append true 1 (T 3) (T 5)),
 D 2 (.mv (T 6))])
 .ret)), [.tmp 2]⟩
theorem ac12_ok : compFn Try.prog Try.f12 = some ac12 := by kernel_rfl
/-- winepress/winepressref24.PutEnd -/
def ac13 : AFn := ⟨(.seq (.region [
 D 2 (.mv (C (.slice none 0 0)))])
 (.seq (.region [
 D 3 (.bslice true 1 1 [(.int .u8 0)] [(0, 1, (C (.int .u8 0)))]),
 D 4 (.mv (T 0)),
 D 5 (.call 31 [(T 4)]),
 D 6 (.append true 1 (T 3) (T 5)),
 D 2 (.mv (T 6))])
 .ret)), [.tmp 2]⟩
theorem ac13_ok : compFn Try.prog Try.f13 = some ac13 := by kernel_rfl
/-- winepress/header.Valid -/
def ac14 : AFn := ⟨(.seq (.region [
 D 1 (.box true (T 0)),
 D 2 (.mv (C (.bool false)))])
 (.seq (.block 0 (.seq (.region [
 D 4 (.faddr 0 (T 1)),
 D 5 (.load none (T 4)),
 D 6 (.bin .eql (T 5) (C (.int .i64 3))),
 D 3 (.mv (T 6))])
 (.cond (T 3)
 (.seq (.region [
 D 7 (.faddr 1 (T 1)),
 D 8 (.load (some 2) (T 7)),
 D 9 (.call 32 [(T 8), (C (.int .i64 65536))]),
 D 10 (.mv (T 9)),
 ⟨(some 11), (some (10, true)), 0, true, .faddr 3 (T 1)⟩,
 ⟨(some 12), (some (10, true)), 0, true, .load none (T 11)⟩,
 ⟨(some 13), (some (10, true)), 0, true, .bin .eql (T 12) (C (.int .i64 0))⟩,
 D 14 (.pick (T 10) (T 13) (C (.bool false))),
 D 2 (.mv (T 14))])
 .ret)
 (.seq (.region [
 D 16 (.faddr 0 (T 1)),
 D 17 (.load none (T 16)),
 D 18 (.bin .eql (T 17) (C (.int .i64 4))),
 D 15 (.mv (T 18))])
 (.cond (T 15)
 (.seq (.region [
 D 19 (.faddr 1 (T 1)),
 D 20 (.load (some 2) (T 19)),
 D 21 (.build [(.int .i64 0), (.int .i64 0)] []),
 D 22 (.eqs false (.agg [.nu, .nu]) (T 20) (T 21)),
 D 23 (.mv (T 22)),
 ⟨(some 24), (some (23, true)), 0, true, .faddr 3 (T 1)⟩,
 ⟨(some 25), (some (23, true)), 0, true, .load none (T 24)⟩,
 ⟨(some 26), (some (23, true)), 0, true, .call 28 [(T 25), (C (.int .i64 1)), (C (.int .i64 65536))]⟩,
 D 27 (.pick (T 23) (T 26) (C (.bool false))),
 D 2 (.mv (T 27))])
 .ret)
 .skip)))))
 (.seq (.region [
 D 28 (.faddr 0 (T 1)),
 D 29 (.load none (T 28)),
 D 30 (.call 28 [(T 29), (C (.int .i64 0)), (C (.int .i64 3))]),
 D 31 (.mv (T 30)),
 ⟨(some 32), (some (31, true)), 0, true, .load (some 4) (T 1)⟩,
 ⟨(some 33), (some (31, true)), 0, true, .faddr 0 (T 1)⟩,
 ⟨(some 34), (some (31, true)), 0, true, .load none (T 33)⟩,
 ⟨(some 35), (some (31, true)), 0, true, .build [(.int .i64 0), (.int .i64 0), (.int .i64 0), (.int .i64 0)] [(0, 1, (T 34))]⟩,
 ⟨(some 36), (some (31, true)), 0, true, .eqs false (.agg [.nu, .nu, .nu, .nu]) (T 32) (T 35)⟩,
 D 37 (.pick (T 31) (T 36) (C (.bool false))),
 D 2 (.mv (T 37))])
 .ret))), [.tmp 2]⟩
theorem ac14_ok : compFn Try.prog Try.f14 = some ac14 := by kernel_rfl
/-- a loop of winepress/winepressref24.Valid; it keeps [6, 3, 1, 7] -/
def lb15_0 : ACode := (.seq (.seq (.region [
 D 62 (.mv (T 7)),
 D 63 (.mv (T 3)),
 D 64 (.len (T 63)),
 D 65 (.bin .lss (T 62) (T 64))])
 (.cond (T 65)
 .skip
 (.exit 0)))
 (.seq (.block 1 (.seq (.drawn [
 ⟨(some 69), none, 0, false, .load (some 4) (T 6)⟩,
 ⟨(some 70), none, 0, false, .mv (T 3)⟩,
 ⟨(some 71), none, 0, false, .mv (T 7)⟩,
 ⟨(some 72), none, 6, false, .iaddr 1 (T 70) (T 71)⟩,
 ⟨(some 73), none, 14, false, .load none (T 72)⟩,
 ⟨(some 74), none, 31, true, .call 34 [(T 69), (T 73)]⟩,
 ⟨(some 68), none, 63, false, .mv (T 74)⟩,
 ⟨(some 75), none, 127, false, .ext (T 68) 0⟩,
 ⟨(some 76), none, 127, false, .ext (T 68) 1⟩,
 ⟨(some 8), none, 0, false, .alloc true [(.int .i64 0), (.int .i64 0), (.int .i64 0), (.int .i64 0)]⟩,
 ⟨none, none, 767, true, .store 4 (T 8) (T 75)⟩,
 ⟨(some 9), none, 2047, false, .mv (T 76)⟩])
 (.seq (.seq (.region [
 D 77 (.mv (T 9)),
 D 78 (.bin .neq (T 77) (C (.int .i64 0)))])
 (.cond (T 78)
 (.seq (.region [
 D 2 (.mv (C (.bool false)))])
 .ret)
 .skip))
 (.region [
 D 79 (.load (some 4) (T 8)),
 E (.store 4 (T 6) (T 79))]))))
 (.region [
 D 66 (.mv (T 7)),
 D 67 (.bin .add (T 66) (C (.int .i64 1))),
 D 7 (.mv (T 67))])))
/-- winepress/winepressref24.Valid -/
def ac15 : AFn := ⟨(.seq (.region [
 D 1 (.box true (T 0)),
 D 2 (.mv (C (.bool false)))])
 (.seq (.seq (.region [
 D 10 (.faddr 0 (T 1)),
 D 11 (.load none (T 10)),
 D 12 (.bin .lss (T 11) (C (.int .i64 0))),
 D 13 (.mv (T 12)),
 ⟨(some 14), (some (13, false)), 0, true, .faddr 0 (T 1)⟩,
 ⟨(some 15), (some (13, false)), 0, true, .load none (T 14)⟩,
 ⟨(some 16), (some (13, false)), 0, true, .bin .gtr (T 15) (C (.int .i64 4))⟩,
 D 17 (.pick (T 13) (C (.bool true)) (T 16)),
 D 18 (.mv (T 17)),
 ⟨(some 19), (some (18, false)), 0, true, .faddr 1 (T 1)⟩,
 ⟨(some 20), (some (18, false)), 0, true, .faddr 0 (T 19)⟩,
 ⟨(some 21), (some (18, false)), 0, true, .load none (T 20)⟩,
 ⟨(some 22), (some (18, false)), 0, true, .bin .lss (T 21) (C (.int .i64 0))⟩,
 D 23 (.pick (T 18) (C (.bool true)) (T 22)),
 D 24 (.mv (T 23)),
 ⟨(some 25), (some (24, false)), 0, true, .faddr 3 (T 1)⟩,
 ⟨(some 26), (some (24, false)), 0, true, .load none (T 25)⟩,
 ⟨(some 27), (some (24, false)), 0, true, .bin .lss (T 26) (C (.int .i64 0))⟩,
 D 28 (.pick (T 24) (C (.bool true)) (T 27)),
 D 29 (.mv (T 28)),
 ⟨(some 30), (some (29, false)), 0, true, .faddr 3 (T 1)⟩,
 ⟨(some 31), (some (29, false)), 0, true, .load none (T 30)⟩,
 ⟨(some 32), (some (29, false)), 0, true, .bin .gtr (T 31) (C (.int .i64 65536))⟩,
 D 33 (.pick (T 29) (C (.bool true)) (T 32))])
 (.cond (T 33)
 (.seq (.region [
 D 2 (.mv (C (.bool false)))])
 .ret)
 .skip))
 (.seq (.region [
 D 34 (.bslice true 1 3 [(.int .u8 0), (.int .u8 0), (.int .u8 0)] [(0, 1, (C (.int .u8 87))), (1, 1, (C (.int .u8 80))), (2, 1, (C (.int .u8 1)))]),
 D 3 (.mv (T 34))])
 (.seq (.seq (.region [
 D 35 (.faddr 0 (T 1)),
 D 36 (.load none (T 35)),
 D 37 (.bin .lss (T 36) (C (.int .i64 3)))])
 (.cond (T 37)
 (.region [
 D 38 (.mv (T 3)),
 D 39 (.faddr 0 (T 1)),
 D 40 (.load none (T 39)),
 D 41 (.slice 1 (T 38) none (some (T 40)) none),
 D 3 (.mv (T 41))])
 .skip))
 (.seq (.seq (.region [
 D 42 (.faddr 0 (T 1)),
 D 43 (.load none (T 42)),
 D 44 (.bin .eql (T 43) (C (.int .i64 3)))])
 (.cond (T 44)
 (.region [
 D 45 (.mv (T 3)),
 D 46 (.faddr 1 (T 1)),
 D 47 (.load (some 2) (T 46)),
 D 48 (.call 33 [(T 47)]),
 D 49 (.append true 1 (T 45) (T 48)),
 D 3 (.mv (T 49))])
 .skip))
 (.seq (.seq (.region [
 D 50 (.faddr 0 (T 1)),
 D 51 (.load none (T 50)),
 D 52 (.bin .eql (T 51) (C (.int .i64 4)))])
 (.cond (T 52)
 (.seq (.region [
 D 54 (.faddr 3 (T 1)),
 D 55 (.load none (T 54)),
 D 56 (.call 27 [(T 55)]),
 D 53 (.mv (T 56)),
 D 57 (.ext (T 53) 0),
 D 58 (.ext (T 53) 1),
 D 4 (.mv (T 57)),
 D 5 (.mv (T 58))])
 (.region [
 D 59 (.mv (T 3)),
 D 60 (.mv (T 4)),
 D 61 (.append true 1 (T 59) (T 60)),
 D 3 (.mv (T 61))]))
 .skip))
 (.seq (.region [
 D 6 (.alloc true [(.int .i64 0), (.int .i64 0), (.int .i64 0), (.int .i64 0)])])
 (.seq (.seq (.region [
 D 7 (.mv (C (.int .i64 0)))])
 (.block 0 (.loop [6, 3, 1, 7] lb15_0)))
 (.seq (.region [
 D 80 (.load (some 4) (T 6)),
 D 81 (.load (some 4) (T 1)),
 D 82 (.eqs false (.agg [.nu, .nu, .nu, .nu]) (T 80) (T 81)),
 D 2 (.mv (T 82))])
 .ret))))))))), [.tmp 2]⟩
theorem ac15_ok : compFn Try.prog Try.f15 = some ac15 := by kernel_rfl
/-- winepress/header.ValidMark -/
def ac16 : AFn := ⟨(.seq (.region [
 D 3 (.box true (T 1)),
 D 4 (.mv (C (.bool false)))])
 (.seq (.region [
 D 7 (.faddr 3 (T 3)),
 D 8 (.load (some 3) (T 7)),
 D 5 (.alloc true [(.int .i64 0), (.int .i64 0), (.int .u32 0)]),
 E (.store 3 (T 5) (T 8))])
 (.seq (.region [
 D 9 (.faddr 0 (T 5)),
 D 10 (.load none (T 9)),
 D 11 (.mv (T 0)),
 D 12 (.call 28 [(T 10), (C (.int .i64 1)), (T 11)]),
 D 13 (.mv (T 12)),
 ⟨(some 14), (some (13, true)), 0, true, .faddr 1 (T 5)⟩,
 ⟨(some 15), (some (13, true)), 0, true, .load none (T 14)⟩,
 ⟨(some 16), (some (13, true)), 0, true, .faddr 0 (T 5)⟩,
 ⟨(some 17), (some (13, true)), 0, true, .load none (T 16)⟩,
 ⟨(some 18), (some (13, true)), 0, true, .call 28 [(T 15), (C (.int .i64 1)), (T 17)]⟩,
 D 19 (.pick (T 13) (T 18) (C (.bool false))),
 D 6 (.mv (T 19))])
 (.seq (.seq (.region [
 D 20 (.mv (T 0)),
 D 21 (.call 28 [(T 20), (C (.int .i64 1)), (C (.int .i64 65536))]),
 D 22 (.un .not (T 21))])
 (.cond (T 22)
 (.seq (.region [
 D 4 (.mv (C (.bool false)))])
 .ret)
 .skip))
 (.seq (.seq (.region [
 D 23 (.faddr 0 (T 3)),
 D 24 (.load none (T 23))])
 (.block 0 (.seq (.region [
 D 26 (.bin .eql (T 24) (C (.int .i64 0))),
 D 25 (.mv (T 26))])
 (.cond (T 25)
 (.seq (.region [
 D 27 (.load (some 7) (T 3)),
 D 28 (.build (List.replicate 5 (.int .i64 0) ++ [(.int .u32 0), (.int .i64 0)]) []),
 D 29 (.eqs false (.agg (List.replicate 7 .nu)) (T 27) (T 28)),
 D 4 (.mv (T 29))])
 .ret)
 (.seq (.region [
 D 31 (.bin .eql (T 24) (C (.int .i64 1))),
 D 30 (.mv (T 31))])
 (.cond (T 30)
 (.seq (.region [
 D 32 (.faddr 1 (T 3)),
 D 33 (.load (some 2) (T 32)),
 D 34 (.mv (T 0)),
 D 35 (.call 32 [(T 33), (T 34)]),
 D 36 (.mv (T 35)),
 ⟨(some 37), (some (36, true)), 0, true, .load (some 7) (T 3)⟩,
 ⟨(some 38), (some (36, true)), 0, true, .faddr 1 (T 3)⟩,
 ⟨(some 39), (some (36, true)), 0, true, .load (some 2) (T 38)⟩,
 ⟨(some 40), (some (36, true)), 0, true, .build (List.replicate 5 (.int .i64 0) ++ [(.int .u32 0), (.int .i64 0)]) [(0, 1, (C (.int .i64 1))), (1, 2, (T 39))]⟩,
 ⟨(some 41), (some (36, true)), 0, true, .eqs false (.agg (List.replicate 7 .nu)) (T 37) (T 40)⟩,
 D 42 (.pick (T 36) (T 41) (C (.bool false))),
 D 4 (.mv (T 42))])
 .ret)
 (.seq (.region [
 D 44 (.bin .eql (T 24) (C (.int .i64 2))),
 D 43 (.mv (T 44))])
 (.cond (T 43)
 (.seq (.region [
 D 45 (.faddr 0 (T 5)),
 D 46 (.load none (T 45)),
 D 47 (.mv (T 0)),
 D 48 (.call 28 [(T 46), (C (.int .i64 1)), (T 47)]),
 D 49 (.mv (T 48)),
 ⟨(some 50), (some (49, true)), 0, true, .faddr 1 (T 3)⟩,
 ⟨(some 51), (some (49, true)), 0, true, .load (some 2) (T 50)⟩,
 ⟨(some 52), (some (49, true)), 0, true, .faddr 0 (T 5)⟩,
 ⟨(some 53), (some (49, true)), 0, true, .load none (T 52)⟩,
 ⟨(some 54), (some (49, true)), 0, true, .call 32 [(T 51), (T 53)]⟩,
 D 55 (.pick (T 49) (T 54) (C (.bool false))),
 D 56 (.mv (T 55)),
 ⟨(some 57), (some (56, true)), 0, true, .load (some 7) (T 3)⟩,
 ⟨(some 58), (some (56, true)), 0, true, .faddr 1 (T 3)⟩,
 ⟨(some 59), (some (56, true)), 0, true, .load (some 2) (T 58)⟩,
 ⟨(some 60), (some (56, true)), 0, true, .faddr 0 (T 5)⟩,
 ⟨(some 61), (some (56, true)), 0, true, .load none (T 60)⟩,
 ⟨(some 62), (some (56, true)), 0, true, .build [(.int .i64 0), (.int .i64 0), (.int .u32 0)] [(0, 1, (T 61))]⟩,
 ⟨(some 63), (some (56, true)), 0, true, .build (List.replicate 5 (.int .i64 0) ++ [(.int .u32 0), (.int .i64 0)]) [(0, 1, (C (.int .i64 2))), (1, 2, (T 59)), (3, 3, (T 62))]⟩,
 ⟨(some 64), (some (56, true)), 0, true, .eqs false (.agg (List.replicate 7 .nu)) (T 57) (T 63)⟩,
 D 65 (.pick (T 56) (T 64) (C (.bool false))),
 D 4 (.mv (T 65))])
 .ret)
 (.seq (.region [
 D 67 (.bin .eql (T 24) (C (.int .i64 3))),
 D 66 (.mv (T 67))])
 (.cond (T 66)
 (.seq (.region [
 D 68 (.mv (T 6)),
 D 69 (.mv (T 68)),
 ⟨(some 70), (some (69, true)), 0, true, .faddr 2 (T 5)⟩,
 ⟨(some 71), (some (69, true)), 0, true, .load none (T 70)⟩,
 ⟨(some 72), (some (69, true)), 0, true, .faddr 6 (T 3)⟩,
 ⟨(some 73), (some (69, true)), 0, true, .load none (T 72)⟩,
 ⟨(some 74), (some (69, true)), 0, true, .call 35 [(T 71), (T 73)]⟩,
 D 75 (.pick (T 69) (T 74) (C (.bool false))),
 D 76 (.mv (T 75)),
 ⟨(some 77), (some (76, true)), 0, true, .faddr 1 (T 3)⟩,
 ⟨(some 78), (some (76, true)), 0, true, .load (some 2) (T 77)⟩,
 ⟨(some 79), (some (76, true)), 0, true, .build [(.int .i64 0), (.int .i64 0)] []⟩,
 ⟨(some 80), (some (76, true)), 0, true, .eqs false (.agg [.nu, .nu]) (T 78) (T 79)⟩,
 D 81 (.pick (T 76) (T 80) (C (.bool false))),
 D 4 (.mv (T 81))])
 .ret)
 (.seq (.region [
 D 83 (.bin .eql (T 24) (C (.int .i64 4))),
 D 82 (.mv (T 83))])
 (.cond (T 82)
 (.seq (.region [
 D 84 (.mv (T 6)),
 D 85 (.mv (T 84)),
 ⟨(some 86), (some (85, true)), 0, true, .load (some 7) (T 3)⟩,
 ⟨(some 87), (some (85, true)), 0, true, .load (some 3) (T 5)⟩,
 ⟨(some 88), (some (85, true)), 0, true, .build (List.replicate 5 (.int .i64 0) ++ [(.int .u32 0), (.int .i64 0)]) [(0, 1, (C (.int .i64 4))), (3, 3, (T 87)), (6, 1, (C (.int .i64 4)))]⟩,
 ⟨(some 89), (some (85, true)), 0, true, .eqs false (.agg (List.replicate 7 .nu)) (T 86) (T 88)⟩,
 D 90 (.pick (T 85) (T 89) (C (.bool false))),
 D 4 (.mv (T 90))])
 .ret)
 (.seq (.region [
 D 92 (.bin .eql (T 24) (C (.int .i64 5))),
 D 91 (.mv (T 92))])
 (.cond (T 91)
 (.seq (.region [
 D 93 (.faddr 2 (T 5)),
 D 94 (.load none (T 93)),
 D 95 (.faddr 6 (T 3)),
 D 96 (.load none (T 95)),
 D 97 (.call 35 [(T 94), (T 96)]),
 D 98 (.mv (T 97)),
 ⟨(some 99), (some (98, true)), 0, true, .load (some 7) (T 3)⟩,
 ⟨(some 100), (some (98, true)), 0, true, .faddr 2 (T 5)⟩,
 ⟨(some 101), (some (98, true)), 0, true, .load none (T 100)⟩,
 ⟨(some 102), (some (98, true)), 0, true, .build [(.int .i64 0), (.int .i64 0), (.int .u32 0)] [(2, 1, (T 101))]⟩,
 ⟨(some 103), (some (98, true)), 0, true, .faddr 6 (T 3)⟩,
 ⟨(some 104), (some (98, true)), 0, true, .load none (T 103)⟩,
 ⟨(some 105), (some (98, true)), 0, true, .build (List.replicate 5 (.int .i64 0) ++ [(.int .u32 0), (.int .i64 0)]) [(0, 1, (C (.int .i64 5))), (3, 3, (T 102)), (6, 1, (T 104))]⟩,
 ⟨(some 106), (some (98, true)), 0, true, .eqs false (.agg (List.replicate 7 .nu)) (T 99) (T 105)⟩,
 D 107 (.pick (T 98) (T 106) (C (.bool false))),
 D 4 (.mv (T 107))])
 .ret)
 (.seq (.region [
 D 109 (.bin .eql (T 24) (C (.int .i64 6))),
 D 108 (.mv (T 109))])
 (.cond (T 108)
 (.seq (.region [
 D 110 (.load (some 7) (T 3)),
 D 111 (.faddr 2 (T 5)),
 D 112 (.load none (T 111)),
 D 113 (.build [(.int .i64 0), (.int .i64 0), (.int .u32 0)] [(2, 1, (T 112))]),
 D 114 (.build (List.replicate 5 (.int .i64 0) ++ [(.int .u32 0), (.int .i64 0)]) [(0, 1, (C (.int .i64 6))), (3, 3, (T 113)), (6, 1, (C (.int .i64 4)))]),
 D 115 (.eqs false (.agg (List.replicate 7 .nu)) (T 110) (T 114)),
 D 4 (.mv (T 115))])
 .ret)
 .skip))))))))))))))))
 (.seq (.region [
 D 4 (.mv (C (.bool false)))])
 .ret)))))), [.tmp 4]⟩
theorem ac16_ok : compFn Try.prog Try.f16 = some ac16 := by kernel_rfl
/-- a loop of winepress/winepressref24.ValidMark; it keeps [11, 3, 10, 5, 0] -/
def lb17_0 : ACode := (.seq (.seq (.region [
 D 156 (.mv (T 11)),
 D 157 (.mv (T 5)),
 D 158 (.len (T 157)),
 D 159 (.bin .lss (T 156) (T 158))])
 (.cond (T 159)
 .skip
 (.exit 0)))
 (.seq (.block 1 (.seq (.seq (.region [
 D 162 (.faddr 0 (T 10)),
 D 163 (.load none (T 162)),
 D 164 (.bin .eql (T 163) (C (.int .i64 4))),
 D 165 (.mv (T 164)),
 ⟨(some 166), (some (165, false)), 0, true, .faddr 0 (T 10)⟩,
 ⟨(some 167), (some (165, false)), 0, true, .load none (T 166)⟩,
 ⟨(some 168), (some (165, false)), 0, true, .bin .eql (T 167) (C (.int .i64 6))⟩,
 D 169 (.pick (T 165) (C (.bool true)) (T 168))])
 (.cond (T 169)
 (.seq (.region [
 D 4 (.mv (C (.bool false)))])
 .ret)
 .skip))
 (.seq (.drawn [
 ⟨(some 171), none, 0, false, .mv (T 0)⟩,
 ⟨(some 172), none, 0, false, .load (some 7) (T 10)⟩,
 ⟨(some 173), none, 0, false, .mv (T 5)⟩,
 ⟨(some 174), none, 0, false, .mv (T 11)⟩,
 ⟨(some 175), none, 12, false, .iaddr 1 (T 173) (T 174)⟩,
 ⟨(some 176), none, 28, false, .load none (T 175)⟩,
 ⟨(some 177), none, 63, true, .call 37 [(T 171), (T 172), (T 176)]⟩,
 ⟨(some 170), none, 127, false, .mv (T 177)⟩,
 ⟨(some 178), none, 255, false, .ext (T 170) 0⟩,
 ⟨(some 179), none, 255, false, .ext (T 170) 1⟩,
 ⟨(some 12), none, 0, false, .alloc true (List.replicate 5 (.int .i64 0) ++ [(.int .u32 0), (.int .i64 0)])⟩,
 ⟨none, none, 1535, true, .store 7 (T 12) (T 178)⟩,
 ⟨(some 13), none, 4095, false, .mv (T 179)⟩])
 (.seq (.seq (.region [
 D 180 (.mv (T 13)),
 D 181 (.un .not (T 180))])
 (.cond (T 181)
 (.seq (.region [
 D 4 (.mv (C (.bool false)))])
 .ret)
 .skip))
 (.region [
 D 182 (.load (some 7) (T 12)),
 E (.store 7 (T 10) (T 182))])))))
 (.region [
 D 160 (.mv (T 11)),
 D 161 (.bin .add (T 160) (C (.int .i64 1))),
 D 11 (.mv (T 161))])))
/-- winepress/winepressref24.ValidMark -/
def ac17 : AFn := ⟨(.seq (.region [
 D 3 (.box true (T 1)),
 D 4 (.mv (C (.bool false)))])
 (.seq (.seq (.region [
 D 14 (.mv (T 0)),
 D 15 (.bin .lss (T 14) (C (.int .i64 1))),
 D 16 (.mv (T 15)),
 ⟨(some 17), (some (16, false)), 0, true, .mv (T 0)⟩,
 ⟨(some 18), (some (16, false)), 0, true, .bin .gtr (T 17) (C (.int .i64 65536))⟩,
 D 19 (.pick (T 16) (C (.bool true)) (T 18)),
 D 20 (.mv (T 19)),
 ⟨(some 21), (some (20, false)), 0, true, .faddr 0 (T 3)⟩,
 ⟨(some 22), (some (20, false)), 0, true, .load none (T 21)⟩,
 ⟨(some 23), (some (20, false)), 0, true, .bin .lss (T 22) (C (.int .i64 0))⟩,
 D 24 (.pick (T 20) (C (.bool true)) (T 23)),
 D 25 (.mv (T 24)),
 ⟨(some 26), (some (25, false)), 0, true, .faddr 0 (T 3)⟩,
 ⟨(some 27), (some (25, false)), 0, true, .load none (T 26)⟩,
 ⟨(some 28), (some (25, false)), 0, true, .bin .gtr (T 27) (C (.int .i64 6))⟩,
 D 29 (.pick (T 25) (C (.bool true)) (T 28)),
 D 30 (.mv (T 29)),
 ⟨(some 31), (some (30, false)), 0, true, .faddr 6 (T 3)⟩,
 ⟨(some 32), (some (30, false)), 0, true, .load none (T 31)⟩,
 ⟨(some 33), (some (30, false)), 0, true, .bin .lss (T 32) (C (.int .i64 0))⟩,
 D 34 (.pick (T 30) (C (.bool true)) (T 33)),
 D 35 (.mv (T 34)),
 ⟨(some 36), (some (35, false)), 0, true, .faddr 6 (T 3)⟩,
 ⟨(some 37), (some (35, false)), 0, true, .load none (T 36)⟩,
 ⟨(some 38), (some (35, false)), 0, true, .bin .gtr (T 37) (C (.int .i64 4))⟩,
 D 39 (.pick (T 35) (C (.bool true)) (T 38)),
 D 40 (.mv (T 39)),
 ⟨(some 41), (some (40, false)), 0, true, .faddr 3 (T 3)⟩,
 ⟨(some 42), (some (40, false)), 0, true, .faddr 0 (T 41)⟩,
 ⟨(some 43), (some (40, false)), 0, true, .load none (T 42)⟩,
 ⟨(some 44), (some (40, false)), 0, true, .bin .lss (T 43) (C (.int .i64 0))⟩,
 D 45 (.pick (T 40) (C (.bool true)) (T 44)),
 D 46 (.mv (T 45)),
 ⟨(some 47), (some (46, false)), 0, true, .faddr 3 (T 3)⟩,
 ⟨(some 48), (some (46, false)), 0, true, .faddr 0 (T 47)⟩,
 ⟨(some 49), (some (46, false)), 0, true, .load none (T 48)⟩,
 ⟨(some 50), (some (46, false)), 0, true, .mv (T 0)⟩,
 ⟨(some 51), (some (46, false)), 0, true, .bin .gtr (T 49) (T 50)⟩,
 D 52 (.pick (T 46) (C (.bool true)) (T 51)),
 D 53 (.mv (T 52)),
 ⟨(some 54), (some (53, false)), 0, true, .faddr 3 (T 3)⟩,
 ⟨(some 55), (some (53, false)), 0, true, .faddr 1 (T 54)⟩,
 ⟨(some 56), (some (53, false)), 0, true, .load none (T 55)⟩,
 ⟨(some 57), (some (53, false)), 0, true, .bin .lss (T 56) (C (.int .i64 0))⟩,
 D 58 (.pick (T 53) (C (.bool true)) (T 57)),
 D 59 (.mv (T 58)),
 ⟨(some 60), (some (59, false)), 0, true, .faddr 3 (T 3)⟩,
 ⟨(some 61), (some (59, false)), 0, true, .faddr 1 (T 60)⟩,
 ⟨(some 62), (some (59, false)), 0, true, .load none (T 61)⟩,
 ⟨(some 63), (some (59, false)), 0, true, .mv (T 0)⟩,
 ⟨(some 64), (some (59, false)), 0, true, .bin .gtr (T 62) (T 63)⟩,
 D 65 (.pick (T 59) (C (.bool true)) (T 64)),
 D 66 (.mv (T 65)),
 ⟨(some 67), (some (66, false)), 0, true, .faddr 1 (T 3)⟩,
 ⟨(some 68), (some (66, false)), 0, true, .faddr 0 (T 67)⟩,
 ⟨(some 69), (some (66, false)), 0, true, .load none (T 68)⟩,
 ⟨(some 70), (some (66, false)), 0, true, .bin .lss (T 69) (C (.int .i64 0))⟩,
 D 71 (.pick (T 66) (C (.bool true)) (T 70))])
 (.cond (T 71)
 (.seq (.region [
 D 4 (.mv (C (.bool false)))])
 .ret)
 .skip))
 (.seq (.region [
 D 5 (.mv (C (.slice none 0 0)))])
 (.seq (.seq (.region [
 D 72 (.faddr 0 (T 3)),
 D 73 (.load none (T 72)),
 D 74 (.bin .eql (T 73) (C (.int .i64 5))),
 D 75 (.mv (T 74)),
 ⟨(some 76), (some (75, false)), 0, true, .faddr 0 (T 3)⟩,
 ⟨(some 77), (some (75, false)), 0, true, .load none (T 76)⟩,
 ⟨(some 78), (some (75, false)), 0, true, .bin .eql (T 77) (C (.int .i64 6))⟩,
 D 79 (.pick (T 75) (C (.bool true)) (T 78))])
 (.cond (T 79)
 (.region [
 D 80 (.bslice true 1 1 [(.int .u8 0)] [(0, 1, (C (.int .u8 0)))]),
 D 81 (.faddr 3 (T 3)),
 D 82 (.faddr 2 (T 81)),
 D 83 (.load none (T 82)),
 D 84 (.faddr 6 (T 3)),
 D 85 (.load none (T 84)),
 D 86 (.call 36 [(T 83), (T 85)]),
 D 87 (.append true 1 (T 80) (T 86)),
 D 5 (.mv (T 87))])
 .skip))
 (.seq (.seq (.region [
 D 88 (.faddr 0 (T 3)),
 D 89 (.load none (T 88)),
 D 90 (.bin .geq (T 89) (C (.int .i64 1))),
 D 91 (.mv (T 90)),
 ⟨(some 92), (some (91, true)), 0, true, .faddr 0 (T 3)⟩,
 ⟨(some 93), (some (91, true)), 0, true, .load none (T 92)⟩,
 ⟨(some 94), (some (91, true)), 0, true, .bin .leq (T 93) (C (.int .i64 4))⟩,
 D 95 (.pick (T 91) (T 94) (C (.bool false)))])
 (.cond (T 95)
 (.region [
 D 96 (.mv (T 5)),
 D 97 (.bslice true 1 1 [(.int .u8 0)] [(0, 1, (C (.int .u8 1)))]),
 D 98 (.append true 1 (T 96) (T 97)),
 D 5 (.mv (T 98))])
 .skip))
 (.seq (.seq (.region [
 D 99 (.faddr 0 (T 3)),
 D 100 (.load none (T 99)),
 D 101 (.bin .geq (T 100) (C (.int .i64 2))),
 D 102 (.mv (T 101)),
 ⟨(some 103), (some (102, true)), 0, true, .faddr 0 (T 3)⟩,
 ⟨(some 104), (some (102, true)), 0, true, .load none (T 103)⟩,
 ⟨(some 105), (some (102, true)), 0, true, .bin .leq (T 104) (C (.int .i64 4))⟩,
 D 106 (.pick (T 102) (T 105) (C (.bool false)))])
 (.cond (T 106)
 (.seq (.region [
 D 108 (.faddr 3 (T 3)),
 D 109 (.faddr 0 (T 108)),
 D 110 (.load none (T 109)),
 D 111 (.call 27 [(T 110)]),
 D 107 (.mv (T 111)),
 D 112 (.ext (T 107) 0),
 D 113 (.ext (T 107) 1),
 D 6 (.mv (T 112)),
 D 7 (.mv (T 113))])
 (.region [
 D 114 (.mv (T 5)),
 D 115 (.mv (T 6)),
 D 116 (.append true 1 (T 114) (T 115)),
 D 5 (.mv (T 116))]))
 .skip))
 (.seq (.seq (.region [
 D 117 (.faddr 0 (T 3)),
 D 118 (.load none (T 117)),
 D 119 (.bin .geq (T 118) (C (.int .i64 3))),
 D 120 (.mv (T 119)),
 ⟨(some 121), (some (120, true)), 0, true, .faddr 0 (T 3)⟩,
 ⟨(some 122), (some (120, true)), 0, true, .load none (T 121)⟩,
 ⟨(some 123), (some (120, true)), 0, true, .bin .leq (T 122) (C (.int .i64 4))⟩,
 D 124 (.pick (T 120) (T 123) (C (.bool false)))])
 (.cond (T 124)
 (.seq (.region [
 D 126 (.faddr 3 (T 3)),
 D 127 (.faddr 1 (T 126)),
 D 128 (.load none (T 127)),
 D 129 (.call 27 [(T 128)]),
 D 125 (.mv (T 129)),
 D 130 (.ext (T 125) 0),
 D 131 (.ext (T 125) 1),
 D 8 (.mv (T 130)),
 D 9 (.mv (T 131))])
 (.seq (.region [
 D 132 (.mv (T 5)),
 D 133 (.mv (T 8)),
 D 134 (.append true 1 (T 132) (T 133)),
 D 5 (.mv (T 134))])
 (.region [
 D 135 (.mv (T 5)),
 D 136 (.faddr 3 (T 3)),
 D 137 (.faddr 2 (T 136)),
 D 138 (.load none (T 137)),
 D 139 (.faddr 6 (T 3)),
 D 140 (.load none (T 139)),
 D 141 (.call 36 [(T 138), (T 140)]),
 D 142 (.append true 1 (T 135) (T 141)),
 D 5 (.mv (T 142))])))
 .skip))
 (.seq (.seq (.region [
 D 143 (.faddr 0 (T 3)),
 D 144 (.load none (T 143)),
 D 145 (.bin .eql (T 144) (C (.int .i64 1))),
 D 146 (.mv (T 145)),
 ⟨(some 147), (some (146, false)), 0, true, .faddr 0 (T 3)⟩,
 ⟨(some 148), (some (146, false)), 0, true, .load none (T 147)⟩,
 ⟨(some 149), (some (146, false)), 0, true, .bin .eql (T 148) (C (.int .i64 2))⟩,
 D 150 (.pick (T 146) (C (.bool true)) (T 149))])
 (.cond (T 150)
 (.region [
 D 151 (.mv (T 5)),
 D 152 (.faddr 1 (T 3)),
 D 153 (.load (some 2) (T 152)),
 D 154 (.call 33 [(T 153)]),
 D 155 (.append true 1 (T 151) (T 154)),
 D 5 (.mv (T 155))])
 .skip))
 (.seq (.region [
 D 10 (.alloc true (List.replicate 5 (.int .i64 0) ++ [(.int .u32 0), (.int .i64 0)]))])
 (.seq (.seq (.region [
 D 11 (.mv (C (.int .i64 0)))])
 (.block 0 (.loop [11, 3, 10, 5, 0] lb17_0)))
 (.seq (.region [
 D 183 (.load (some 7) (T 10)),
 D 184 (.load (some 7) (T 3)),
 D 185 (.eqs false (.agg (List.replicate 7 .nu)) (T 183) (T 184)),
 D 4 (.mv (T 185))])
 .ret))))))))))), [.tmp 4]⟩
theorem ac17_ok : compFn Try.prog Try.f17 = some ac17 := by kernel_rfl
/-- winepress/header.Step -/
def ac18 : AFn := ⟨(.seq (.region [
 D 2 (.box true (T 0)),
 D 4 (.alloc true [(.int .i64 0), (.int .i64 0), (.int .i64 0), (.int .i64 0)]),
 D 5 (.mv (C (.bool false))),
 D 6 (.mv (C (.int .i64 0)))])
 (.seq (.block 0 (.seq (.region [
 D 10 (.load (some 4) (T 2)),
 D 11 (.call 14 [(T 10)]),
 D 12 (.un .not (T 11)),
 D 13 (.mv (T 12)),
 ⟨(some 14), (some (13, false)), 0, true, .faddr 0 (T 2)⟩,
 ⟨(some 15), (some (13, false)), 0, true, .load none (T 14)⟩,
 ⟨(some 16), (some (13, false)), 0, true, .bin .eql (T 15) (C (.int .i64 4))⟩,
 D 17 (.pick (T 13) (C (.bool true)) (T 16)),
 D 9 (.mv (T 17))])
 (.cond (T 9)
 (.seq (.region [
 D 18 (.load (some 4) (T 4)),
 E (.store 4 (T 4) (T 18)),
 D 5 (.mv (C (.bool false))),
 D 6 (.mv (C (.int .i64 2)))])
 .ret)
 (.seq (.region [
 D 20 (.faddr 0 (T 2)),
 D 21 (.load none (T 20)),
 D 22 (.bin .lss (T 21) (C (.int .i64 3))),
 D 23 (.mv (T 22)),
 ⟨(some 24), (some (23, true)), 0, true, .mv (T 1)⟩,
 ⟨(some 25), (some (23, true)), 0, true, .faddr 0 (T 2)⟩,
 ⟨(some 26), (some (23, true)), 0, true, .load none (T 25)⟩,
 ⟨(some 27), (some (23, true)), 0, true, .idxs (C (.string ⟨#[87, 80, 1]⟩)) (T 26)⟩,
 ⟨(some 28), (some (23, true)), 0, true, .bin .eql (T 24) (T 27)⟩,
 D 29 (.pick (T 23) (T 28) (C (.bool false))),
 D 19 (.mv (T 29))])
 (.cond (T 19)
 (.seq (.region [
 D 30 (.faddr 0 (T 2)),
 D 31 (.load none (T 30)),
 D 32 (.bin .add (T 31) (C (.int .i64 1))),
 D 33 (.build [(.int .i64 0), (.int .i64 0), (.int .i64 0), (.int .i64 0)] [(0, 1, (T 32))]),
 E (.store 4 (T 4) (T 33)),
 D 5 (.mv (C (.bool false))),
 D 6 (.mv (C (.int .i64 0)))])
 .ret)
 (.seq (.region [
 D 35 (.faddr 0 (T 2)),
 D 36 (.load none (T 35)),
 D 37 (.bin .lss (T 36) (C (.int .i64 2))),
 D 34 (.mv (T 37))])
 (.cond (T 34)
 (.seq (.region [
 D 38 (.load (some 4) (T 4)),
 E (.store 4 (T 4) (T 38)),
 D 5 (.mv (C (.bool false))),
 D 6 (.mv (C (.int .i64 240)))])
 .ret)
 (.seq (.region [
 D 40 (.faddr 0 (T 2)),
 D 41 (.load none (T 40)),
 D 42 (.bin .lss (T 41) (C (.int .i64 3))),
 D 39 (.mv (T 42))])
 (.cond (T 39)
 (.seq (.region [
 D 43 (.load (some 4) (T 4)),
 E (.store 4 (T 4) (T 43)),
 D 5 (.mv (C (.bool false))),
 D 6 (.mv (C (.int .i64 241)))])
 .ret)
 .skip)))))))))
 (.seq (.region [
 D 45 (.faddr 1 (T 2)),
 D 46 (.load (some 2) (T 45)),
 D 47 (.mv (T 1)),
 D 48 (.call 38 [(T 46), (T 47), (C (.int .i64 65536))]),
 D 44 (.mv (T 48)),
 D 49 (.ext (T 44) 0),
 D 50 (.ext (T 44) 1),
 D 51 (.ext (T 44) 2),
 D 7 (.alloc true [(.int .i64 0), (.int .i64 0)]),
 E (.store 2 (T 7) (T 49)),
 D 5 (.mv (T 50)),
 D 8 (.mv (T 51))])
 (.seq (.seq (.region [
 D 52 (.mv (T 8)),
 D 53 (.un .not (T 52))])
 (.cond (T 53)
 (.seq (.region [
 D 54 (.load (some 4) (T 4)),
 E (.store 4 (T 4) (T 54)),
 D 5 (.mv (C (.bool false))),
 D 6 (.mv (C (.int .i64 242)))])
 .ret)
 .skip))
 (.seq (.seq (.region [
 D 55 (.mv (T 5))])
 (.cond (T 55)
 (.seq (.region [
 D 56 (.faddr 0 (T 7)),
 D 57 (.load none (T 56)),
 D 58 (.build [(.int .i64 0), (.int .i64 0), (.int .i64 0), (.int .i64 0)] [(0, 1, (C (.int .i64 4))), (3, 1, (T 57))]),
 E (.store 4 (T 4) (T 58)),
 D 5 (.mv (C (.bool true))),
 D 6 (.mv (C (.int .i64 0)))])
 .ret)
 .skip))
 (.seq (.region [
 D 59 (.load (some 2) (T 7)),
 D 60 (.build [(.int .i64 0), (.int .i64 0), (.int .i64 0), (.int .i64 0)] [(0, 1, (C (.int .i64 3))), (1, 2, (T 59))]),
 E (.store 4 (T 4) (T 60)),
 D 5 (.mv (C (.bool false))),
 D 6 (.mv (C (.int .i64 0)))])
 .ret)))))), [.cell 4 (some 4), .tmp 5, .tmp 6]⟩
theorem ac18_ok : compFn Try.prog Try.f18 = some ac18 := by kernel_rfl
/-- winepress/winepressref24.Step -/
def ac19 : AFn := ⟨(.seq (.region [
 D 2 (.box true (T 0)),
 D 4 (.alloc true [(.int .i64 0), (.int .i64 0), (.int .i64 0), (.int .i64 0)]),
 D 5 (.mv (C (.bool false))),
 D 6 (.mv (C (.int .i64 0)))])
 (.seq (.seq (.region [
 D 9 (.load (some 4) (T 2)),
 D 10 (.call 15 [(T 9)]),
 D 11 (.un .not (T 10)),
 D 12 (.mv (T 11)),
 ⟨(some 13), (some (12, false)), 0, true, .faddr 0 (T 2)⟩,
 ⟨(some 14), (some (12, false)), 0, true, .load none (T 13)⟩,
 ⟨(some 15), (some (12, false)), 0, true, .bin .eql (T 14) (C (.int .i64 4))⟩,
 D 16 (.pick (T 12) (C (.bool true)) (T 15))])
 (.cond (T 16)
 (.seq (.region [
 D 17 (.build [(.int .i64 0), (.int .i64 0), (.int .i64 0), (.int .i64 0)] []),
 E (.store 4 (T 4) (T 17)),
 D 5 (.mv (C (.bool false))),
 D 6 (.mv (C (.int .i64 2)))])
 .ret)
 .skip))
 (.seq (.region [
 D 19 (.load (some 4) (T 2)),
 D 20 (.mv (T 1)),
 D 21 (.call 34 [(T 19), (T 20)]),
 D 18 (.mv (T 21)),
 D 22 (.ext (T 18) 0),
 D 23 (.ext (T 18) 1),
 D 7 (.alloc true [(.int .i64 0), (.int .i64 0), (.int .i64 0), (.int .i64 0)]),
 E (.store 4 (T 7) (T 22)),
 D 8 (.mv (T 23))])
 (.seq (.seq (.region [
 D 24 (.mv (T 8)),
 D 25 (.bin .neq (T 24) (C (.int .i64 0)))])
 (.cond (T 25)
 (.seq (.region [
 D 26 (.build [(.int .i64 0), (.int .i64 0), (.int .i64 0), (.int .i64 0)] []),
 D 27 (.mv (T 8)),
 E (.store 4 (T 4) (T 26)),
 D 5 (.mv (C (.bool false))),
 D 6 (.mv (T 27))])
 .ret)
 .skip))
 (.seq (.moves [] false [
 ⟨(some 28), none, 0, false, .load (some 4) (T 7)⟩,
 ⟨(some 29), none, 0, false, .faddr 0 (T 7)⟩,
 ⟨(some 30), none, 0, false, .load none (T 29)⟩,
 ⟨(some 31), none, 0, false, .bin .eql (T 30) (C (.int .i64 4))⟩,
 ⟨none, none, 0, false, .store 4 (T 4) (T 28)⟩,
 ⟨(some 5), none, 0, false, .mv (T 31)⟩,
 ⟨(some 6), none, 0, false, .mv (C (.int .i64 0))⟩])
 .ret))))), [.cell 4 (some 4), .tmp 5, .tmp 6]⟩
theorem ac19_ok : compFn Try.prog Try.f19 = some ac19 := by kernel_rfl
/-- winepress/winepressref24.StepMark -/
def ac21 : AFn := ⟨(.seq (.region [
 D 4 (.box true (T 1)),
 D 6 (.alloc true (List.replicate 5 (.int .i64 0) ++ [(.int .u32 0), (.int .i64 0)])),
 D 7 (.mv (C (.bool false))),
 D 8 (.mv (C (.int .i64 0)))])
 (.seq (.seq (.region [
 D 11 (.mv (T 0)),
 D 12 (.load (some 7) (T 4)),
 D 13 (.call 17 [(T 11), (T 12)]),
 D 14 (.un .not (T 13)),
 D 15 (.mv (T 14)),
 ⟨(some 16), (some (15, false)), 0, true, .faddr 0 (T 4)⟩,
 ⟨(some 17), (some (15, false)), 0, true, .load none (T 16)⟩,
 ⟨(some 18), (some (15, false)), 0, true, .bin .eql (T 17) (C (.int .i64 4))⟩,
 D 19 (.pick (T 15) (C (.bool true)) (T 18)),
 D 20 (.mv (T 19)),
 ⟨(some 21), (some (20, false)), 0, true, .faddr 0 (T 4)⟩,
 ⟨(some 22), (some (20, false)), 0, true, .load none (T 21)⟩,
 ⟨(some 23), (some (20, false)), 0, true, .bin .eql (T 22) (C (.int .i64 6))⟩,
 D 24 (.pick (T 20) (C (.bool true)) (T 23))])
 (.cond (T 24)
 (.seq (.region [
 D 25 (.build (List.replicate 5 (.int .i64 0) ++ [(.int .u32 0), (.int .i64 0)]) []),
 E (.store 7 (T 6) (T 25)),
 D 7 (.mv (C (.bool false))),
 D 8 (.mv (C (.int .i64 2)))])
 .ret)
 .skip))
 (.seq (.region [
 D 27 (.mv (T 0)),
 D 28 (.load (some 7) (T 4)),
 D 29 (.mv (T 2)),
 D 30 (.call 37 [(T 27), (T 28), (T 29)]),
 D 26 (.mv (T 30)),
 D 31 (.ext (T 26) 0),
 D 32 (.ext (T 26) 1),
 D 9 (.alloc true (List.replicate 5 (.int .i64 0) ++ [(.int .u32 0), (.int .i64 0)])),
 E (.store 7 (T 9) (T 31)),
 D 10 (.mv (T 32))])
 (.seq (.seq (.region [
 D 33 (.mv (T 10)),
 D 34 (.un .not (T 33))])
 (.cond (T 34)
 (.seq (.region [
 D 35 (.build (List.replicate 5 (.int .i64 0) ++ [(.int .u32 0), (.int .i64 0)]) []),
 E (.store 7 (T 6) (T 35)),
 D 7 (.mv (C (.bool false))),
 D 8 (.mv (C (.int .i64 242)))])
 .ret)
 .skip))
 (.seq (.moves [] false [
 ⟨(some 36), none, 0, false, .load (some 7) (T 9)⟩,
 ⟨(some 37), none, 0, false, .faddr 0 (T 9)⟩,
 ⟨(some 38), none, 0, false, .load none (T 37)⟩,
 ⟨(some 39), none, 0, false, .bin .eql (T 38) (C (.int .i64 4))⟩,
 ⟨(some 40), none, 0, false, .mv (T 39)⟩,
 ⟨(some 41), (some (40, false)), 0, false, .faddr 0 (T 9)⟩,
 ⟨(some 42), (some (40, false)), 0, false, .load none (T 41)⟩,
 ⟨(some 43), (some (40, false)), 0, false, .bin .eql (T 42) (C (.int .i64 6))⟩,
 ⟨(some 44), none, 0, false, .pick (T 40) (C (.bool true)) (T 43)⟩,
 ⟨none, none, 0, false, .store 7 (T 6) (T 36)⟩,
 ⟨(some 7), none, 0, false, .mv (T 44)⟩,
 ⟨(some 8), none, 0, false, .mv (C (.int .i64 0))⟩])
 .ret))))), [.cell 6 (some 7), .tmp 7, .tmp 8]⟩
theorem ac21_ok : compFn Try.prog Try.f21 = some ac21 := by kernel_rfl
/-- a loop of winepress/header.Take; it keeps [0, 13, 12, 11, 5, 2] -/
def lb22_0 : ACode := (.seq (.region [
 D 14 (.bin .lss (T 13) (T 12))])
 (.seq (.cond (T 14)
 .skip
 (.exit 0))
 (.seq (.block 1 (.seq (.region [
 D 15 (.mv (T 13)),
 D 16 (.iaddr 1 (T 11) (T 13)),
 D 17 (.load none (T 16)),
 D 6 (.mv (T 15)),
 D 7 (.mv (T 17))])
 (.seq (.region [
 D 19 (.load (some 4) (T 5)),
 D 20 (.mv (T 7)),
 D 21 (.call 18 [(T 19), (T 20)]),
 D 18 (.mv (T 21)),
 D 22 (.ext (T 18) 0),
 D 23 (.ext (T 18) 1),
 D 24 (.ext (T 18) 2),
 D 8 (.alloc true [(.int .i64 0), (.int .i64 0), (.int .i64 0), (.int .i64 0)]),
 E (.store 4 (T 8) (T 22)),
 D 9 (.mv (T 23)),
 D 10 (.mv (T 24))])
 (.seq (.seq (.region [
 D 25 (.mv (T 10)),
 D 26 (.bin .neq (T 25) (C (.int .i64 0)))])
 (.cond (T 26)
 (.seq (.region [
 D 27 (.load (some 1) (T 2)),
 D 28 (.mv (T 10)),
 E (.store 1 (T 2) (T 27)),
 D 3 (.mv (C (.slice none 0 0))),
 D 4 (.mv (T 28))])
 .ret)
 .skip))
 (.seq (.seq (.region [
 D 29 (.mv (T 9))])
 (.cond (T 29)
 (.seq (.drawn [
 ⟨(some 30), none, 0, false, .faddr 3 (T 8)⟩,
 ⟨(some 31), none, 1, false, .load none (T 30)⟩,
 ⟨(some 32), none, 3, false, .build [(.int .i64 0)] [(0, 1, (T 31))]⟩,
 ⟨(some 33), none, 0, false, .mv (T 0)⟩,
 ⟨(some 34), none, 0, false, .mv (T 6)⟩,
 ⟨(some 35), none, 16, false, .bin .add (T 34) (C (.int .i64 1))⟩,
 ⟨(some 36), none, 56, false, .slice 1 (T 33) (some (T 35)) none none⟩,
 ⟨(some 37), none, 120, false, .call 43 [(T 36)]⟩,
 ⟨none, none, 255, true, .store 1 (T 2) (T 32)⟩,
 ⟨(some 3), none, 511, false, .mv (T 37)⟩,
 ⟨(some 4), none, 1023, false, .mv (C (.int .i64 0))⟩])
 .ret)
 .skip))
 (.region [
 D 38 (.load (some 4) (T 8)),
 E (.store 4 (T 5) (T 38))]))))))
 (.region [
 D 39 (.bin .add (T 13) (C (.int .i64 1))),
 D 13 (.mv (T 39))]))))
/-- winepress/header.Take -/
def ac22 : AFn := ⟨(.seq (.region [
 D 2 (.alloc true [(.int .i64 0)]),
 D 3 (.mv (C (.slice none 0 0))),
 D 4 (.mv (C (.int .i64 0)))])
 (.seq (.region [
 D 5 (.alloc true [(.int .i64 0), (.int .i64 0), (.int .i64 0), (.int .i64 0)])])
 (.seq (.seq (.region [
 D 11 (.mv (T 0)),
 D 12 (.len (T 11)),
 D 13 (.mv (C (.int .i64 0)))])
 (.block 0 (.loop [0, 13, 12, 11, 5, 2] lb22_0)))
 (.seq (.region [
 D 40 (.load (some 1) (T 2)),
 E (.store 1 (T 2) (T 40)),
 D 3 (.mv (C (.slice none 0 0))),
 D 4 (.mv (C (.int .i64 50)))])
 .ret)))), [.cell 2 (some 1), .tmp 3, .tmp 4]⟩
theorem ac22_ok : compFn Try.prog Try.f22 = some ac22 := by kernel_rfl
/-- a loop of winepress/winepressref24.Take; it keeps [6, 0, 5, 2] -/
def lb23_0 : ACode := (.seq (.seq (.region [
 D 9 (.mv (T 6)),
 D 10 (.mv (T 0)),
 D 11 (.len (T 10)),
 D 12 (.bin .lss (T 9) (T 11))])
 (.cond (T 12)
 .skip
 (.exit 0)))
 (.seq (.block 1 (.seq (.drawn [
 ⟨(some 16), none, 0, false, .load (some 4) (T 5)⟩,
 ⟨(some 17), none, 0, false, .mv (T 0)⟩,
 ⟨(some 18), none, 0, false, .mv (T 6)⟩,
 ⟨(some 19), none, 6, false, .iaddr 1 (T 17) (T 18)⟩,
 ⟨(some 20), none, 14, false, .load none (T 19)⟩,
 ⟨(some 21), none, 31, true, .call 34 [(T 16), (T 20)]⟩,
 ⟨(some 15), none, 63, false, .mv (T 21)⟩,
 ⟨(some 22), none, 127, false, .ext (T 15) 0⟩,
 ⟨(some 23), none, 127, false, .ext (T 15) 1⟩,
 ⟨(some 7), none, 0, false, .alloc true [(.int .i64 0), (.int .i64 0), (.int .i64 0), (.int .i64 0)]⟩,
 ⟨none, none, 767, true, .store 4 (T 7) (T 22)⟩,
 ⟨(some 8), none, 2047, false, .mv (T 23)⟩])
 (.seq (.seq (.region [
 D 24 (.mv (T 8)),
 D 25 (.bin .neq (T 24) (C (.int .i64 0)))])
 (.cond (T 25)
 (.seq (.region [
 D 26 (.build [(.int .i64 0)] []),
 D 27 (.mv (T 8)),
 E (.store 1 (T 2) (T 26)),
 D 3 (.mv (C (.slice none 0 0))),
 D 4 (.mv (T 27))])
 .ret)
 .skip))
 (.seq (.region [
 D 28 (.load (some 4) (T 7)),
 E (.store 4 (T 5) (T 28))])
 (.seq (.region [
 D 29 (.faddr 0 (T 5)),
 D 30 (.load none (T 29)),
 D 31 (.bin .eql (T 30) (C (.int .i64 4)))])
 (.cond (T 31)
 (.seq (.drawn [
 ⟨(some 32), none, 0, false, .faddr 3 (T 5)⟩,
 ⟨(some 33), none, 1, false, .load none (T 32)⟩,
 ⟨(some 34), none, 3, false, .build [(.int .i64 0)] [(0, 1, (T 33))]⟩,
 ⟨(some 35), none, 0, false, .bslice true 1 0 [] []⟩,
 ⟨(some 36), none, 0, false, .mv (T 0)⟩,
 ⟨(some 37), none, 0, false, .mv (T 6)⟩,
 ⟨(some 38), none, 32, false, .bin .add (T 37) (C (.int .i64 1))⟩,
 ⟨(some 39), none, 112, false, .slice 1 (T 36) (some (T 38)) none none⟩,
 ⟨(some 40), none, 248, false, .append true 1 (T 35) (T 39)⟩,
 ⟨none, none, 511, true, .store 1 (T 2) (T 34)⟩,
 ⟨(some 3), none, 1023, false, .mv (T 40)⟩,
 ⟨(some 4), none, 2047, false, .mv (C (.int .i64 0))⟩])
 .ret)
 .skip))))))
 (.region [
 D 13 (.mv (T 6)),
 D 14 (.bin .add (T 13) (C (.int .i64 1))),
 D 6 (.mv (T 14))])))
/-- winepress/winepressref24.Take -/
def ac23 : AFn := ⟨(.seq (.region [
 D 2 (.alloc true [(.int .i64 0)]),
 D 3 (.mv (C (.slice none 0 0))),
 D 4 (.mv (C (.int .i64 0)))])
 (.seq (.region [
 D 5 (.alloc true [(.int .i64 0), (.int .i64 0), (.int .i64 0), (.int .i64 0)])])
 (.seq (.seq (.region [
 D 6 (.mv (C (.int .i64 0)))])
 (.block 0 (.loop [6, 0, 5, 2] lb23_0)))
 (.seq (.region [
 D 41 (.build [(.int .i64 0)] []),
 E (.store 1 (T 2) (T 41)),
 D 3 (.mv (C (.slice none 0 0))),
 D 4 (.mv (C (.int .i64 50)))])
 .ret)))), [.cell 2 (some 1), .tmp 3, .tmp 4]⟩
theorem ac23_ok : compFn Try.prog Try.f23 = some ac23 := by kernel_rfl
/-- a loop of winepress/header.TakeMark; it keeps [1, 18, 17, 16, 0, 4] -/
def lb24_0 : ACode := (.seq (.region [
 D 19 (.bin .lss (T 18) (T 17))])
 (.seq (.cond (T 19)
 .skip
 (.exit 0))
 (.seq (.block 1 (.seq (.region [
 D 20 (.mv (T 18)),
 D 21 (.iaddr 1 (T 16) (T 18)),
 D 22 (.load none (T 21)),
 D 7 (.mv (T 20)),
 D 8 (.mv (T 22))])
 (.seq (.region [
 D 24 (.mv (T 0)),
 D 25 (.load (some 7) (T 4)),
 D 26 (.mv (T 8)),
 D 27 (.call 20 [(T 24), (T 25), (T 26)]),
 D 23 (.mv (T 27)),
 D 28 (.ext (T 23) 0),
 D 29 (.ext (T 23) 1),
 D 30 (.ext (T 23) 2),
 D 9 (.alloc true (List.replicate 5 (.int .i64 0) ++ [(.int .u32 0), (.int .i64 0)])),
 E (.store 7 (T 9) (T 28)),
 D 10 (.mv (T 29)),
 D 11 (.mv (T 30))])
 (.seq (.seq (.region [
 D 31 (.mv (T 11)),
 D 32 (.bin .neq (T 31) (C (.int .i64 0)))])
 (.cond (T 32)
 (.seq (.region [
 D 33 (.build (List.replicate 5 (.int .i64 0) ++ [(.int .u32 0), (.int .i64 0)]) []),
 D 34 (.mv (T 11)),
 E (.store 7 (T 4) (T 33)),
 D 5 (.mv (C (.slice none 0 0))),
 D 6 (.mv (T 34))])
 .ret)
 .skip))
 (.seq (.region [
 D 35 (.load (some 7) (T 9)),
 E (.store 7 (T 4) (T 35))])
 (.seq (.region [
 D 36 (.mv (T 10))])
 (.cond (T 36)
 (.seq (.drawn [
 ⟨(some 37), none, 0, false, .load (some 7) (T 4)⟩,
 ⟨(some 38), none, 0, false, .mv (T 1)⟩,
 ⟨(some 39), none, 0, false, .mv (T 7)⟩,
 ⟨(some 40), none, 4, false, .bin .add (T 39) (C (.int .i64 1))⟩,
 ⟨(some 41), none, 14, false, .slice 1 (T 38) (some (T 40)) none none⟩,
 ⟨(some 42), none, 30, false, .call 43 [(T 41)]⟩,
 ⟨none, none, 63, true, .store 7 (T 4) (T 37)⟩,
 ⟨(some 5), none, 127, false, .mv (T 42)⟩,
 ⟨(some 6), none, 255, false, .mv (C (.int .i64 0))⟩])
 .ret)
 .skip)))))))
 (.region [
 D 43 (.bin .add (T 18) (C (.int .i64 1))),
 D 18 (.mv (T 43))]))))
/-- winepress/header.TakeMark -/
def ac24 : AFn := ⟨(.seq (.region [
 D 4 (.alloc true (List.replicate 5 (.int .i64 0) ++ [(.int .u32 0), (.int .i64 0)])),
 D 5 (.mv (C (.slice none 0 0))),
 D 6 (.mv (C (.int .i64 0)))])
 (.seq (.seq (.region [
 D 12 (.mv (T 0)),
 D 13 (.call 28 [(T 12), (C (.int .i64 1)), (C (.int .i64 65536))]),
 D 14 (.un .not (T 13))])
 (.cond (T 14)
 (.seq (.region [
 D 15 (.load (some 7) (T 4)),
 E (.store 7 (T 4) (T 15)),
 D 5 (.mv (C (.slice none 0 0))),
 D 6 (.mv (C (.int .i64 2)))])
 .ret)
 .skip))
 (.seq (.seq (.region [
 D 16 (.mv (T 1)),
 D 17 (.len (T 16)),
 D 18 (.mv (C (.int .i64 0)))])
 (.block 0 (.loop [1, 18, 17, 16, 0, 4] lb24_0)))
 (.seq (.region [
 D 44 (.build (List.replicate 5 (.int .i64 0) ++ [(.int .u32 0), (.int .i64 0)]) []),
 E (.store 7 (T 4) (T 44)),
 D 5 (.mv (C (.slice none 0 0))),
 D 6 (.mv (C (.int .i64 50)))])
 .ret)))), [.cell 4 (some 7), .tmp 5, .tmp 6]⟩
theorem ac24_ok : compFn Try.prog Try.f24 = some ac24 := by kernel_rfl
/-- a loop of winepress/winepressref24.TakeMark; it keeps [8, 1, 7, 0, 4] -/
def lb25_0 : ACode := (.seq (.seq (.region [
 D 18 (.mv (T 8)),
 D 19 (.mv (T 1)),
 D 20 (.len (T 19)),
 D 21 (.bin .lss (T 18) (T 20))])
 (.cond (T 21)
 .skip
 (.exit 0)))
 (.seq (.block 1 (.seq (.drawn [
 ⟨(some 25), none, 0, false, .mv (T 0)⟩,
 ⟨(some 26), none, 0, false, .load (some 7) (T 7)⟩,
 ⟨(some 27), none, 0, false, .mv (T 1)⟩,
 ⟨(some 28), none, 0, false, .mv (T 8)⟩,
 ⟨(some 29), none, 12, false, .iaddr 1 (T 27) (T 28)⟩,
 ⟨(some 30), none, 28, false, .load none (T 29)⟩,
 ⟨(some 31), none, 63, true, .call 37 [(T 25), (T 26), (T 30)]⟩,
 ⟨(some 24), none, 127, false, .mv (T 31)⟩,
 ⟨(some 32), none, 255, false, .ext (T 24) 0⟩,
 ⟨(some 33), none, 255, false, .ext (T 24) 1⟩,
 ⟨(some 9), none, 0, false, .alloc true (List.replicate 5 (.int .i64 0) ++ [(.int .u32 0), (.int .i64 0)])⟩,
 ⟨none, none, 1535, true, .store 7 (T 9) (T 32)⟩,
 ⟨(some 10), none, 4095, false, .mv (T 33)⟩])
 (.seq (.seq (.region [
 D 34 (.mv (T 10)),
 D 35 (.un .not (T 34))])
 (.cond (T 35)
 (.seq (.region [
 D 36 (.build (List.replicate 5 (.int .i64 0) ++ [(.int .u32 0), (.int .i64 0)]) []),
 E (.store 7 (T 4) (T 36)),
 D 5 (.mv (C (.slice none 0 0))),
 D 6 (.mv (C (.int .i64 242)))])
 .ret)
 .skip))
 (.seq (.region [
 D 37 (.load (some 7) (T 9)),
 E (.store 7 (T 7) (T 37))])
 (.seq (.region [
 D 38 (.faddr 0 (T 7)),
 D 39 (.load none (T 38)),
 D 40 (.bin .eql (T 39) (C (.int .i64 4))),
 D 41 (.mv (T 40)),
 ⟨(some 42), (some (41, false)), 0, true, .faddr 0 (T 7)⟩,
 ⟨(some 43), (some (41, false)), 0, true, .load none (T 42)⟩,
 ⟨(some 44), (some (41, false)), 0, true, .bin .eql (T 43) (C (.int .i64 6))⟩,
 D 45 (.pick (T 41) (C (.bool true)) (T 44))])
 (.cond (T 45)
 (.seq (.drawn [
 ⟨(some 46), none, 0, false, .load (some 7) (T 7)⟩,
 ⟨(some 47), none, 0, false, .bslice true 1 0 [] []⟩,
 ⟨(some 48), none, 0, false, .mv (T 1)⟩,
 ⟨(some 49), none, 0, false, .mv (T 8)⟩,
 ⟨(some 50), none, 8, false, .bin .add (T 49) (C (.int .i64 1))⟩,
 ⟨(some 51), none, 28, false, .slice 1 (T 48) (some (T 50)) none none⟩,
 ⟨(some 52), none, 62, false, .append true 1 (T 47) (T 51)⟩,
 ⟨none, none, 127, true, .store 7 (T 4) (T 46)⟩,
 ⟨(some 5), none, 255, false, .mv (T 52)⟩,
 ⟨(some 6), none, 511, false, .mv (C (.int .i64 0))⟩])
 .ret)
 .skip))))))
 (.region [
 D 22 (.mv (T 8)),
 D 23 (.bin .add (T 22) (C (.int .i64 1))),
 D 8 (.mv (T 23))])))
/-- winepress/winepressref24.TakeMark -/
def ac25 : AFn := ⟨(.seq (.region [
 D 4 (.alloc true (List.replicate 5 (.int .i64 0) ++ [(.int .u32 0), (.int .i64 0)])),
 D 5 (.mv (C (.slice none 0 0))),
 D 6 (.mv (C (.int .i64 0)))])
 (.seq (.seq (.region [
 D 11 (.mv (T 0)),
 D 12 (.bin .lss (T 11) (C (.int .i64 1))),
 D 13 (.mv (T 12)),
 ⟨(some 14), (some (13, false)), 0, true, .mv (T 0)⟩,
 ⟨(some 15), (some (13, false)), 0, true, .bin .gtr (T 14) (C (.int .i64 65536))⟩,
 D 16 (.pick (T 13) (C (.bool true)) (T 15))])
 (.cond (T 16)
 (.seq (.region [
 D 17 (.build (List.replicate 5 (.int .i64 0) ++ [(.int .u32 0), (.int .i64 0)]) []),
 E (.store 7 (T 4) (T 17)),
 D 5 (.mv (C (.slice none 0 0))),
 D 6 (.mv (C (.int .i64 2)))])
 .ret)
 .skip))
 (.seq (.region [
 D 7 (.alloc true (List.replicate 5 (.int .i64 0) ++ [(.int .u32 0), (.int .i64 0)]))])
 (.seq (.seq (.region [
 D 8 (.mv (C (.int .i64 0)))])
 (.block 0 (.loop [8, 1, 7, 0, 4] lb25_0)))
 (.seq (.region [
 D 53 (.build (List.replicate 5 (.int .i64 0) ++ [(.int .u32 0), (.int .i64 0)]) []),
 E (.store 7 (T 4) (T 53)),
 D 5 (.mv (C (.slice none 0 0))),
 D 6 (.mv (C (.int .i64 50)))])
 .ret))))), [.cell 4 (some 7), .tmp 5, .tmp 6]⟩
theorem ac25_ok : compFn Try.prog Try.f25 = some ac25 := by kernel_rfl
/-- winepress/header.number -/
def ac26 : AFn := ⟨(.seq (.region [
 D 4 (.mv (C (.slice none 0 0))),
 D 5 (.mv (C (.bool false)))])
 (.seq (.region [
 D 9 (.mv (T 0)),
 D 10 (.call 44 [(T 9)]),
 D 8 (.mv (T 10)),
 D 11 (.ext (T 8) 0),
 D 12 (.ext (T 8) 1),
 D 6 (.mv (T 11)),
 D 7 (.mv (T 12))])
 (.seq (.region [
 D 13 (.mv (T 6)),
 D 14 (.mv (T 0)),
 D 15 (.mv (T 1)),
 D 16 (.call 28 [(T 14), (C (.int .i64 1)), (T 15)]),
 D 4 (.mv (T 13)),
 D 5 (.mv (T 16))])
 .ret))), [.tmp 4, .tmp 5]⟩
theorem ac26_ok : compFn Try.prog Try.f26 = some ac26 := by kernel_rfl
/-- a loop of winepress/winepressref05.Put; it keeps [4, 0] -/
def lb27_0 : ACode := (.seq (.seq (.region [
 D 17 (.mv (T 0)),
 D 18 (.bin .gtr (T 17) (C (.int .i64 0)))])
 (.cond (T 18)
 .skip
 (.exit 0)))
 (.seq (.block 1 (.region [
 D 21 (.mv (T 0)),
 D 22 (.bin .rem (T 21) (C (.int .i64 128))),
 D 23 (.bin .add (C (.int .i64 128)) (T 22)),
 D 24 (.conv .u8 (T 23)),
 D 25 (.bslice true 1 1 [(.int .u8 0)] [(0, 1, (T 24))]),
 D 26 (.mv (T 4)),
 D 27 (.append true 1 (T 25) (T 26)),
 D 4 (.mv (T 27))]))
 (.region [
 D 19 (.mv (T 0)),
 D 20 (.bin .quo (T 19) (C (.int .i64 128))),
 D 0 (.mv (T 20))])))
/-- winepress/winepressref05.Put -/
def ac27 : AFn := ⟨(.seq (.region [
 D 2 (.mv (C (.slice none 0 0))),
 D 3 (.mv (C (.int .i64 0)))])
 (.seq (.seq (.region [
 D 5 (.mv (T 0)),
 D 6 (.bin .lss (T 5) (C (.int .i64 0))),
 D 7 (.mv (T 6)),
 ⟨(some 8), (some (7, false)), 0, true, .mv (T 0)⟩,
 ⟨(some 9), (some (7, false)), 0, true, .bin .gtr (T 8) (C (.int .i64 2147483647))⟩,
 D 10 (.pick (T 7) (C (.bool true)) (T 9))])
 (.cond (T 10)
 (.seq (.region [
 D 2 (.mv (C (.slice none 0 0))),
 D 3 (.mv (C (.int .i64 2)))])
 .ret)
 .skip))
 (.seq (.region [
 D 11 (.mv (T 0)),
 D 12 (.bin .rem (T 11) (C (.int .i64 128))),
 D 13 (.conv .u8 (T 12)),
 D 14 (.bslice true 1 1 [(.int .u8 0)] [(0, 1, (T 13))]),
 D 4 (.mv (T 14))])
 (.seq (.seq (.region [
 D 15 (.mv (T 0)),
 D 16 (.bin .quo (T 15) (C (.int .i64 128))),
 D 0 (.mv (T 16))])
 (.block 0 (.loop [4, 0] lb27_0)))
 (.seq (.region [
 D 28 (.mv (T 4)),
 D 2 (.mv (T 28)),
 D 3 (.mv (C (.int .i64 0)))])
 .ret))))), [.tmp 2, .tmp 3]⟩
theorem ac27_ok : compFn Try.prog Try.f27 = some ac27 := by kernel_rfl
/-- winepress/header.within -/
def ac28 : AFn := ⟨(.seq (.region [
 D 6 (.mv (C (.bool false)))])
 (.seq (.region [
 D 7 (.mv (T 0)),
 D 8 (.mv (T 1)),
 D 9 (.bin .geq (T 7) (T 8)),
 D 10 (.mv (T 9)),
 ⟨(some 11), (some (10, true)), 0, true, .mv (T 0)⟩,
 ⟨(some 12), (some (10, true)), 0, true, .mv (T 2)⟩,
 ⟨(some 13), (some (10, true)), 0, true, .bin .leq (T 11) (T 12)⟩,
 D 14 (.pick (T 10) (T 13) (C (.bool false))),
 D 6 (.mv (T 14))])
 .ret)), [.tmp 6]⟩
theorem ac28_ok : compFn Try.prog Try.f28 = some ac28 := by kernel_rfl
/-- a loop of slices.Concat[[]byte,byte]; it keeps [6, 27, 26, 25] -/
def lb29_0 : ACode := (.seq (.region [
 D 28 (.bin .lss (T 27) (T 26))])
 (.seq (.cond (T 28)
 .skip
 (.exit 2))
 (.seq (.block 3 (.seq (.region [
 D 29 (.iaddr 1 (T 25) (T 27)),
 D 30 (.load none (T 29)),
 D 8 (.mv (T 30))])
 (.region [
 D 31 (.mv (T 6)),
 D 32 (.mv (T 8)),
 D 33 (.append true 1 (T 31) (T 32)),
 D 6 (.mv (T 33))])))
 (.region [
 D 34 (.bin .add (T 27) (C (.int .i64 1))),
 D 27 (.mv (T 34))]))))
/-- a loop of slices.Concat[[]byte,byte]; it keeps [3, 11, 10, 0, 9] -/
def lb29_1 : ACode := (.seq (.region [
 D 12 (.bin .lss (T 11) (T 10))])
 (.seq (.cond (T 12)
 .skip
 (.exit 0))
 (.seq (.block 1 (.seq (.region [
 D 13 (.iaddr 1 (T 9) (T 11)),
 D 14 (.load none (T 13)),
 D 5 (.mv (T 14))])
 (.seq (.region [
 D 15 (.mv (T 3)),
 D 16 (.mv (T 5)),
 D 17 (.len (T 16)),
 D 18 (.bin .add (T 15) (T 17)),
 D 3 (.mv (T 18))])
 (.seq (.region [
 D 19 (.mv (T 3)),
 D 20 (.bin .lss (T 19) (C (.int .i64 0)))])
 (.cond (T 20)
 (.region [
 D 21 (.native failK),
 E (.native failK)])
 .skip)))))
 (.region [
 D 22 (.bin .add (T 11) (C (.int .i64 1))),
 D 11 (.mv (T 22))]))))
/-- slices.Concat[[]byte,byte] -/
def ac29 : AFn := ⟨(.seq (.region [
 D 2 (.mv (C (.slice none 0 0)))])
 (.seq (.region [
 D 3 (.mv (C (.int .i64 0)))])
 (.seq (.seq (.region [
 D 9 (.mv (T 0)),
 D 10 (.len (T 9)),
 D 11 (.mv (C (.int .i64 0)))])
 (.block 0 (.loop [3, 11, 10, 0, 9] lb29_1)))
 (.seq (.region [
 D 23 (.mv (T 3)),
 D 24 (.call 45 [(C (.slice none 0 0)), (T 23)]),
 D 6 (.mv (T 24))])
 (.seq (.seq (.region [
 D 25 (.mv (T 0)),
 D 26 (.len (T 25)),
 D 27 (.mv (C (.int .i64 0)))])
 (.block 2 (.loop [6, 27, 26, 25] lb29_0)))
 (.seq (.region [
 D 35 (.mv (T 6)),
 D 2 (.mv (T 35))])
 .ret)))))), [.tmp 2]⟩
theorem ac29_ok : compFn Try.prog Try.f29 = some ac29 := by kernel_rfl
/-- a loop of winepress/crc.Put; it keeps [5, 0, 3] -/
def lb30_0 : ACode := (.seq (.region [
 D 6 (.bin .lss (T 5) (C (.int .i64 4)))])
 (.seq (.cond (T 6)
 .skip
 (.exit 0))
 (.seq (.block 1 (.seq (.region [
 D 7 (.mv (T 5)),
 D 4 (.mv (T 7))])
 (.region [
 D 8 (.mv (T 4)),
 D 9 (.mv (T 0)),
 D 10 (.mv (T 4)),
 D 11 (.bin .mul (C (.int .i64 8)) (T 10)),
 D 12 (.bin .sub (C (.int .i64 24)) (T 11)),
 D 13 (.bin .shr (T 9) (T 12)),
 D 14 (.conv .u8 (T 13)),
 D 15 (.iaddra 1 4 (T 3) (T 8)),
 E (.store 1 (T 15) (T 14))])))
 (.region [
 D 16 (.bin .add (T 5) (C (.int .i64 1))),
 D 5 (.mv (T 16))]))))
/-- winepress/crc.Put -/
def ac30 : AFn := ⟨(.seq (.region [
 D 2 (.mv (C (.slice none 0 0)))])
 (.seq (.region [
 D 3 (.alloc true [(.int .u8 0), (.int .u8 0), (.int .u8 0), (.int .u8 0)])])
 (.seq (.seq (.region [
 D 5 (.mv (C (.int .i64 0)))])
 (.block 0 (.loop [5, 0, 3] lb30_0)))
 (.seq (.region [
 D 17 (.slicea 1 4 (T 3) none none none),
 D 2 (.mv (T 17))])
 .ret)))), [.tmp 2]⟩
theorem ac30_ok : compFn Try.prog Try.f30 = some ac30 := by kernel_rfl
/-- winepress/winepressref04.Put -/
def ac31 : AFn := ⟨(.seq (.region [
 D 2 (.mv (C (.slice none 0 0)))])
 (.seq (.region [
 D 3 (.mv (T 0)),
 D 4 (.bin .quo (T 3) (C (.int .u32 16777216))),
 D 5 (.conv .u8 (T 4)),
 D 6 (.mv (T 0)),
 D 7 (.bin .quo (T 6) (C (.int .u32 65536))),
 D 8 (.bin .rem (T 7) (C (.int .u32 256))),
 D 9 (.conv .u8 (T 8)),
 D 10 (.mv (T 0)),
 D 11 (.bin .quo (T 10) (C (.int .u32 256))),
 D 12 (.bin .rem (T 11) (C (.int .u32 256))),
 D 13 (.conv .u8 (T 12)),
 D 14 (.mv (T 0)),
 D 15 (.bin .rem (T 14) (C (.int .u32 256))),
 D 16 (.conv .u8 (T 15)),
 D 17 (.bslice true 1 4 [(.int .u8 0), (.int .u8 0), (.int .u8 0), (.int .u8 0)] [(0, 1, (T 5)), (1, 1, (T 9)), (2, 1, (T 13)), (3, 1, (T 16))]),
 D 2 (.mv (T 17))])
 .ret)), [.tmp 2]⟩
theorem ac31_ok : compFn Try.prog Try.f31 = some ac31 := by kernel_rfl
/-- winepress/header.comes -/
def ac32 : AFn := ⟨(.seq (.region [
 D 2 (.box true (T 0)),
 D 4 (.mv (C (.bool false)))])
 (.seq (.region [
 D 5 (.load (some 2) (T 2)),
 D 6 (.call 46 [(T 5)]),
 D 7 (.mv (T 6)),
 ⟨(some 8), (some (7, true)), 0, true, .faddr 0 (T 2)⟩,
 ⟨(some 9), (some (7, true)), 0, true, .load none (T 8)⟩,
 ⟨(some 10), (some (7, true)), 0, true, .mv (T 1)⟩,
 ⟨(some 11), (some (7, true)), 0, true, .bin .leq (T 9) (T 10)⟩,
 D 12 (.pick (T 7) (T 11) (C (.bool false))),
 D 4 (.mv (T 12))])
 .ret)), [.tmp 4]⟩
theorem ac32_ok : compFn Try.prog Try.f32 = some ac32 := by kernel_rfl
/-- a loop of winepress/winepressref24.groups; it keeps [3, 4, 5, 1] -/
def lb33_0 : ACode := (.seq (.seq (.region [
 D 8 (.mv (T 5)),
 D 9 (.faddr 1 (T 1)),
 D 10 (.load none (T 9)),
 D 11 (.bin .lss (T 8) (T 10)),
 D 12 (.mv (T 11)),
 ⟨(some 13), (some (12, true)), 0, true, .mv (T 5)⟩,
 ⟨(some 14), (some (12, true)), 0, true, .bin .lss (T 13) (C (.int .i64 5))⟩,
 D 15 (.pick (T 12) (T 14) (C (.bool false)))])
 (.cond (T 15)
 .skip
 (.exit 0)))
 (.seq (.block 1 (.seq (.region [
 D 18 (.mv (T 4)),
 D 19 (.bin .rem (T 18) (C (.int .i64 128))),
 D 20 (.bin .add (C (.int .i64 128)) (T 19)),
 D 21 (.conv .u8 (T 20)),
 D 22 (.bslice true 1 1 [(.int .u8 0)] [(0, 1, (T 21))]),
 D 23 (.mv (T 3)),
 D 24 (.append true 1 (T 22) (T 23)),
 D 3 (.mv (T 24))])
 (.region [
 D 25 (.mv (T 4)),
 D 26 (.bin .quo (T 25) (C (.int .i64 128))),
 D 4 (.mv (T 26))])))
 (.region [
 D 16 (.mv (T 5)),
 D 17 (.bin .add (T 16) (C (.int .i64 1))),
 D 5 (.mv (T 17))])))
/-- winepress/winepressref24.groups -/
def ac33 : AFn := ⟨(.seq (.region [
 D 1 (.box true (T 0)),
 D 2 (.mv (C (.slice none 0 0)))])
 (.seq (.region [
 D 3 (.mv (C (.slice none 0 0)))])
 (.seq (.region [
 D 6 (.faddr 0 (T 1)),
 D 7 (.load none (T 6)),
 D 4 (.mv (T 7))])
 (.seq (.seq (.region [
 D 5 (.mv (C (.int .i64 0)))])
 (.block 0 (.loop [3, 4, 5, 1] lb33_0)))
 (.seq (.region [
 D 27 (.mv (T 3)),
 D 2 (.mv (T 27))])
 .ret))))), [.tmp 2]⟩
theorem ac33_ok : compFn Try.prog Try.f33 = some ac33 := by kernel_rfl
/-- winepress/winepressref24.way -/
def ac34 : AFn := ⟨(.seq (.region [
 D 2 (.box true (T 0)),
 D 4 (.alloc true [(.int .i64 0), (.int .i64 0), (.int .i64 0), (.int .i64 0)]),
 D 5 (.mv (C (.int .i64 0)))])
 (.seq (.region [
 D 10 (.build [(.int .u8 0), (.int .u8 0), (.int .u8 0)] [(0, 1, (C (.int .u8 87))), (1, 1, (C (.int .u8 80))), (2, 1, (C (.int .u8 1)))]),
 D 6 (.alloc true [(.int .u8 0), (.int .u8 0), (.int .u8 0)]),
 E (.store 3 (T 6) (T 10))])
 (.seq (.seq (.region [
 D 11 (.faddr 0 (T 2)),
 D 12 (.load none (T 11)),
 D 13 (.bin .lss (T 12) (C (.int .i64 3)))])
 (.cond (T 13)
 (.seq (.seq (.region [
 D 14 (.mv (T 1)),
 D 15 (.faddr 0 (T 2)),
 D 16 (.load none (T 15)),
 D 17 (.iaddra 1 3 (T 6) (T 16)),
 D 18 (.load none (T 17)),
 D 19 (.bin .neq (T 14) (T 18)),
 D 20 (.mv (T 19)),
 ⟨(some 21), (some (20, true)), 0, true, .faddr 0 (T 2)⟩,
 ⟨(some 22), (some (20, true)), 0, true, .load none (T 21)⟩,
 ⟨(some 23), (some (20, true)), 0, true, .bin .eql (T 22) (C (.int .i64 2))⟩,
 D 24 (.pick (T 20) (T 23) (C (.bool false)))])
 (.cond (T 24)
 (.seq (.region [
 D 25 (.load (some 4) (T 2)),
 E (.store 4 (T 4) (T 25)),
 D 5 (.mv (C (.int .i64 241)))])
 .ret)
 .skip))
 (.seq (.seq (.region [
 D 26 (.mv (T 1)),
 D 27 (.faddr 0 (T 2)),
 D 28 (.load none (T 27)),
 D 29 (.iaddra 1 3 (T 6) (T 28)),
 D 30 (.load none (T 29)),
 D 31 (.bin .neq (T 26) (T 30))])
 (.cond (T 31)
 (.seq (.region [
 D 32 (.load (some 4) (T 2)),
 E (.store 4 (T 4) (T 32)),
 D 5 (.mv (C (.int .i64 240)))])
 .ret)
 .skip))
 (.seq (.region [
 D 33 (.faddr 0 (T 2)),
 D 34 (.load none (T 33)),
 D 35 (.bin .add (T 34) (C (.int .i64 1))),
 D 36 (.faddr 0 (T 2)),
 E (.store 1 (T 36) (T 35))])
 (.seq (.region [
 D 37 (.load (some 4) (T 2)),
 E (.store 4 (T 4) (T 37)),
 D 5 (.mv (C (.int .i64 0)))])
 .ret))))
 .skip))
 (.seq (.region [
 D 39 (.faddr 1 (T 2)),
 D 40 (.load (some 2) (T 39)),
 D 41 (.mv (T 1)),
 D 42 (.call 47 [(T 40), (T 41), (C (.int .i64 65536))]),
 D 38 (.mv (T 42)),
 D 43 (.ext (T 38) 0),
 D 44 (.ext (T 38) 1),
 D 45 (.ext (T 38) 2),
 D 7 (.alloc true [(.int .i64 0), (.int .i64 0)]),
 E (.store 2 (T 7) (T 43)),
 D 8 (.mv (T 44)),
 D 9 (.mv (T 45))])
 (.seq (.seq (.region [
 D 46 (.mv (T 9)),
 D 47 (.un .not (T 46))])
 (.cond (T 47)
 (.seq (.region [
 D 48 (.load (some 4) (T 2)),
 E (.store 4 (T 4) (T 48)),
 D 5 (.mv (C (.int .i64 242)))])
 .ret)
 .skip))
 (.seq (.region [
 D 49 (.load (some 2) (T 7)),
 D 50 (.faddr 1 (T 2)),
 E (.store 2 (T 50) (T 49))])
 (.seq (.seq (.region [
 D 51 (.mv (T 8))])
 (.cond (T 51)
 (.seq (.region [
 D 52 (.faddr 0 (T 2)),
 E (.store 1 (T 52) (C (.int .i64 4)))])
 (.seq (.region [
 D 53 (.faddr 0 (T 7)),
 D 54 (.load none (T 53)),
 D 55 (.faddr 3 (T 2)),
 E (.store 1 (T 55) (T 54))])
 (.region [
 D 56 (.build [(.int .i64 0), (.int .i64 0)] []),
 D 57 (.faddr 1 (T 2)),
 E (.store 2 (T 57) (T 56))])))
 .skip))
 (.seq (.region [
 D 58 (.load (some 4) (T 2)),
 E (.store 4 (T 4) (T 58)),
 D 5 (.mv (C (.int .i64 0)))])
 .ret)))))))), [.cell 4 (some 4), .tmp 5]⟩
theorem ac34_ok : compFn Try.prog Try.f34 = some ac34 := by kernel_rfl
/-- winepress/header.sums -/
def ac35 : AFn := ⟨(.seq (.region [
 D 4 (.mv (C (.bool false)))])
 (.seq (.region [
 D 5 (.mv (T 1)),
 D 6 (.call 28 [(T 5), (C (.int .i64 0)), (C (.int .i64 3))]),
 D 7 (.mv (T 6)),
 ⟨(some 8), (some (7, true)), 0, true, .mv (T 0)⟩,
 ⟨(some 9), (some (7, true)), 0, true, .conv .u64 (T 8)⟩,
 ⟨(some 10), (some (7, true)), 0, true, .mv (T 1)⟩,
 ⟨(some 11), (some (7, true)), 0, true, .bin .mul (C (.int .i64 8)) (T 10)⟩,
 ⟨(some 12), (some (7, true)), 0, true, .bin .shr (T 9) (T 11)⟩,
 ⟨(some 13), (some (7, true)), 0, true, .bin .eql (T 12) (C (.int .u64 0))⟩,
 D 14 (.pick (T 7) (T 13) (C (.bool false))),
 D 4 (.mv (T 14))])
 .ret)), [.tmp 4]⟩
theorem ac35_ok : compFn Try.prog Try.f35 = some ac35 := by kernel_rfl
/-- winepress/winepressref24.last -/
def ac36 : AFn := ⟨(.seq (.region [
 D 4 (.mv (C (.slice none 0 0)))])
 (.seq (.region [
 D 6 (.mv (T 0)),
 D 7 (.call 31 [(T 6)]),
 D 5 (.mv (T 7))])
 (.seq (.region [
 D 8 (.mv (T 5)),
 D 9 (.mv (T 1)),
 D 10 (.bin .sub (C (.int .i64 4)) (T 9)),
 D 11 (.slice 1 (T 8) (some (T 10)) none none),
 D 4 (.mv (T 11))])
 .ret))), [.tmp 4]⟩
theorem ac36_ok : compFn Try.prog Try.f36 = some ac36 := by kernel_rfl
/-- winepress/winepressref24.along -/
def ac37 : AFn := ⟨(.seq (.region [
 D 4 (.box true (T 1)),
 D 6 (.alloc true (List.replicate 5 (.int .i64 0) ++ [(.int .u32 0), (.int .i64 0)])),
 D 7 (.mv (C (.bool false)))])
 (.seq (.seq (.region [
 D 14 (.faddr 0 (T 4)),
 D 15 (.load none (T 14))])
 (.block 0 (.seq (.region [
 D 17 (.bin .eql (T 15) (C (.int .i64 0))),
 D 16 (.mv (T 17))])
 (.cond (T 16)
 (.seq (.region [
 D 18 (.faddr 0 (T 4)),
 E (.store 1 (T 18) (C (.int .i64 1)))])
 (.seq (.seq (.region [
 D 19 (.mv (T 2)),
 D 20 (.bin .eql (T 19) (C (.int .u8 0)))])
 (.cond (T 20)
 (.region [
 D 21 (.faddr 0 (T 4)),
 E (.store 1 (T 21) (C (.int .i64 5)))])
 .skip))
 (.seq (.region [
 D 22 (.load (some 7) (T 4)),
 D 23 (.mv (T 2)),
 D 24 (.bin .eql (T 23) (C (.int .u8 0))),
 D 25 (.mv (T 24)),
 ⟨(some 26), (some (25, false)), 0, true, .mv (T 2)⟩,
 ⟨(some 27), (some (25, false)), 0, true, .bin .eql (T 26) (C (.int .u8 1))⟩,
 D 28 (.pick (T 25) (C (.bool true)) (T 27)),
 E (.store 7 (T 6) (T 22)),
 D 7 (.mv (T 28))])
 .ret)))
 (.seq (.region [
 D 30 (.bin .eql (T 15) (C (.int .i64 1))),
 D 29 (.mv (T 30))])
 (.cond (T 29)
 (.seq (.region [
 D 32 (.faddr 1 (T 4)),
 D 33 (.load (some 2) (T 32)),
 D 34 (.mv (T 2)),
 D 35 (.mv (T 0)),
 D 36 (.call 47 [(T 33), (T 34), (T 35)]),
 D 31 (.mv (T 36)),
 D 37 (.ext (T 31) 0),
 D 38 (.ext (T 31) 1),
 D 39 (.ext (T 31) 2),
 D 8 (.alloc true [(.int .i64 0), (.int .i64 0)]),
 E (.store 2 (T 8) (T 37)),
 D 9 (.mv (T 38)),
 D 10 (.mv (T 39))])
 (.seq (.region [
 D 40 (.load (some 2) (T 8)),
 D 41 (.faddr 1 (T 4)),
 E (.store 2 (T 41) (T 40))])
 (.seq (.seq (.region [
 D 42 (.mv (T 9))])
 (.cond (T 42)
 (.seq (.region [
 D 43 (.build [(.int .i64 0), (.int .i64 0)] []),
 D 44 (.faddr 1 (T 4)),
 E (.store 2 (T 44) (T 43))])
 (.seq (.region [
 D 45 (.faddr 0 (T 8)),
 D 46 (.load none (T 45)),
 D 47 (.faddr 3 (T 4)),
 D 48 (.faddr 0 (T 47)),
 E (.store 1 (T 48) (T 46))])
 (.region [
 D 49 (.faddr 0 (T 4)),
 E (.store 1 (T 49) (C (.int .i64 2)))])))
 .skip))
 (.seq (.region [
 D 50 (.load (some 7) (T 4)),
 D 51 (.mv (T 10)),
 E (.store 7 (T 6) (T 50)),
 D 7 (.mv (T 51))])
 .ret))))
 (.seq (.region [
 D 53 (.bin .eql (T 15) (C (.int .i64 2))),
 D 52 (.mv (T 53))])
 (.cond (T 52)
 (.seq (.region [
 D 55 (.faddr 1 (T 4)),
 D 56 (.load (some 2) (T 55)),
 D 57 (.mv (T 2)),
 D 58 (.faddr 3 (T 4)),
 D 59 (.faddr 0 (T 58)),
 D 60 (.load none (T 59)),
 D 61 (.call 47 [(T 56), (T 57), (T 60)]),
 D 54 (.mv (T 61)),
 D 62 (.ext (T 54) 0),
 D 63 (.ext (T 54) 1),
 D 64 (.ext (T 54) 2),
 D 11 (.alloc true [(.int .i64 0), (.int .i64 0)]),
 E (.store 2 (T 11) (T 62)),
 D 12 (.mv (T 63)),
 D 13 (.mv (T 64))])
 (.seq (.region [
 D 65 (.load (some 2) (T 11)),
 D 66 (.faddr 1 (T 4)),
 E (.store 2 (T 66) (T 65))])
 (.seq (.seq (.region [
 D 67 (.mv (T 12))])
 (.cond (T 67)
 (.seq (.region [
 D 68 (.build [(.int .i64 0), (.int .i64 0)] []),
 D 69 (.faddr 1 (T 4)),
 E (.store 2 (T 69) (T 68))])
 (.seq (.region [
 D 70 (.faddr 0 (T 11)),
 D 71 (.load none (T 70)),
 D 72 (.faddr 3 (T 4)),
 D 73 (.faddr 1 (T 72)),
 E (.store 1 (T 73) (T 71))])
 (.region [
 D 74 (.faddr 0 (T 4)),
 E (.store 1 (T 74) (C (.int .i64 3)))])))
 .skip))
 (.seq (.region [
 D 75 (.load (some 7) (T 4)),
 D 76 (.mv (T 13)),
 E (.store 7 (T 6) (T 75)),
 D 7 (.mv (T 76))])
 .ret))))
 .skip))))))))
 (.seq (.region [
 D 77 (.faddr 3 (T 4)),
 D 78 (.faddr 2 (T 77)),
 D 79 (.load none (T 78)),
 D 80 (.bin .mul (C (.int .u32 256)) (T 79)),
 D 81 (.mv (T 2)),
 D 82 (.conv .u32 (T 81)),
 D 83 (.bin .add (T 80) (T 82)),
 D 84 (.faddr 3 (T 4)),
 D 85 (.faddr 2 (T 84)),
 E (.store 1 (T 85) (T 83))])
 (.seq (.region [
 D 86 (.faddr 6 (T 4)),
 D 87 (.load none (T 86)),
 D 88 (.bin .add (T 87) (C (.int .i64 1))),
 D 89 (.faddr 6 (T 4)),
 E (.store 1 (T 89) (T 88))])
 (.seq (.seq (.region [
 D 90 (.faddr 6 (T 4)),
 D 91 (.load none (T 90)),
 D 92 (.bin .eql (T 91) (C (.int .i64 4)))])
 (.cond (T 92)
 (.region [
 D 93 (.faddr 0 (T 4)),
 D 94 (.load none (T 93)),
 D 95 (.bin .add (T 94) (C (.int .i64 1))),
 D 96 (.faddr 0 (T 4)),
 E (.store 1 (T 96) (T 95))])
 .skip))
 (.seq (.region [
 D 97 (.load (some 7) (T 4)),
 E (.store 7 (T 6) (T 97)),
 D 7 (.mv (C (.bool true)))])
 .ret)))))), [.cell 6 (some 7), .tmp 7]⟩
theorem ac37_ok : compFn Try.prog Try.f37 = some ac37 := by kernel_rfl
/-- winepress/header.grow -/
def ac38 : AFn := ⟨(.seq (.region [
 D 3 (.box true (T 0)),
 D 6 (.alloc true [(.int .i64 0), (.int .i64 0)]),
 D 7 (.mv (C (.bool false))),
 D 8 (.mv (C (.bool false)))])
 (.seq (.region [
 D 11 (.load (some 2) (T 3)),
 D 12 (.mv (T 1)),
 D 13 (.call 48 [(T 11), (T 12)]),
 D 10 (.mv (T 13)),
 D 14 (.ext (T 10) 0),
 D 15 (.ext (T 10) 1),
 D 16 (.ext (T 10) 2),
 E (.store 2 (T 6) (T 14)),
 D 7 (.mv (T 15)),
 D 9 (.mv (T 16))])
 (.seq (.region [
 D 17 (.load (some 2) (T 6)),
 D 18 (.mv (T 7)),
 D 19 (.mv (T 9)),
 D 20 (.bin .eql (T 19) (C (.int .i64 0))),
 D 21 (.mv (T 20)),
 ⟨(some 22), (some (21, true)), 0, true, .faddr 0 (T 6)⟩,
 ⟨(some 23), (some (21, true)), 0, true, .load none (T 22)⟩,
 ⟨(some 24), (some (21, true)), 0, true, .mv (T 2)⟩,
 ⟨(some 25), (some (21, true)), 0, true, .bin .leq (T 23) (T 24)⟩,
 D 26 (.pick (T 21) (T 25) (C (.bool false))),
 D 27 (.mv (T 26)),
 ⟨(some 28), (some (27, true)), 0, true, .mv (T 7)⟩,
 ⟨(some 29), (some (27, true)), 0, true, .un .not (T 28)⟩,
 ⟨(some 30), (some (27, true)), 0, true, .mv (T 29)⟩,
 ⟨(some 31), (some (30, false)), 0, true, .faddr 0 (T 6)⟩,
 ⟨(some 32), (some (30, false)), 0, true, .load none (T 31)⟩,
 ⟨(some 33), (some (30, false)), 0, true, .bin .gtr (T 32) (C (.int .i64 0))⟩,
 ⟨(some 34), (some (27, true)), 0, true, .pick (T 30) (C (.bool true)) (T 33)⟩,
 D 35 (.pick (T 27) (T 34) (C (.bool false))),
 E (.store 2 (T 6) (T 17)),
 D 7 (.mv (T 18)),
 D 8 (.mv (T 35))])
 .ret))), [.cell 6 (some 2), .tmp 7, .tmp 8]⟩
theorem ac38_ok : compFn Try.prog Try.f38 = some ac38 := by kernel_rfl
/-- winepress/header.mark -/
def ac39 : AFn := ⟨(.seq (.region [
 D 4 (.box true (T 1)),
 D 6 (.alloc true (List.replicate 5 (.int .i64 0) ++ [(.int .u32 0), (.int .i64 0)])),
 D 7 (.mv (C (.bool false)))])
 (.seq (.seq (.region [
 D 8 (.faddr 0 (T 4)),
 E (.store 1 (T 8) (C (.int .i64 1)))])
 (.seq (.region [
 D 9 (.mv (T 2)),
 D 10 (.bin .eql (T 9) (C (.int .u8 0)))])
 (.cond (T 10)
 (.region [
 D 11 (.faddr 0 (T 4)),
 E (.store 1 (T 11) (C (.int .i64 5)))])
 .skip)))
 (.seq (.region [
 D 12 (.load (some 7) (T 4)),
 D 13 (.mv (T 2)),
 D 14 (.bin .leq (T 13) (C (.int .u8 1))),
 E (.store 7 (T 6) (T 12)),
 D 7 (.mv (T 14))])
 .ret))), [.cell 6 (some 7), .tmp 7]⟩
theorem ac39_ok : compFn Try.prog Try.f39 = some ac39 := by kernel_rfl
/-- winepress/header.many -/
def ac40 : AFn := ⟨(.seq (.region [
 D 4 (.box true (T 1)),
 D 6 (.alloc true (List.replicate 5 (.int .i64 0) ++ [(.int .u32 0), (.int .i64 0)])),
 D 7 (.mv (C (.bool false)))])
 (.seq (.region [
 D 12 (.faddr 1 (T 4)),
 D 13 (.load (some 2) (T 12)),
 D 14 (.mv (T 2)),
 D 15 (.mv (T 0)),
 D 16 (.call 38 [(T 13), (T 14), (T 15)]),
 D 11 (.mv (T 16)),
 D 17 (.ext (T 11) 0),
 D 18 (.ext (T 11) 1),
 D 19 (.ext (T 11) 2),
 D 8 (.alloc true [(.int .i64 0), (.int .i64 0)]),
 E (.store 2 (T 8) (T 17)),
 D 9 (.mv (T 18)),
 D 10 (.mv (T 19))])
 (.seq (.seq (.region [
 D 20 (.load (some 2) (T 8)),
 D 21 (.faddr 1 (T 4)),
 E (.store 2 (T 21) (T 20))])
 (.seq (.region [
 D 22 (.mv (T 9))])
 (.cond (T 22)
 (.region [
 D 23 (.faddr 0 (T 8)),
 D 24 (.load none (T 23)),
 D 25 (.build [(.int .i64 0), (.int .i64 0), (.int .u32 0)] [(0, 1, (T 24))]),
 D 26 (.build (List.replicate 5 (.int .i64 0) ++ [(.int .u32 0), (.int .i64 0)]) [(0, 1, (C (.int .i64 2))), (3, 3, (T 25))]),
 E (.store 7 (T 4) (T 26))])
 .skip)))
 (.seq (.region [
 D 27 (.load (some 7) (T 4)),
 D 28 (.mv (T 10)),
 E (.store 7 (T 6) (T 27)),
 D 7 (.mv (T 28))])
 .ret)))), [.cell 6 (some 7), .tmp 7]⟩
theorem ac40_ok : compFn Try.prog Try.f40 = some ac40 := by kernel_rfl
/-- winepress/header.index -/
def ac41 : AFn := ⟨(.seq (.region [
 D 4 (.box true (T 1)),
 D 6 (.alloc true (List.replicate 5 (.int .i64 0) ++ [(.int .u32 0), (.int .i64 0)])),
 D 7 (.mv (C (.bool false)))])
 (.seq (.region [
 D 12 (.faddr 1 (T 4)),
 D 13 (.load (some 2) (T 12)),
 D 14 (.mv (T 2)),
 D 15 (.faddr 3 (T 4)),
 D 16 (.faddr 0 (T 15)),
 D 17 (.load none (T 16)),
 D 18 (.call 38 [(T 13), (T 14), (T 17)]),
 D 11 (.mv (T 18)),
 D 19 (.ext (T 11) 0),
 D 20 (.ext (T 11) 1),
 D 21 (.ext (T 11) 2),
 D 8 (.alloc true [(.int .i64 0), (.int .i64 0)]),
 E (.store 2 (T 8) (T 19)),
 D 9 (.mv (T 20)),
 D 10 (.mv (T 21))])
 (.seq (.seq (.region [
 D 22 (.load (some 2) (T 8)),
 D 23 (.faddr 1 (T 4)),
 E (.store 2 (T 23) (T 22))])
 (.seq (.region [
 D 24 (.mv (T 9))])
 (.cond (T 24)
 (.region [
 D 25 (.faddr 3 (T 4)),
 D 26 (.faddr 0 (T 25)),
 D 27 (.load none (T 26)),
 D 28 (.faddr 0 (T 8)),
 D 29 (.load none (T 28)),
 D 30 (.build [(.int .i64 0), (.int .i64 0), (.int .u32 0)] [(0, 1, (T 27)), (1, 1, (T 29))]),
 D 31 (.build (List.replicate 5 (.int .i64 0) ++ [(.int .u32 0), (.int .i64 0)]) [(0, 1, (C (.int .i64 3))), (3, 3, (T 30))]),
 E (.store 7 (T 4) (T 31))])
 .skip)))
 (.seq (.region [
 D 32 (.load (some 7) (T 4)),
 D 33 (.mv (T 10)),
 E (.store 7 (T 6) (T 32)),
 D 7 (.mv (T 33))])
 .ret)))), [.cell 6 (some 7), .tmp 7]⟩
theorem ac41_ok : compFn Try.prog Try.f41 = some ac41 := by kernel_rfl
/-- winepress/header.sum -/
def ac42 : AFn := ⟨(.seq (.region [
 D 4 (.box true (T 1)),
 D 6 (.alloc true (List.replicate 5 (.int .i64 0) ++ [(.int .u32 0), (.int .i64 0)])),
 D 7 (.mv (C (.bool false)))])
 (.seq (.region [
 D 8 (.faddr 3 (T 4)),
 D 9 (.faddr 2 (T 8)),
 D 10 (.load none (T 9)),
 D 11 (.bin .shl (T 10) (C (.int .u64 8))),
 D 12 (.mv (T 2)),
 D 13 (.conv .u32 (T 12)),
 D 14 (.bin .or (T 11) (T 13)),
 D 15 (.faddr 3 (T 4)),
 D 16 (.faddr 2 (T 15)),
 E (.store 1 (T 16) (T 14))])
 (.seq (.seq (.region [
 D 17 (.faddr 6 (T 4)),
 D 18 (.load none (T 17)),
 D 19 (.bin .add (T 18) (C (.int .i64 1))),
 D 20 (.faddr 6 (T 4)),
 E (.store 1 (T 20) (T 19))])
 (.seq (.region [
 D 21 (.faddr 6 (T 4)),
 D 22 (.load none (T 21)),
 D 23 (.bin .eql (T 22) (C (.int .i64 4)))])
 (.cond (T 23)
 (.region [
 D 24 (.faddr 0 (T 4)),
 D 25 (.load none (T 24)),
 D 26 (.bin .add (T 25) (C (.int .i64 1))),
 D 27 (.faddr 0 (T 4)),
 E (.store 1 (T 27) (T 26))])
 .skip)))
 (.seq (.region [
 D 28 (.load (some 7) (T 4)),
 E (.store 7 (T 6) (T 28)),
 D 7 (.mv (C (.bool true)))])
 .ret)))), [.cell 6 (some 7), .tmp 7]⟩
theorem ac42_ok : compFn Try.prog Try.f42 = some ac42 := by kernel_rfl
/-- bytes.Clone -/
def ac43 : AFn := ⟨(.seq (.region [
 D 2 (.mv (C (.slice none 0 0)))])
 (.seq (.seq (.region [
 D 3 (.mv (T 0)),
 D 4 (.eqs false .slice (T 3) (C (.slice none 0 0)))])
 (.cond (T 4)
 (.seq (.region [
 D 2 (.mv (C (.slice none 0 0)))])
 .ret)
 .skip))
 (.seq (.region [
 D 5 (.bslice true 1 0 [] []),
 D 6 (.mv (T 0)),
 D 7 (.append true 1 (T 5) (T 6)),
 D 2 (.mv (T 7))])
 .ret))), [.tmp 2]⟩
theorem ac43_ok : compFn Try.prog Try.f43 = some ac43 := by kernel_rfl
/-- a loop of winepress/varint.Put; it keeps [2, 0] -/
def lb44_0 : ACode := (.seq (.seq (.region [
 D 18 (.mv (T 0)),
 D 19 (.bin .gtr (T 18) (C (.int .i64 0)))])
 (.cond (T 19)
 .skip
 (.exit 0)))
 (.seq (.block 1 (.region [
 D 22 (.mv (T 2)),
 D 23 (.mv (T 0)),
 D 24 (.bin .and (T 23) (C (.int .i64 127))),
 D 25 (.conv .u8 (T 24)),
 D 26 (.bin .or (T 25) (C (.int .u8 128))),
 D 27 (.bslice true 1 1 [(.int .u8 0)] [(0, 1, (T 26))]),
 D 28 (.append true 1 (T 22) (T 27)),
 D 2 (.mv (T 28))]))
 (.region [
 D 20 (.mv (T 0)),
 D 21 (.bin .shr (T 20) (C (.int .u64 7))),
 D 0 (.mv (T 21))])))
/-- winepress/varint.Put -/
def ac44 : AFn := ⟨(.seq (.region [
 D 2 (.mv (C (.slice none 0 0))),
 D 3 (.mv (C (.int .i64 0)))])
 (.seq (.seq (.region [
 D 4 (.mv (T 0)),
 D 5 (.bin .lss (T 4) (C (.int .i64 0))),
 D 6 (.mv (T 5)),
 ⟨(some 7), (some (6, false)), 0, true, .mv (T 0)⟩,
 ⟨(some 8), (some (6, false)), 0, true, .bin .gtr (T 7) (C (.int .i64 2147483647))⟩,
 D 9 (.pick (T 6) (C (.bool true)) (T 8))])
 (.cond (T 9)
 (.seq (.region [
 D 2 (.mv (C (.slice none 0 0))),
 D 3 (.mv (C (.int .i64 2)))])
 .ret)
 .skip))
 (.seq (.region [
 D 10 (.mv (T 2)),
 D 11 (.mv (T 0)),
 D 12 (.bin .and (T 11) (C (.int .i64 127))),
 D 13 (.conv .u8 (T 12)),
 D 14 (.bslice true 1 1 [(.int .u8 0)] [(0, 1, (T 13))]),
 D 15 (.append true 1 (T 10) (T 14)),
 D 2 (.mv (T 15))])
 (.seq (.seq (.region [
 D 16 (.mv (T 0)),
 D 17 (.bin .shr (T 16) (C (.int .u64 7))),
 D 0 (.mv (T 17))])
 (.block 0 (.loop [2, 0] lb44_0)))
 (.seq (.region [
 D 29 (.mv (T 2)),
 D 30 (.call 49 [(T 29)])])
 (.seq (.region [
 D 31 (.mv (T 2)),
 D 2 (.mv (T 31)),
 D 3 (.mv (C (.int .i64 0)))])
 .ret)))))), [.tmp 2, .tmp 3]⟩
theorem ac44_ok : compFn Try.prog Try.f44 = some ac44 := by kernel_rfl
/-- slices.Grow[[]byte,byte] -/
def ac45 : AFn := ⟨(.seq (.region [
 D 4 (.mv (C (.slice none 0 0)))])
 (.seq (.seq (.region [
 D 5 (.mv (T 1)),
 D 6 (.bin .lss (T 5) (C (.int .i64 0)))])
 (.cond (T 6)
 (.region [
 D 7 (.native failK),
 E (.native failK)])
 .skip))
 (.seq (.seq (.region [
 D 8 (.mv (T 1)),
 D 9 (.mv (T 0)),
 D 10 (.cap (T 9)),
 D 11 (.mv (T 0)),
 D 12 (.len (T 11)),
 D 13 (.bin .sub (T 10) (T 12)),
 D 14 (.bin .sub (T 8) (T 13)),
 D 1 (.mv (T 14))])
 (.seq (.region [
 D 15 (.mv (T 1)),
 D 16 (.bin .gtr (T 15) (C (.int .i64 0)))])
 (.cond (T 16)
 (.region [
 D 17 (.mv (T 0)),
 D 18 (.mv (T 0)),
 D 19 (.cap (T 18)),
 D 20 (.slice 1 (T 17) none (some (T 19)) none),
 D 21 (.mv (T 1)),
 D 22 (.appendz (T 20) (T 21)),
 D 23 (.mv (T 0)),
 D 24 (.len (T 23)),
 D 25 (.slice 1 (T 22) none (some (T 24)) none),
 D 0 (.mv (T 25))])
 .skip)))
 (.seq (.region [
 D 26 (.mv (T 0)),
 D 4 (.mv (T 26))])
 .ret)))), [.tmp 4]⟩
theorem ac45_ok : compFn Try.prog Try.f45 = some ac45 := by kernel_rfl
/-- winepress/varint.Valid -/
def ac46 : AFn := ⟨(.seq (.region [
 D 1 (.box true (T 0)),
 D 2 (.mv (C (.bool false)))])
 (.seq (.seq (.region [
 D 3 (.faddr 1 (T 1)),
 D 4 (.load none (T 3)),
 D 5 (.bin .lss (T 4) (C (.int .i64 1))),
 D 6 (.mv (T 5)),
 ⟨(some 7), (some (6, false)), 0, true, .faddr 1 (T 1)⟩,
 ⟨(some 8), (some (6, false)), 0, true, .load none (T 7)⟩,
 ⟨(some 9), (some (6, false)), 0, true, .bin .gtr (T 8) (C (.int .i64 4))⟩,
 D 10 (.pick (T 6) (C (.bool true)) (T 9))])
 (.cond (T 10)
 (.seq (.region [
 D 11 (.load (some 2) (T 1)),
 D 12 (.build [(.int .i64 0), (.int .i64 0)] []),
 D 13 (.eqs false (.agg [.nu, .nu]) (T 11) (T 12)),
 D 2 (.mv (T 13))])
 .ret)
 .skip))
 (.seq (.drawn [
 ⟨(some 14), none, 0, false, .faddr 0 (T 1)⟩,
 ⟨(some 15), none, 1, false, .load none (T 14)⟩,
 ⟨(some 16), none, 0, false, .faddr 1 (T 1)⟩,
 ⟨(some 17), none, 4, false, .load none (T 16)⟩,
 ⟨(some 18), none, 12, false, .bin .sub (T 17) (C (.int .i64 1))⟩,
 ⟨(some 19), none, 28, false, .bin .mul (C (.int .i64 7)) (T 18)⟩,
 ⟨(some 20), none, 60, false, .bin .shl (C (.int .i64 1)) (T 19)⟩,
 ⟨(some 21), none, 127, false, .bin .geq (T 15) (T 20)⟩,
 ⟨(some 22), none, 255, false, .mv (T 21)⟩,
 ⟨(some 23), (some (22, true)), 511, false, .faddr 0 (T 1)⟩,
 ⟨(some 24), (some (22, true)), 1023, false, .load none (T 23)⟩,
 ⟨(some 25), (some (22, true)), 511, false, .faddr 1 (T 1)⟩,
 ⟨(some 26), (some (22, true)), 2559, false, .load none (T 25)⟩,
 ⟨(some 27), (some (22, true)), 6655, false, .bin .mul (C (.int .i64 7)) (T 26)⟩,
 ⟨(some 28), (some (22, true)), 14847, false, .bin .shl (C (.int .i64 1)) (T 27)⟩,
 ⟨(some 29), (some (22, true)), 32767, false, .bin .lss (T 24) (T 28)⟩,
 ⟨(some 30), none, 65535, false, .pick (T 22) (T 29) (C (.bool false))⟩,
 ⟨(some 2), none, 131071, false, .mv (T 30)⟩])
 .ret))), [.tmp 2]⟩
theorem ac46_ok : compFn Try.prog Try.f46 = some ac46 := by kernel_rfl
/-- winepress/winepressref24.grows -/
def ac47 : AFn := ⟨(.seq (.region [
 D 3 (.box true (T 0)),
 D 6 (.alloc true [(.int .i64 0), (.int .i64 0)]),
 D 7 (.mv (C (.bool false))),
 D 8 (.mv (C (.bool false)))])
 (.seq (.region [
 D 13 (.load (some 2) (T 3)),
 D 14 (.mv (T 1)),
 D 15 (.call 50 [(T 13), (T 14)]),
 D 12 (.mv (T 15)),
 D 16 (.ext (T 12) 0),
 D 17 (.ext (T 12) 1),
 D 18 (.ext (T 12) 2),
 D 9 (.alloc true [(.int .i64 0), (.int .i64 0)]),
 E (.store 2 (T 9) (T 16)),
 D 10 (.mv (T 17)),
 D 11 (.mv (T 18))])
 (.seq (.seq (.region [
 D 19 (.mv (T 11)),
 D 20 (.bin .neq (T 19) (C (.int .i64 0))),
 D 21 (.mv (T 20)),
 ⟨(some 22), (some (21, false)), 0, true, .faddr 0 (T 9)⟩,
 ⟨(some 23), (some (21, false)), 0, true, .load none (T 22)⟩,
 ⟨(some 24), (some (21, false)), 0, true, .mv (T 2)⟩,
 ⟨(some 25), (some (21, false)), 0, true, .bin .gtr (T 23) (T 24)⟩,
 D 26 (.pick (T 21) (C (.bool true)) (T 25)),
 D 27 (.mv (T 26)),
 ⟨(some 28), (some (27, false)), 0, true, .mv (T 10)⟩,
 ⟨(some 29), (some (27, false)), 0, true, .mv (T 28)⟩,
 ⟨(some 30), (some (29, true)), 0, true, .faddr 0 (T 9)⟩,
 ⟨(some 31), (some (29, true)), 0, true, .load none (T 30)⟩,
 ⟨(some 32), (some (29, true)), 0, true, .bin .lss (T 31) (C (.int .i64 1))⟩,
 ⟨(some 33), (some (27, false)), 0, true, .pick (T 29) (T 32) (C (.bool false))⟩,
 D 34 (.pick (T 27) (C (.bool true)) (T 33))])
 (.cond (T 34)
 (.seq (.region [
 D 35 (.load (some 2) (T 9)),
 E (.store 2 (T 6) (T 35)),
 D 7 (.mv (C (.bool false))),
 D 8 (.mv (C (.bool false)))])
 .ret)
 .skip))
 (.seq (.region [
 D 36 (.load (some 2) (T 9)),
 D 37 (.mv (T 10)),
 E (.store 2 (T 6) (T 36)),
 D 7 (.mv (T 37)),
 D 8 (.mv (C (.bool true)))])
 .ret)))), [.cell 6 (some 2), .tmp 7, .tmp 8]⟩
theorem ac47_ok : compFn Try.prog Try.f47 = some ac47 := by kernel_rfl
/-- winepress/varint.Step -/
def ac48 : AFn := ⟨(.seq (.region [
 D 2 (.box true (T 0)),
 D 4 (.alloc true [(.int .i64 0), (.int .i64 0)]),
 D 5 (.mv (C (.bool false))),
 D 6 (.mv (C (.int .i64 0)))])
 (.seq (.region [
 D 8 (.faddr 0 (T 2)),
 D 9 (.load none (T 8)),
 D 10 (.bin .shl (T 9) (C (.int .u64 7))),
 D 11 (.mv (T 1)),
 D 12 (.bin .and (T 11) (C (.int .u8 127))),
 D 13 (.conv .i64 (T 12)),
 D 14 (.bin .or (T 10) (T 13)),
 D 7 (.mv (T 14))])
 (.seq (.block 0 (.seq (.region [
 D 16 (.load (some 2) (T 2)),
 D 17 (.call 46 [(T 16)]),
 D 18 (.un .not (T 17)),
 D 15 (.mv (T 18))])
 (.cond (T 15)
 (.seq (.region [
 D 19 (.load (some 2) (T 4)),
 E (.store 2 (T 4) (T 19)),
 D 5 (.mv (C (.bool false))),
 D 6 (.mv (C (.int .i64 2)))])
 .ret)
 (.seq (.region [
 D 21 (.mv (T 1)),
 D 22 (.bin .eql (T 21) (C (.int .u8 128))),
 D 23 (.mv (T 22)),
 ⟨(some 24), (some (23, true)), 0, true, .faddr 1 (T 2)⟩,
 ⟨(some 25), (some (23, true)), 0, true, .load none (T 24)⟩,
 ⟨(some 26), (some (23, true)), 0, true, .bin .eql (T 25) (C (.int .i64 0))⟩,
 D 27 (.pick (T 23) (T 26) (C (.bool false))),
 D 20 (.mv (T 27))])
 (.cond (T 20)
 (.seq (.region [
 D 28 (.load (some 2) (T 4)),
 E (.store 2 (T 4) (T 28)),
 D 5 (.mv (C (.bool false))),
 D 6 (.mv (C (.int .i64 51)))])
 .ret)
 (.seq (.region [
 D 30 (.mv (T 7)),
 D 31 (.bin .gtr (T 30) (C (.int .i64 2147483647))),
 D 32 (.mv (T 31)),
 ⟨(some 33), (some (32, false)), 0, true, .faddr 1 (T 2)⟩,
 ⟨(some 34), (some (32, false)), 0, true, .load none (T 33)⟩,
 ⟨(some 35), (some (32, false)), 0, true, .bin .eql (T 34) (C (.int .i64 4))⟩,
 ⟨(some 36), (some (32, false)), 0, true, .mv (T 35)⟩,
 ⟨(some 37), (some (36, true)), 0, true, .mv (T 1)⟩,
 ⟨(some 38), (some (36, true)), 0, true, .bin .geq (T 37) (C (.int .u8 128))⟩,
 ⟨(some 39), (some (32, false)), 0, true, .pick (T 36) (T 38) (C (.bool false))⟩,
 D 40 (.pick (T 32) (C (.bool true)) (T 39)),
 D 29 (.mv (T 40))])
 (.cond (T 29)
 (.seq (.region [
 D 41 (.load (some 2) (T 4)),
 E (.store 2 (T 4) (T 41)),
 D 5 (.mv (C (.bool false))),
 D 6 (.mv (C (.int .i64 52)))])
 .ret)
 .skip)))))))
 (.seq (.region [
 D 42 (.mv (T 7)),
 D 43 (.faddr 1 (T 2)),
 D 44 (.load none (T 43)),
 D 45 (.bin .add (T 44) (C (.int .i64 1))),
 D 46 (.build [(.int .i64 0), (.int .i64 0)] [(0, 1, (T 42)), (1, 1, (T 45))]),
 D 47 (.mv (T 1)),
 D 48 (.bin .lss (T 47) (C (.int .u8 128))),
 E (.store 2 (T 4) (T 46)),
 D 5 (.mv (T 48)),
 D 6 (.mv (C (.int .i64 0)))])
 .ret)))), [.cell 4 (some 2), .tmp 5, .tmp 6]⟩
theorem ac48_ok : compFn Try.prog Try.f48 = some ac48 := by kernel_rfl
/-- a loop of slices.Reverse[[]byte,byte]; it keeps [2, 3, 0] -/
def lb49_0 : ACode := (.seq (.seq (.region [
 D 7 (.mv (T 2)),
 D 8 (.mv (T 3)),
 D 9 (.bin .lss (T 7) (T 8))])
 (.cond (T 9)
 .skip
 (.exit 0)))
 (.seq (.block 1 (.drawn [
 ⟨(some 14), none, 0, false, .mv (T 0)⟩,
 ⟨(some 15), none, 0, false, .mv (T 2)⟩,
 ⟨(some 16), none, 0, false, .mv (T 0)⟩,
 ⟨(some 17), none, 0, false, .mv (T 3)⟩,
 ⟨(some 18), none, 0, false, .mv (T 0)⟩,
 ⟨(some 19), none, 0, false, .mv (T 3)⟩,
 ⟨(some 20), none, 48, false, .iaddr 1 (T 18) (T 19)⟩,
 ⟨(some 21), none, 112, false, .load none (T 20)⟩,
 ⟨(some 22), none, 0, false, .mv (T 0)⟩,
 ⟨(some 23), none, 0, false, .mv (T 2)⟩,
 ⟨(some 24), none, 768, false, .iaddr 1 (T 22) (T 23)⟩,
 ⟨(some 25), none, 1792, false, .load none (T 24)⟩,
 ⟨(some 26), none, 4083, false, .iaddr 1 (T 14) (T 15)⟩,
 ⟨none, none, 8179, true, .store 1 (T 26) (T 21)⟩,
 ⟨(some 27), none, 16383, false, .iaddr 1 (T 16) (T 17)⟩,
 ⟨none, none, 32767, true, .store 1 (T 27) (T 25)⟩]))
 (.region [
 D 10 (.mv (T 2)),
 D 11 (.bin .add (T 10) (C (.int .i64 1))),
 D 12 (.mv (T 3)),
 D 13 (.bin .sub (T 12) (C (.int .i64 1))),
 D 2 (.mv (T 11)),
 D 3 (.mv (T 13))])))
/-- slices.Reverse[[]byte,byte] -/
def ac49 : AFn := ⟨(.seq (.region [
 D 4 (.mv (T 0)),
 D 5 (.len (T 4)),
 D 6 (.bin .sub (T 5) (C (.int .i64 1))),
 D 2 (.mv (C (.int .i64 0))),
 D 3 (.mv (T 6))])
 (.block 0 (.loop [2, 3, 0] lb49_0))), []⟩
theorem ac49_ok : compFn Try.prog Try.f49 = some ac49 := by kernel_rfl
/-- winepress/winepressref05.Step -/
def ac50 : AFn := ⟨(.seq (.region [
 D 2 (.box true (T 0)),
 D 4 (.alloc true [(.int .i64 0), (.int .i64 0)]),
 D 5 (.mv (C (.bool false))),
 D 6 (.mv (C (.int .i64 0)))])
 (.seq (.seq (.region [
 D 8 (.load (some 2) (T 2)),
 D 9 (.call 51 [(T 8)]),
 D 10 (.un .not (T 9))])
 (.cond (T 10)
 (.seq (.region [
 D 11 (.build [(.int .i64 0), (.int .i64 0)] []),
 E (.store 2 (T 4) (T 11)),
 D 5 (.mv (C (.bool false))),
 D 6 (.mv (C (.int .i64 2)))])
 .ret)
 .skip))
 (.seq (.seq (.region [
 D 12 (.mv (T 1)),
 D 13 (.bin .eql (T 12) (C (.int .u8 128))),
 D 14 (.mv (T 13)),
 ⟨(some 15), (some (14, true)), 0, true, .faddr 1 (T 2)⟩,
 ⟨(some 16), (some (14, true)), 0, true, .load none (T 15)⟩,
 ⟨(some 17), (some (14, true)), 0, true, .bin .eql (T 16) (C (.int .i64 0))⟩,
 D 18 (.pick (T 14) (T 17) (C (.bool false)))])
 (.cond (T 18)
 (.seq (.region [
 D 19 (.build [(.int .i64 0), (.int .i64 0)] []),
 E (.store 2 (T 4) (T 19)),
 D 5 (.mv (C (.bool false))),
 D 6 (.mv (C (.int .i64 51)))])
 .ret)
 .skip))
 (.seq (.region [
 D 20 (.faddr 0 (T 2)),
 D 21 (.load none (T 20)),
 D 22 (.bin .mul (C (.int .i64 128)) (T 21)),
 D 23 (.mv (T 1)),
 D 24 (.bin .rem (T 23) (C (.int .u8 128))),
 D 25 (.conv .i64 (T 24)),
 D 26 (.bin .add (T 22) (T 25)),
 D 7 (.mv (T 26))])
 (.seq (.seq (.region [
 D 27 (.mv (T 7)),
 D 28 (.bin .gtr (T 27) (C (.int .i64 2147483647))),
 D 29 (.mv (T 28)),
 ⟨(some 30), (some (29, false)), 0, true, .faddr 1 (T 2)⟩,
 ⟨(some 31), (some (29, false)), 0, true, .load none (T 30)⟩,
 ⟨(some 32), (some (29, false)), 0, true, .bin .eql (T 31) (C (.int .i64 4))⟩,
 ⟨(some 33), (some (29, false)), 0, true, .mv (T 32)⟩,
 ⟨(some 34), (some (33, true)), 0, true, .mv (T 1)⟩,
 ⟨(some 35), (some (33, true)), 0, true, .bin .geq (T 34) (C (.int .u8 128))⟩,
 ⟨(some 36), (some (29, false)), 0, true, .pick (T 33) (T 35) (C (.bool false))⟩,
 D 37 (.pick (T 29) (C (.bool true)) (T 36))])
 (.cond (T 37)
 (.seq (.region [
 D 38 (.build [(.int .i64 0), (.int .i64 0)] []),
 E (.store 2 (T 4) (T 38)),
 D 5 (.mv (C (.bool false))),
 D 6 (.mv (C (.int .i64 52)))])
 .ret)
 .skip))
 (.seq (.region [
 D 39 (.mv (T 7)),
 D 40 (.faddr 1 (T 2)),
 D 41 (.load none (T 40)),
 D 42 (.bin .add (T 41) (C (.int .i64 1))),
 D 43 (.build [(.int .i64 0), (.int .i64 0)] [(0, 1, (T 39)), (1, 1, (T 42))]),
 D 44 (.mv (T 1)),
 D 45 (.bin .lss (T 44) (C (.int .u8 128))),
 E (.store 2 (T 4) (T 43)),
 D 5 (.mv (T 45)),
 D 6 (.mv (C (.int .i64 0)))])
 .ret)))))), [.cell 4 (some 2), .tmp 5, .tmp 6]⟩
theorem ac50_ok : compFn Try.prog Try.f50 = some ac50 := by kernel_rfl
/-- winepress/winepressref05.Valid -/
def ac51 : AFn := ⟨(.seq (.region [
 D 1 (.box true (T 0)),
 D 2 (.mv (C (.bool false)))])
 (.seq (.seq (.region [
 D 3 (.faddr 1 (T 1)),
 D 4 (.load none (T 3)),
 D 5 (.bin .eql (T 4) (C (.int .i64 0)))])
 (.cond (T 5)
 (.seq (.region [
 D 6 (.faddr 0 (T 1)),
 D 7 (.load none (T 6)),
 D 8 (.bin .eql (T 7) (C (.int .i64 0))),
 D 2 (.mv (T 8))])
 .ret)
 .skip))
 (.seq (.drawn [
 ⟨(some 9), none, 0, false, .faddr 1 (T 1)⟩,
 ⟨(some 10), none, 1, true, .load none (T 9)⟩,
 ⟨(some 11), none, 3, false, .bin .geq (T 10) (C (.int .i64 1))⟩,
 ⟨(some 12), none, 7, false, .mv (T 11)⟩,
 ⟨(some 13), (some (12, true)), 15, false, .faddr 1 (T 1)⟩,
 ⟨(some 14), (some (12, true)), 31, true, .load none (T 13)⟩,
 ⟨(some 15), (some (12, true)), 63, false, .bin .leq (T 14) (C (.int .i64 4))⟩,
 ⟨(some 16), none, 127, false, .pick (T 12) (T 15) (C (.bool false))⟩,
 ⟨(some 17), none, 255, false, .mv (T 16)⟩,
 ⟨(some 18), (some (17, true)), 511, false, .faddr 0 (T 1)⟩,
 ⟨(some 19), (some (17, true)), 1023, false, .load none (T 18)⟩,
 ⟨(some 20), (some (17, true)), 511, false, .faddr 1 (T 1)⟩,
 ⟨(some 21), (some (17, true)), 2559, false, .load none (T 20)⟩,
 ⟨(some 22), (some (17, true)), 6655, false, .bin .sub (T 21) (C (.int .i64 1))⟩,
 ⟨(some 23), (some (17, true)), 14847, false, .call 52 [(T 22)]⟩,
 ⟨(some 24), (some (17, true)), 32767, false, .bin .geq (T 19) (T 23)⟩,
 ⟨(some 25), none, 65535, false, .pick (T 17) (T 24) (C (.bool false))⟩,
 ⟨(some 26), none, 131071, false, .mv (T 25)⟩,
 ⟨(some 27), (some (26, true)), 262143, false, .faddr 0 (T 1)⟩,
 ⟨(some 28), (some (26, true)), 524287, false, .load none (T 27)⟩,
 ⟨(some 29), (some (26, true)), 262143, false, .faddr 1 (T 1)⟩,
 ⟨(some 30), (some (26, true)), 1310719, false, .load none (T 29)⟩,
 ⟨(some 31), (some (26, true)), 3407871, false, .call 52 [(T 30)]⟩,
 ⟨(some 32), (some (26, true)), 8388607, false, .bin .lss (T 28) (T 31)⟩,
 ⟨(some 33), none, 16777215, false, .pick (T 26) (T 32) (C (.bool false))⟩,
 ⟨(some 2), none, 33554431, false, .mv (T 33)⟩])
 .ret))), [.tmp 2]⟩
theorem ac51_ok : compFn Try.prog Try.f51 = some ac51 := by kernel_rfl
/-- a loop of winepress/winepressref05.power; it keeps [3, 4, 0] -/
def lb52_0 : ACode := (.seq (.seq (.region [
 D 5 (.mv (T 4)),
 D 6 (.mv (T 0)),
 D 7 (.bin .lss (T 5) (T 6))])
 (.cond (T 7)
 .skip
 (.exit 0)))
 (.seq (.block 1 (.region [
 D 10 (.mv (T 3)),
 D 11 (.bin .mul (T 10) (C (.int .i64 128))),
 D 3 (.mv (T 11))]))
 (.region [
 D 8 (.mv (T 4)),
 D 9 (.bin .add (T 8) (C (.int .i64 1))),
 D 4 (.mv (T 9))])))
/-- winepress/winepressref05.power -/
def ac52 : AFn := ⟨(.seq (.region [
 D 2 (.mv (C (.int .i64 0)))])
 (.seq (.region [
 D 3 (.mv (C (.int .i64 1)))])
 (.seq (.seq (.region [
 D 4 (.mv (C (.int .i64 0)))])
 (.block 0 (.loop [3, 4, 0] lb52_0)))
 (.seq (.region [
 D 12 (.mv (T 3)),
 D 2 (.mv (T 12))])
 .ret)))), [.tmp 2]⟩
theorem ac52_ok : compFn Try.prog Try.f52 = some ac52 := by kernel_rfl
def env0L : List (Nat × AFn) := [(3, ac3), (4, ac4), (5, ac5), (6, ac6), (7, ac7), (8, ac8), (9, ac9), (10, ac10), (11, ac11), (12, ac12), (13, ac13), (14, ac14), (15, ac15), (16, ac16), (17, ac17), (18, ac18), (19, ac19), (21, ac21), (22, ac22), (23, ac23), (24, ac24), (25, ac25), (26, ac26), (27, ac27), (28, ac28), (29, ac29), (30, ac30), (31, ac31), (32, ac32), (33, ac33), (34, ac34), (35, ac35), (36, ac36), (37, ac37), (38, ac38), (39, ac39), (40, ac40), (41, ac41), (42, ac42), (43, ac43), (44, ac44), (45, ac45), (46, ac46), (47, ac47), (48, ac48), (49, ac49), (50, ac50), (51, ac51), (52, ac52)]
def env0 : Env := .base env0L
theorem env0_ok : EnvOk Try.prog env0 :=
 EnvOk.cons Try.func3 ac3_ok (of_decide_eq_true (by kernel_rfl)) <|
 EnvOk.cons Try.func4 ac4_ok (of_decide_eq_true (by kernel_rfl)) <|
 EnvOk.cons Try.func5 ac5_ok (of_decide_eq_true (by kernel_rfl)) <|
 EnvOk.cons Try.func6 ac6_ok (of_decide_eq_true (by kernel_rfl)) <|
 EnvOk.cons Try.func7 ac7_ok (of_decide_eq_true (by kernel_rfl)) <|
 EnvOk.cons Try.func8 ac8_ok (of_decide_eq_true (by kernel_rfl)) <|
 EnvOk.cons Try.func9 ac9_ok (of_decide_eq_true (by kernel_rfl)) <|
 EnvOk.cons Try.func10 ac10_ok (of_decide_eq_true (by kernel_rfl)) <|
 EnvOk.cons Try.func11 ac11_ok (of_decide_eq_true (by kernel_rfl)) <|
 EnvOk.cons Try.func12 ac12_ok (of_decide_eq_true (by kernel_rfl)) <|
 EnvOk.cons Try.func13 ac13_ok (of_decide_eq_true (by kernel_rfl)) <|
 EnvOk.cons Try.func14 ac14_ok (of_decide_eq_true (by kernel_rfl)) <|
 EnvOk.cons Try.func15 ac15_ok (of_decide_eq_true (by kernel_rfl)) <|
 EnvOk.cons Try.func16 ac16_ok (of_decide_eq_true (by kernel_rfl)) <|
 EnvOk.cons Try.func17 ac17_ok (of_decide_eq_true (by kernel_rfl)) <|
 EnvOk.cons Try.func18 ac18_ok (of_decide_eq_true (by kernel_rfl)) <|
 EnvOk.cons Try.func19 ac19_ok (of_decide_eq_true (by kernel_rfl)) <|
 EnvOk.cons Try.func21 ac21_ok (of_decide_eq_true (by kernel_rfl)) <|
 EnvOk.cons Try.func22 ac22_ok (of_decide_eq_true (by kernel_rfl)) <|
 EnvOk.cons Try.func23 ac23_ok (of_decide_eq_true (by kernel_rfl)) <|
 EnvOk.cons Try.func24 ac24_ok (of_decide_eq_true (by kernel_rfl)) <|
 EnvOk.cons Try.func25 ac25_ok (of_decide_eq_true (by kernel_rfl)) <|
 EnvOk.cons Try.func26 ac26_ok (of_decide_eq_true (by kernel_rfl)) <|
 EnvOk.cons Try.func27 ac27_ok (of_decide_eq_true (by kernel_rfl)) <|
 EnvOk.cons Try.func28 ac28_ok (of_decide_eq_true (by kernel_rfl)) <|
 EnvOk.cons Try.func29 ac29_ok (of_decide_eq_true (by kernel_rfl)) <|
 EnvOk.cons Try.func30 ac30_ok (of_decide_eq_true (by kernel_rfl)) <|
 EnvOk.cons Try.func31 ac31_ok (of_decide_eq_true (by kernel_rfl)) <|
 EnvOk.cons Try.func32 ac32_ok (of_decide_eq_true (by kernel_rfl)) <|
 EnvOk.cons Try.func33 ac33_ok (of_decide_eq_true (by kernel_rfl)) <|
 EnvOk.cons Try.func34 ac34_ok (of_decide_eq_true (by kernel_rfl)) <|
 EnvOk.cons Try.func35 ac35_ok (of_decide_eq_true (by kernel_rfl)) <|
 EnvOk.cons Try.func36 ac36_ok (of_decide_eq_true (by kernel_rfl)) <|
 EnvOk.cons Try.func37 ac37_ok (of_decide_eq_true (by kernel_rfl)) <|
 EnvOk.cons Try.func38 ac38_ok (of_decide_eq_true (by kernel_rfl)) <|
 EnvOk.cons Try.func39 ac39_ok (of_decide_eq_true (by kernel_rfl)) <|
 EnvOk.cons Try.func40 ac40_ok (of_decide_eq_true (by kernel_rfl)) <|
 EnvOk.cons Try.func41 ac41_ok (of_decide_eq_true (by kernel_rfl)) <|
 EnvOk.cons Try.func42 ac42_ok (of_decide_eq_true (by kernel_rfl)) <|
 EnvOk.cons Try.func43 ac43_ok (of_decide_eq_true (by kernel_rfl)) <|
 EnvOk.cons Try.func44 ac44_ok (of_decide_eq_true (by kernel_rfl)) <|
 EnvOk.cons Try.func45 ac45_ok (of_decide_eq_true (by kernel_rfl)) <|
 EnvOk.cons Try.func46 ac46_ok (of_decide_eq_true (by kernel_rfl)) <|
 EnvOk.cons Try.func47 ac47_ok (of_decide_eq_true (by kernel_rfl)) <|
 EnvOk.cons Try.func48 ac48_ok (of_decide_eq_true (by kernel_rfl)) <|
 EnvOk.cons Try.func49 ac49_ok (of_decide_eq_true (by kernel_rfl)) <|
 EnvOk.cons Try.func50 ac50_ok (of_decide_eq_true (by kernel_rfl)) <|
 EnvOk.cons Try.func51 ac51_ok (of_decide_eq_true (by kernel_rfl)) <|
 EnvOk.cons Try.func52 ac52_ok (of_decide_eq_true (by kernel_rfl)) <|
 EnvOk.nil
theorem mixed : Try.prog.follows .mixedOrders = true := by kernel_rfl
def env1L : List (Nat × AFn) := (20, smFn) :: env0L
def env1 : Env := .base env1L
theorem env1_or : EnvOr Try.prog env1 :=
 EnvOr.cons Try.func20 (of_decide_eq_true (by kernel_rfl)) (by kernel_rfl) sm_or <|
 EnvOr.of env0_ok
theorem wakes7 : isTrue (run env1 20000 (.func 7) [] ⟨[], 0, [], []⟩) = true := by kernel_rfl
def env : Env := .base ((7, constFn (.bool true)) :: env1L)
theorem env_or : EnvOr Try.prog env :=
 EnvOr.cons Try.func7 (of_decide_eq_true (by kernel_rfl)) (by kernel_rfl) (constTrue_ok2 env1_or mixed Try.func7 ac7_ok rfl wakes7) <|
 env1_or
theorem fn20 : env.fn 20 = some (smFn) := rfl
theorem fn3 : env.fn 3 = some ac3 := rfl
theorem fn4 : env.fn 4 = some ac4 := rfl
theorem fn5 : env.fn 5 = some ac5 := rfl
theorem fn6 : env.fn 6 = some ac6 := rfl
theorem fn7 : env.fn 7 = some (constFn (.bool true)) := rfl
theorem fn8 : env.fn 8 = some ac8 := rfl
theorem fn9 : env.fn 9 = some ac9 := rfl
theorem fn10 : env.fn 10 = some ac10 := rfl
theorem fn11 : env.fn 11 = some ac11 := rfl
theorem fn12 : env.fn 12 = some ac12 := rfl
theorem fn13 : env.fn 13 = some ac13 := rfl
theorem fn14 : env.fn 14 = some ac14 := rfl
theorem fn15 : env.fn 15 = some ac15 := rfl
theorem fn16 : env.fn 16 = some ac16 := rfl
theorem fn17 : env.fn 17 = some ac17 := rfl
theorem fn18 : env.fn 18 = some ac18 := rfl
theorem fn19 : env.fn 19 = some ac19 := rfl
theorem fn21 : env.fn 21 = some ac21 := rfl
theorem fn22 : env.fn 22 = some ac22 := rfl
theorem fn23 : env.fn 23 = some ac23 := rfl
theorem fn24 : env.fn 24 = some ac24 := rfl
theorem fn25 : env.fn 25 = some ac25 := rfl
theorem fn26 : env.fn 26 = some ac26 := rfl
theorem fn27 : env.fn 27 = some ac27 := rfl
theorem fn28 : env.fn 28 = some ac28 := rfl
theorem fn29 : env.fn 29 = some ac29 := rfl
theorem fn30 : env.fn 30 = some ac30 := rfl
theorem fn31 : env.fn 31 = some ac31 := rfl
theorem fn32 : env.fn 32 = some ac32 := rfl
theorem fn33 : env.fn 33 = some ac33 := rfl
theorem fn34 : env.fn 34 = some ac34 := rfl
theorem fn35 : env.fn 35 = some ac35 := rfl
theorem fn36 : env.fn 36 = some ac36 := rfl
theorem fn37 : env.fn 37 = some ac37 := rfl
theorem fn38 : env.fn 38 = some ac38 := rfl
theorem fn39 : env.fn 39 = some ac39 := rfl
theorem fn40 : env.fn 40 = some ac40 := rfl
theorem fn41 : env.fn 41 = some ac41 := rfl
theorem fn42 : env.fn 42 = some ac42 := rfl
theorem fn43 : env.fn 43 = some ac43 := rfl
theorem fn44 : env.fn 44 = some ac44 := rfl
theorem fn45 : env.fn 45 = some ac45 := rfl
theorem fn46 : env.fn 46 = some ac46 := rfl
theorem fn47 : env.fn 47 = some ac47 := rfl
theorem fn48 : env.fn 48 = some ac48 := rfl
theorem fn49 : env.fn 49 = some ac49 := rfl
theorem fn50 : env.fn 50 = some ac50 := rfl
theorem fn51 : env.fn 51 = some ac51 := rfl
theorem fn52 : env.fn 52 = some ac52 := rfl
end ArEnv
end Go.Proofs.Ytpjjkmfidghkjaa
