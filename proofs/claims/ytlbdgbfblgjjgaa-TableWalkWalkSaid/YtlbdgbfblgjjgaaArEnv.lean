/-
 THE TRANSLATED FUNCTIONS, printed by a program, and that they are the program's functions. Conditions: none.
-/
import Derived.Test.YtlbdgbfblgjjgaaProg
import Derived.Test.YtlbdgbfblgjjgaaAOr
import Derived.KernelRfl
namespace Go.Proofs.Ytlbdgbfblgjjgaa
namespace ArEnv
open Go AM
abbrev T (n : Nat) : Operand := .tmp n
abbrev C (v : Value) : Operand := .const v
abbrev D (d : Nat) (o : AOp) : AOper := ⟨some d, none, 0, true, o⟩
abbrev E (o : AOp) : AOper := ⟨none, none, 0, true, o⟩
/-- a loop of winepress/winepresslaw22.TableWalkWalk; it keeps [18, 16, 0, 20] -/
def lb10_0 : ACode := (.seq (.seq (.region [
 D 133 (.mv (T 20)),
 D 134 (.mv (T 0)),
 D 135 (.len (T 134)),
 D 136 (.bin .leq (T 133) (T 135))])
 (.cond (T 136)
 .skip
 (.exit 0)))
 (.seq (.block 1 (.seq (.region [
 D 140 (.mv (T 16)),
 D 141 (.call 29 [(T 140)]),
 D 139 (.mv (T 141)),
 D 142 (.ext (T 139) 0),
 D 143 (.ext (T 139) 1),
 D 21 (.mv (T 142)),
 D 22 (.mv (T 143))])
 (.seq (.region [
 D 145 (.mv (T 18)),
 D 146 (.call 37 [(T 145)]),
 D 144 (.mv (T 146)),
 D 147 (.ext (T 144) 0),
 D 148 (.ext (T 144) 1),
 D 23 (.mv (T 147)),
 D 24 (.mv (T 148))])
 (.seq (.region [
 D 149 (.mv (T 21)),
 D 150 (.mv (T 23)),
 D 151 (.bin .neq (T 149) (T 150)),
 D 152 (.mv (T 151)),
 ⟨(some 153), (some (152, false)), 0, true, .mv (T 22)⟩,
 ⟨(some 154), (some (152, false)), 0, true, .mv (T 24)⟩,
 ⟨(some 155), (some (152, false)), 0, true, .eqs true .bool (T 153) (T 154)⟩,
 D 156 (.pick (T 152) (C (.bool true)) (T 155)),
 D 157 (.mv (T 156)),
 ⟨(some 158), (some (157, false)), 0, true, .mv (T 16)⟩,
 ⟨(some 159), (some (157, false)), 0, true, .call 28 [(T 158)]⟩,
 ⟨(some 160), (some (157, false)), 0, true, .mv (T 18)⟩,
 ⟨(some 161), (some (157, false)), 0, true, .call 38 [(T 160)]⟩,
 ⟨(some 162), (some (157, false)), 0, true, .bin .neq (T 159) (T 161)⟩,
 D 163 (.pick (T 157) (C (.bool true)) (T 162))])
 (.cond (T 163)
 (.seq (.region [
 D 6 (.mv (C (.bool false)))])
 .ret)
 .skip)))))
 (.region [
 D 137 (.mv (T 20)),
 D 138 (.bin .add (T 137) (C (.int .i64 1))),
 D 20 (.mv (T 138))])))
/-- winepress/winepresslaw22.TableWalkWalk -/
def ac10 : AFn := ⟨(.seq (.region [
 D 6 (.mv (C (.bool false)))])
 (.seq (.seq (.region [
 D 25 (.mv (T 0)),
 D 26 (.len (T 25)),
 D 27 (.bin .eql (T 26) (C (.int .i64 0))),
 D 28 (.mv (T 27)),
 ⟨(some 29), (some (28, false)), 0, true, .mv (T 0)⟩,
 ⟨(some 30), (some (28, false)), 0, true, .len (T 29)⟩,
 ⟨(some 31), (some (28, false)), 0, true, .bin .gtr (T 30) (C (.int .i64 60))⟩,
 D 32 (.pick (T 28) (C (.bool true)) (T 31)),
 D 33 (.mv (T 32)),
 ⟨(some 34), (some (33, false)), 0, true, .mv (T 1)⟩,
 ⟨(some 35), (some (33, false)), 0, true, .bin .lss (T 34) (C (.int .i64 1))⟩,
 D 36 (.pick (T 33) (C (.bool true)) (T 35)),
 D 37 (.mv (T 36)),
 ⟨(some 38), (some (37, false)), 0, true, .mv (T 1)⟩,
 ⟨(some 39), (some (37, false)), 0, true, .mv (T 0)⟩,
 ⟨(some 40), (some (37, false)), 0, true, .len (T 39)⟩,
 ⟨(some 41), (some (37, false)), 0, true, .bin .gtr (T 38) (T 40)⟩,
 D 42 (.pick (T 37) (C (.bool true)) (T 41)),
 D 43 (.mv (T 42)),
 ⟨(some 44), (some (43, false)), 0, true, .mv (T 2)⟩,
 ⟨(some 45), (some (43, false)), 0, true, .bin .lss (T 44) (C (.int .i64 1))⟩,
 D 46 (.pick (T 43) (C (.bool true)) (T 45)),
 D 47 (.mv (T 46)),
 ⟨(some 48), (some (47, false)), 0, true, .mv (T 2)⟩,
 ⟨(some 49), (some (47, false)), 0, true, .bin .gtr (T 48) (C (.int .i64 100))⟩,
 D 50 (.pick (T 47) (C (.bool true)) (T 49))])
 (.cond (T 50)
 (.seq (.region [
 D 51 (.call 11 []),
 D 6 (.mv (T 51))])
 .ret)
 .skip))
 (.seq (.region [
 D 53 (.mv (T 0)),
 D 54 (.call 25 [(T 53)]),
 D 52 (.mv (T 54)),
 D 55 (.ext (T 52) 0),
 D 56 (.ext (T 52) 1),
 D 57 (.ext (T 52) 2),
 D 8 (.alloc true [(.int .i64 0), (.int .i64 0)]),
 D 9 (.alloc true [(.int .i64 0), (.int .i64 0)]),
 D 7 (.mv (T 55)),
 E (.store 2 (T 8) (T 56)),
 E (.store 2 (T 9) (T 57))])
 (.seq (.region [
 D 59 (.mv (T 0)),
 D 60 (.len (T 59)),
 D 61 (.mv (T 0)),
 D 62 (.len (T 61)),
 D 63 (.mv (T 2)),
 D 64 (.bin .quo (T 62) (T 63)),
 D 65 (.bin .mul (C (.int .i64 1024)) (T 64)),
 D 66 (.bin .add (T 60) (T 65)),
 D 67 (.bin .add (T 66) (C (.int .i64 1))),
 D 68 (.call 12 [(T 67)]),
 D 58 (.mv (T 68)),
 D 69 (.ext (T 58) 0),
 D 70 (.ext (T 58) 1),
 D 10 (.mv (T 69)),
 D 11 (.mv (T 70))])
 (.seq (.seq (.region [
 D 71 (.mv (T 7)),
 D 72 (.eqs false .ptr (T 71) (C (.pointer none))),
 D 73 (.mv (T 72)),
 ⟨(some 74), (some (73, false)), 0, true, .mv (T 11)⟩,
 ⟨(some 75), (some (73, false)), 0, true, .bin .neq (T 74) (C (.int .i64 0))⟩,
 D 76 (.pick (T 73) (C (.bool true)) (T 75)),
 D 77 (.mv (T 76)),
 ⟨(some 78), (some (77, false)), 0, true, .mv (T 10)⟩,
 ⟨(some 79), (some (77, false)), 0, true, .eqs false .ptr (T 78) (C (.pointer none))⟩,
 D 80 (.pick (T 77) (C (.bool true)) (T 79))])
 (.cond (T 80)
 (.seq (.region [
 D 6 (.mv (C (.bool false)))])
 .ret)
 .skip))
 (.seq (.region [
 D 82 (.mv (T 10)),
 D 83 (.mv (T 0)),
 D 84 (.len (T 83)),
 D 85 (.call 14 [(T 82), (T 84)]),
 D 81 (.mv (T 85)),
 D 86 (.ext (T 81) 0),
 D 87 (.ext (T 81) 1),
 D 12 (.alloc true [(.int .i64 0), (.int .i64 0)]),
 E (.store 2 (T 12) (T 86)),
 D 13 (.mv (T 87))])
 (.seq (.region [
 D 89 (.mv (T 10)),
 D 90 (.mv (T 0)),
 D 91 (.len (T 90)),
 D 92 (.mv (T 2)),
 D 93 (.bin .quo (T 91) (T 92)),
 D 94 (.bin .mul (C (.int .i64 1024)) (T 93)),
 D 95 (.call 14 [(T 89), (T 94)]),
 D 88 (.mv (T 95)),
 D 96 (.ext (T 88) 0),
 D 97 (.ext (T 88) 1),
 D 14 (.alloc true [(.int .i64 0), (.int .i64 0)]),
 E (.store 2 (T 14) (T 96)),
 D 15 (.mv (T 97))])
 (.seq (.region [
 D 98 (.mv (T 10)),
 D 99 (.load (some 2) (T 12)),
 D 100 (.mv (T 0)),
 D 101 (.call 16 [(T 98), (T 99), (C (.int .i64 0)), (T 100)])])
 (.seq (.region [
 D 103 (.mv (T 7)),
 D 104 (.load (some 2) (T 8)),
 D 105 (.mv (T 1)),
 D 106 (.load (some 2) (T 9)),
 D 107 (.call 18 [(T 103), (T 104), (T 105), (T 106)]),
 D 102 (.mv (T 107)),
 D 108 (.ext (T 102) 0),
 D 109 (.ext (T 102) 1),
 D 16 (.mv (T 108)),
 D 17 (.mv (T 109))])
 (.seq (.region [
 D 111 (.mv (T 10)),
 D 112 (.load (some 2) (T 12)),
 D 113 (.mv (T 1)),
 D 114 (.load (some 2) (T 14)),
 D 115 (.mv (T 2)),
 D 116 (.call 34 [(T 111), (T 112), (T 113), (T 114), (T 115)]),
 D 110 (.mv (T 116)),
 D 117 (.ext (T 110) 0),
 D 118 (.ext (T 110) 1),
 D 18 (.mv (T 117)),
 D 19 (.mv (T 118))])
 (.seq (.seq (.region [
 D 119 (.mv (T 17)),
 D 120 (.bin .neq (T 119) (C (.int .i64 0))),
 D 121 (.mv (T 120)),
 ⟨(some 122), (some (121, false)), 0, true, .mv (T 19)⟩,
 ⟨(some 123), (some (121, false)), 0, true, .bin .neq (T 122) (C (.int .i64 0))⟩,
 D 124 (.pick (T 121) (C (.bool true)) (T 123)),
 D 125 (.mv (T 124)),
 ⟨(some 126), (some (125, false)), 0, true, .mv (T 16)⟩,
 ⟨(some 127), (some (125, false)), 0, true, .eqs false .ptr (T 126) (C (.pointer none))⟩,
 D 128 (.pick (T 125) (C (.bool true)) (T 127)),
 D 129 (.mv (T 128)),
 ⟨(some 130), (some (129, false)), 0, true, .mv (T 18)⟩,
 ⟨(some 131), (some (129, false)), 0, true, .eqs false .ptr (T 130) (C (.pointer none))⟩,
 D 132 (.pick (T 129) (C (.bool true)) (T 131))])
 (.cond (T 132)
 (.seq (.region [
 D 6 (.mv (C (.bool false)))])
 .ret)
 .skip))
 (.seq (.seq (.region [
 D 20 (.mv (C (.int .i64 0)))])
 (.block 0 (.loop [18, 16, 0, 20] lb10_0)))
 (.seq (.region [
 D 164 (.mv (T 16)),
 D 165 (.call 26 [(T 164)]),
 D 166 (.mv (T 18)),
 D 167 (.call 35 [(T 166)]),
 D 168 (.eqs false .bool (T 165) (T 167)),
 D 169 (.mv (T 168)),
 ⟨(some 170), (some (169, true)), 0, true, .mv (T 16)⟩,
 ⟨(some 171), (some (169, true)), 0, true, .call 27 [(T 170)]⟩,
 ⟨(some 172), (some (169, true)), 0, true, .mv (T 18)⟩,
 ⟨(some 173), (some (169, true)), 0, true, .call 36 [(T 172)]⟩,
 ⟨(some 174), (some (169, true)), 0, true, .bin .leq (T 171) (T 173)⟩,
 D 175 (.pick (T 169) (T 174) (C (.bool false))),
 D 176 (.mv (T 175)),
 ⟨(some 177), (some (176, true)), 0, true, .call 11 []⟩,
 D 178 (.pick (T 176) (T 177) (C (.bool false))),
 D 6 (.mv (T 178))])
 .ret))))))))))))), [.tmp 6]⟩
theorem ac10_ok : compFn Try.prog Try.f10 = some ac10 := by kernel_rfl
/-- a loop of winepress/winepresslaw22.wakes; it keeps [4, 11, 13, 15, 17, 3, 1, 2, 19, 18] -/
def lb11_0 : ACode := (.seq (.seq (.region [
 D 107 (.mv (T 19)),
 D 108 (.bin .lss (T 107) (C (.int .i64 7)))])
 (.cond (T 108)
 .skip
 (.exit 2)))
 (.seq (.block 3 (.seq (.region [
 D 112 (.mv (T 4)),
 D 113 (.call 29 [(T 112)]),
 D 111 (.mv (T 113)),
 D 114 (.ext (T 111) 0),
 D 115 (.ext (T 111) 1),
 D 20 (.mv (T 114)),
 D 21 (.mv (T 115))])
 (.seq (.seq (.region [
 D 116 (.mv (T 21)),
 D 117 (.mv (T 19)),
 D 118 (.bin .lss (T 117) (C (.int .i64 6))),
 D 119 (.eqs true .bool (T 116) (T 118))])
 (.cond (T 119)
 (.seq (.region [
 D 0 (.mv (C (.bool false)))])
 .ret)
 .skip))
 (.seq (.region [
 D 120 (.mv (T 21))])
 (.cond (T 120)
 (.region [
 D 121 (.mv (T 18)),
 D 122 (.mv (T 20)),
 D 123 (.bslice true 1 1 [(.int .u8 0)] [(0, 1, (T 122))]),
 D 124 (.append true 1 (T 121) (T 123)),
 D 18 (.mv (T 124))])
 .skip)))))
 (.region [
 D 109 (.mv (T 19)),
 D 110 (.bin .add (T 109) (C (.int .i64 1))),
 D 19 (.mv (T 110))])))
/-- a loop of winepress/winepresslaw22.wakes; it keeps [6, 7, 4, 2, 5, 1, 3] -/
def lb11_1 : ACode := (.seq (.seq (.region [
 D 46 (.mv (T 7)),
 D 47 (.bin .lss (T 46) (C (.int .i64 7)))])
 (.cond (T 47)
 .skip
 (.exit 0)))
 (.seq (.block 1 (.seq (.region [
 D 51 (.mv (T 1)),
 D 52 (.load (some 2) (T 3)),
 D 53 (.mv (T 7)),
 D 54 (.call 22 [(T 51), (T 52), (T 53)]),
 D 50 (.mv (T 54)),
 D 55 (.ext (T 50) 0),
 D 56 (.ext (T 50) 1),
 D 8 (.mv (T 55)),
 D 9 (.mv (T 56))])
 (.region [
 D 57 (.mv (T 6)),
 D 58 (.mv (T 57)),
 ⟨(some 59), (some (58, true)), 0, true, .mv (T 8)⟩,
 ⟨(some 60), (some (58, true)), 0, true, .build (List.replicate 7 (.int .u32 0)) [(0, 1, (C (.int .u32 1))), (1, 1, (C (.int .u32 5))), (2, 1, (C (.int .u32 6))), (3, 1, (C (.int .u32 4))), (4, 1, (C (.int .u32 0))), (5, 1, (C (.int .u32 2))), (6, 1, (C (.int .u32 3)))]⟩,
 ⟨(some 61), (some (58, true)), 0, true, .mv (T 7)⟩,
 ⟨(some 62), (some (58, true)), 0, true, .idx 1 7 none (T 60) (T 61)⟩,
 ⟨(some 63), (some (58, true)), 0, true, .bin .eql (T 59) (T 62)⟩,
 D 64 (.pick (T 58) (T 63) (C (.bool false))),
 D 6 (.mv (T 64))])))
 (.region [
 D 48 (.mv (T 7)),
 D 49 (.bin .add (T 48) (C (.int .i64 1))),
 D 7 (.mv (T 49))])))
/-- winepress/winepresslaw22.wakes -/
def ac11 : AFn := ⟨(.seq (.region [
 D 0 (.mv (C (.bool false)))])
 (.seq (.region [
 D 31 (.bslice true 1 6 (List.replicate 6 (.int .u8 0)) [(0, 1, (C (.int .u8 97))), (1, 1, (C (.int .u8 110))), (2, 1, (C (.int .u8 110))), (3, 1, (C (.int .u8 98))), (4, 1, (C (.int .u8 97))), (5, 1, (C (.int .u8 97)))]),
 D 32 (.mark (T 31)),
 D 33 (.call 25 [(T 32)]),
 D 30 (.mv (T 33)),
 D 34 (.ext (T 30) 0),
 D 35 (.ext (T 30) 1),
 D 36 (.ext (T 30) 2),
 D 2 (.alloc true [(.int .i64 0), (.int .i64 0)]),
 D 3 (.alloc true [(.int .i64 0), (.int .i64 0)]),
 D 1 (.mv (T 34)),
 E (.store 2 (T 2) (T 35)),
 E (.store 2 (T 3) (T 36))])
 (.seq (.seq (.region [
 D 37 (.mv (T 1)),
 D 38 (.eqs false .ptr (T 37) (C (.pointer none)))])
 (.cond (T 38)
 (.seq (.region [
 D 0 (.mv (C (.bool false)))])
 .ret)
 .skip))
 (.seq (.region [
 D 40 (.mv (T 1)),
 D 41 (.load (some 2) (T 2)),
 D 42 (.load (some 2) (T 3)),
 D 43 (.call 18 [(T 40), (T 41), (C (.int .i64 4)), (T 42)]),
 D 39 (.mv (T 43)),
 D 44 (.ext (T 39) 0),
 D 45 (.ext (T 39) 1),
 D 4 (.mv (T 44)),
 D 5 (.mv (T 45))])
 (.seq (.region [
 D 6 (.mv (C (.bool true)))])
 (.seq (.seq (.region [
 D 7 (.mv (C (.int .i64 0)))])
 (.block 0 (.loop [6, 7, 4, 2, 5, 1, 3] lb11_1)))
 (.seq (.region [
 D 66 (.mv (T 1)),
 D 67 (.load (some 2) (T 2)),
 D 68 (.load (some 2) (T 3)),
 D 69 (.call 18 [(T 66), (T 67), (C (.int .i64 0)), (T 68)]),
 D 65 (.mv (T 69)),
 D 70 (.ext (T 65) 0),
 D 71 (.ext (T 65) 1),
 D 10 (.mv (T 70)),
 D 11 (.mv (T 71))])
 (.seq (.region [
 D 73 (.mv (T 1)),
 D 74 (.load (some 2) (T 2)),
 D 75 (.load (some 2) (T 3)),
 D 76 (.call 18 [(T 73), (T 74), (C (.int .i64 7)), (T 75)]),
 D 72 (.mv (T 76)),
 D 77 (.ext (T 72) 0),
 D 78 (.ext (T 72) 1),
 D 12 (.mv (T 77)),
 D 13 (.mv (T 78))])
 (.seq (.region [
 D 80 (.mv (T 1)),
 D 81 (.load (some 2) (T 2)),
 D 82 (.faddr 0 (T 3)),
 D 83 (.load none (T 82)),
 D 84 (.faddr 1 (T 3)),
 D 85 (.load none (T 84)),
 D 86 (.bin .sub (T 85) (C (.int .i64 1))),
 D 87 (.build [(.int .i64 0), (.int .i64 0)] [(0, 1, (T 83)), (1, 1, (T 86))]),
 D 88 (.call 18 [(T 80), (T 81), (C (.int .i64 4)), (T 87)]),
 D 79 (.mv (T 88)),
 D 89 (.ext (T 79) 0),
 D 90 (.ext (T 79) 1),
 D 14 (.mv (T 89)),
 D 15 (.mv (T 90))])
 (.seq (.region [
 D 92 (.load (some 2) (T 2)),
 D 93 (.load (some 2) (T 3)),
 D 94 (.call 18 [(C (.pointer none)), (T 92), (C (.int .i64 4)), (T 93)]),
 D 91 (.mv (T 94)),
 D 95 (.ext (T 91) 0),
 D 96 (.ext (T 91) 1),
 D 16 (.mv (T 95)),
 D 17 (.mv (T 96))])
 (.seq (.seq (.region [
 D 97 (.mv (T 5)),
 D 98 (.bin .neq (T 97) (C (.int .i64 0))),
 D 99 (.mv (T 98)),
 ⟨(some 100), (some (99, false)), 0, true, .mv (T 4)⟩,
 ⟨(some 101), (some (99, false)), 0, true, .eqs false .ptr (T 100) (C (.pointer none))⟩,
 D 102 (.pick (T 99) (C (.bool true)) (T 101)),
 D 103 (.mv (T 102)),
 ⟨(some 104), (some (103, false)), 0, true, .mv (T 6)⟩,
 ⟨(some 105), (some (103, false)), 0, true, .un .not (T 104)⟩,
 D 106 (.pick (T 103) (C (.bool true)) (T 105))])
 (.cond (T 106)
 (.seq (.region [
 D 0 (.mv (C (.bool false)))])
 .ret)
 .skip))
 (.seq (.region [
 D 18 (.mv (C (.slice none 0 0)))])
 (.seq (.seq (.region [
 D 19 (.mv (C (.int .i64 0)))])
 (.block 2 (.loop [4, 11, 13, 15, 17, 3, 1, 2, 19, 18] lb11_0)))
 (.seq (.region [
 D 125 (.mv (T 4)),
 D 126 (.call 27 [(T 125)]),
 D 127 (.mv (T 4)),
 D 128 (.call 26 [(T 127)]),
 D 129 (.mv (T 4)),
 D 130 (.call 27 [(T 129)]),
 D 22 (.mv (T 126)),
 D 23 (.mv (T 128)),
 D 24 (.mv (T 130))])
 (.seq (.region [
 D 131 (.mv (T 4)),
 D 132 (.call 43 [(T 131)])])
 (.seq (.region [
 D 134 (.mv (T 4)),
 D 135 (.call 29 [(T 134)]),
 D 133 (.mv (T 135)),
 D 136 (.ext (T 133) 0),
 D 137 (.ext (T 133) 1),
 D 25 (.mv (T 136)),
 D 26 (.mv (T 137))])
 (.seq (.region [
 D 27 (.mv (C (.pointer none)))])
 (.seq (.region [
 D 138 (.mv (T 27)),
 D 139 (.call 43 [(T 138)])])
 (.seq (.region [
 D 141 (.mv (T 27)),
 D 142 (.call 29 [(T 141)]),
 D 140 (.mv (T 142)),
 D 143 (.ext (T 140) 0),
 D 144 (.ext (T 140) 1),
 D 28 (.mv (T 143)),
 D 29 (.mv (T 144))])
 (.seq (.region [
 D 145 (.mv (T 11)),
 D 146 (.bin .eql (T 145) (C (.int .i64 170))),
 D 147 (.mv (T 146)),
 ⟨(some 148), (some (147, true)), 0, true, .mv (T 13)⟩,
 ⟨(some 149), (some (147, true)), 0, true, .bin .eql (T 148) (C (.int .i64 170))⟩,
 D 150 (.pick (T 147) (T 149) (C (.bool false))),
 D 151 (.mv (T 150)),
 ⟨(some 152), (some (151, true)), 0, true, .mv (T 15)⟩,
 ⟨(some 153), (some (151, true)), 0, true, .bin .eql (T 152) (C (.int .i64 2))⟩,
 D 154 (.pick (T 151) (T 153) (C (.bool false))),
 D 155 (.mv (T 154)),
 ⟨(some 156), (some (155, true)), 0, true, .mv (T 17)⟩,
 ⟨(some 157), (some (155, true)), 0, true, .bin .eql (T 156) (C (.int .i64 2))⟩,
 D 158 (.pick (T 155) (T 157) (C (.bool false))),
 D 159 (.mv (T 158)),
 ⟨(some 160), (some (159, true)), 0, true, .mv (T 18)⟩,
 ⟨(some 161), (some (159, true)), 0, true, .bstr (T 160)⟩,
 ⟨(some 162), (some (159, true)), 0, true, .bin .eql (T 161) (C (.string ⟨#[97, 110, 97, 110, 97, 98]⟩))⟩,
 D 163 (.pick (T 159) (T 162) (C (.bool false))),
 D 164 (.mv (T 163)),
 ⟨(some 165), (some (164, true)), 0, true, .mv (T 22)⟩,
 ⟨(some 166), (some (164, true)), 0, true, .bin .eql (T 165) (C (.int .i64 6))⟩,
 D 167 (.pick (T 164) (T 166) (C (.bool false))),
 D 168 (.mv (T 167)),
 ⟨(some 169), (some (168, true)), 0, true, .mv (T 23)⟩,
 D 170 (.pick (T 168) (T 169) (C (.bool false))),
 D 171 (.mv (T 170)),
 ⟨(some 172), (some (171, true)), 0, true, .mv (T 24)⟩,
 ⟨(some 173), (some (171, true)), 0, true, .bin .eql (T 172) (C (.int .i64 12))⟩,
 D 174 (.pick (T 171) (T 173) (C (.bool false))),
 D 175 (.mv (T 174)),
 ⟨(some 176), (some (175, true)), 0, true, .mv (T 25)⟩,
 ⟨(some 177), (some (175, true)), 0, true, .bin .eql (T 176) (C (.int .u8 97))⟩,
 D 178 (.pick (T 175) (T 177) (C (.bool false))),
 D 179 (.mv (T 178)),
 ⟨(some 180), (some (179, true)), 0, true, .mv (T 4)⟩,
 ⟨(some 181), (some (179, true)), 0, true, .call 28 [(T 180)]⟩,
 ⟨(some 182), (some (179, true)), 0, true, .bin .eql (T 181) (C (.int .i64 1))⟩,
 D 183 (.pick (T 179) (T 182) (C (.bool false))),
 D 184 (.mv (T 183)),
 ⟨(some 185), (some (184, true)), 0, true, .mv (T 29)⟩,
 ⟨(some 186), (some (184, true)), 0, true, .un .not (T 185)⟩,
 D 187 (.pick (T 184) (T 186) (C (.bool false))),
 D 188 (.mv (T 187)),
 ⟨(some 189), (some (188, true)), 0, true, .mv (T 27)⟩,
 ⟨(some 190), (some (188, true)), 0, true, .call 26 [(T 189)]⟩,
 ⟨(some 191), (some (188, true)), 0, true, .un .not (T 190)⟩,
 D 192 (.pick (T 188) (T 191) (C (.bool false))),
 D 193 (.mv (T 192)),
 ⟨(some 194), (some (193, true)), 0, true, .mv (T 27)⟩,
 ⟨(some 195), (some (193, true)), 0, true, .call 27 [(T 194)]⟩,
 ⟨(some 196), (some (193, true)), 0, true, .bin .eql (T 195) (C (.int .i64 0))⟩,
 D 197 (.pick (T 193) (T 196) (C (.bool false))),
 D 198 (.mv (T 197)),
 ⟨(some 199), (some (198, true)), 0, true, .mv (T 1)⟩,
 ⟨(some 200), (some (198, true)), 0, true, .load (some 2) (T 2)⟩,
 ⟨(some 201), (some (198, true)), 0, true, .load (some 2) (T 3)⟩,
 ⟨(some 202), (some (198, true)), 0, true, .call 19 [(T 199), (T 200), (T 201)]⟩,
 D 203 (.pick (T 198) (T 202) (C (.bool false))),
 D 204 (.mv (T 203)),
 ⟨(some 205), (some (204, true)), 0, true, .mv (T 1)⟩,
 ⟨(some 206), (some (204, true)), 0, true, .load (some 2) (T 2)⟩,
 ⟨(some 207), (some (204, true)), 0, true, .load (some 2) (T 2)⟩,
 ⟨(some 208), (some (204, true)), 0, true, .call 19 [(T 205), (T 206), (T 207)]⟩,
 ⟨(some 209), (some (204, true)), 0, true, .un .not (T 208)⟩,
 D 210 (.pick (T 204) (T 209) (C (.bool false))),
 D 0 (.mv (T 210))])
 .ret)))))))))))))))))))), [.tmp 0]⟩
theorem ac11_ok : compFn Try.prog Try.f11 = some ac11 := by kernel_rfl
/-- winepress/arena.New -/
def ac12 : AFn := ⟨(.seq (.region [
 D 2 (.mv (C (.pointer none))),
 D 3 (.mv (C (.int .i64 0)))])
 (.seq (.seq (.region [
 D 4 (.mv (T 0)),
 D 5 (.bin .lss (T 4) (C (.int .i64 1))),
 D 6 (.mv (T 5)),
 ⟨(some 7), (some (6, false)), 0, true, .mv (T 0)⟩,
 ⟨(some 8), (some (6, false)), 0, true, .bin .gtr (T 7) (C (.int .i64 1048576))⟩,
 D 9 (.pick (T 6) (C (.bool true)) (T 8))])
 (.cond (T 9)
 (.seq (.region [
 D 2 (.mv (C (.pointer none))),
 D 3 (.mv (C (.int .i64 2)))])
 .ret)
 .skip))
 (.seq (.region [
 D 10 (.mv (T 0)),
 D 11 (.mkslice true 1 [(.int .u8 0)] (T 10) (T 10)),
 D 12 (.build [(.slice none 0 0), (.int .i64 0), (.int .i64 0)] [(0, 1, (T 11))]),
 D 13 (.box false (T 12)),
 D 2 (.mv (T 13)),
 D 3 (.mv (C (.int .i64 0)))])
 .ret))), [.tmp 2, .tmp 3]⟩
theorem ac12_ok : compFn Try.prog Try.f12 = some ac12 := by kernel_rfl
/-- (*winepress/arena.Arena).Take -/
def ac14 : AFn := ⟨(.seq (.region [
 D 4 (.alloc true [(.int .i64 0), (.int .i64 0)]),
 D 5 (.mv (C (.int .i64 0)))])
 (.seq (.block 0 (.seq (.region [
 D 8 (.mv (T 0)),
 D 9 (.eqs false .ptr (T 8) (C (.pointer none))),
 D 10 (.mv (T 9)),
 ⟨(some 11), (some (10, false)), 0, true, .mv (T 1)⟩,
 ⟨(some 12), (some (10, false)), 0, true, .bin .lss (T 11) (C (.int .i64 0))⟩,
 D 13 (.pick (T 10) (C (.bool true)) (T 12)),
 D 7 (.mv (T 13))])
 (.cond (T 7)
 (.seq (.region [
 D 14 (.build [(.int .i64 0), (.int .i64 0)] []),
 E (.store 2 (T 4) (T 14)),
 D 5 (.mv (C (.int .i64 2)))])
 .ret)
 (.seq (.drawn [
 ⟨(some 16), none, 0, false, .mv (T 1)⟩,
 ⟨(some 17), none, 0, false, .mv (T 0)⟩,
 ⟨(some 18), none, 2, false, .nilck (T 17)⟩,
 ⟨(some 19), none, 6, false, .faddr 0 (T 18)⟩,
 ⟨(some 20), none, 14, false, .load none (T 19)⟩,
 ⟨(some 21), none, 30, false, .len (T 20)⟩,
 ⟨(some 22), none, 0, false, .mv (T 0)⟩,
 ⟨(some 23), none, 64, false, .nilck (T 22)⟩,
 ⟨(some 24), none, 192, false, .faddr 1 (T 23)⟩,
 ⟨(some 25), none, 448, false, .load none (T 24)⟩,
 ⟨(some 26), none, 1022, false, .bin .sub (T 21) (T 25)⟩,
 ⟨(some 27), none, 2047, false, .bin .gtr (T 16) (T 26)⟩,
 ⟨(some 15), none, 4095, false, .mv (T 27)⟩])
 (.cond (T 15)
 (.seq (.region [
 D 28 (.build [(.int .i64 0), (.int .i64 0)] []),
 E (.store 2 (T 4) (T 28)),
 D 5 (.mv (C (.int .i64 10)))])
 .ret)
 .skip)))))
 (.seq (.region [
 D 29 (.mv (T 0)),
 D 30 (.nilck (T 29)),
 D 31 (.faddr 1 (T 30)),
 D 32 (.load none (T 31)),
 D 33 (.mv (T 1)),
 D 34 (.build [(.int .i64 0), (.int .i64 0)] [(0, 1, (T 32)), (1, 1, (T 33))]),
 D 6 (.alloc true [(.int .i64 0), (.int .i64 0)]),
 E (.store 2 (T 6) (T 34))])
 (.seq (.drawn [
 ⟨(some 35), none, 0, false, .mv (T 0)⟩,
 ⟨(some 36), none, 1, false, .nilck (T 35)⟩,
 ⟨(some 37), none, 3, false, .faddr 0 (T 36)⟩,
 ⟨(some 38), none, 7, false, .load none (T 37)⟩,
 ⟨(some 39), none, 0, false, .faddr 0 (T 6)⟩,
 ⟨(some 40), none, 16, false, .load none (T 39)⟩,
 ⟨(some 41), none, 0, false, .faddr 0 (T 6)⟩,
 ⟨(some 42), none, 64, false, .load none (T 41)⟩,
 ⟨(some 43), none, 0, false, .mv (T 1)⟩,
 ⟨(some 44), none, 448, false, .bin .add (T 42) (T 43)⟩,
 ⟨(some 45), none, 1023, false, .slice 1 (T 38) (some (T 40)) (some (T 44)) none⟩,
 ⟨none, none, 2047, true, .clear 1 [(.int .u8 0)] (T 45)⟩])
 (.seq (.region [
 D 46 (.mv (T 0)),
 D 47 (.nilck (T 46)),
 D 48 (.faddr 1 (T 47)),
 D 49 (.load none (T 48)),
 D 50 (.mv (T 1)),
 D 51 (.bin .add (T 49) (T 50)),
 D 52 (.nilck (T 46)),
 D 53 (.faddr 1 (T 52)),
 E (.store 1 (T 53) (T 51))])
 (.seq (.drawn [
 ⟨(some 54), none, 0, false, .mv (T 0)⟩,
 ⟨(some 55), none, 0, false, .mv (T 0)⟩,
 ⟨(some 56), none, 2, false, .nilck (T 55)⟩,
 ⟨(some 57), none, 6, false, .faddr 2 (T 56)⟩,
 ⟨(some 58), none, 14, false, .load none (T 57)⟩,
 ⟨(some 59), none, 0, false, .mv (T 0)⟩,
 ⟨(some 60), none, 32, false, .nilck (T 59)⟩,
 ⟨(some 61), none, 96, false, .faddr 1 (T 60)⟩,
 ⟨(some 62), none, 224, false, .load none (T 61)⟩,
 ⟨(some 63), none, 510, false, .mm true [(T 58), (T 62)]⟩,
 ⟨(some 64), none, 1023, false, .nilck (T 54)⟩,
 ⟨(some 65), none, 2047, false, .faddr 2 (T 64)⟩,
 ⟨none, none, 4095, true, .store 1 (T 65) (T 63)⟩])
 (.seq (.region [
 D 66 (.load (some 2) (T 6)),
 E (.store 2 (T 4) (T 66)),
 D 5 (.mv (C (.int .i64 0)))])
 .ret))))))), [.cell 4 (some 2), .tmp 5]⟩
theorem ac14_ok : compFn Try.prog Try.f14 = some ac14 := by kernel_rfl
/-- (*winepress/arena.Arena).Store -/
def ac16 : AFn := ⟨(.seq (.region [
 D 5 (.box true (T 1)),
 D 8 (.mv (C (.bool false)))])
 (.seq (.seq (.region [
 D 9 (.mv (T 0)),
 D 10 (.load (some 2) (T 5)),
 D 11 (.call 44 [(T 9), (T 10)]),
 D 12 (.un .not (T 11)),
 D 13 (.mv (T 12)),
 ⟨(some 14), (some (13, false)), 0, true, .mv (T 2)⟩,
 ⟨(some 15), (some (13, false)), 0, true, .bin .lss (T 14) (C (.int .i64 0))⟩,
 D 16 (.pick (T 13) (C (.bool true)) (T 15)),
 D 17 (.mv (T 16)),
 ⟨(some 18), (some (17, false)), 0, true, .mv (T 2)⟩,
 ⟨(some 19), (some (17, false)), 0, true, .faddr 1 (T 5)⟩,
 ⟨(some 20), (some (17, false)), 0, true, .load none (T 19)⟩,
 ⟨(some 21), (some (17, false)), 0, true, .mv (T 3)⟩,
 ⟨(some 22), (some (17, false)), 0, true, .len (T 21)⟩,
 ⟨(some 23), (some (17, false)), 0, true, .bin .sub (T 20) (T 22)⟩,
 ⟨(some 24), (some (17, false)), 0, true, .bin .gtr (T 18) (T 23)⟩,
 D 25 (.pick (T 17) (C (.bool true)) (T 24))])
 (.cond (T 25)
 (.seq (.region [
 D 8 (.mv (C (.bool false)))])
 .ret)
 .skip))
 (.seq (.drawn [
 ⟨(some 26), none, 0, false, .mv (T 0)⟩,
 ⟨(some 27), none, 1, false, .nilck (T 26)⟩,
 ⟨(some 28), none, 3, false, .faddr 0 (T 27)⟩,
 ⟨(some 29), none, 7, false, .load none (T 28)⟩,
 ⟨(some 30), none, 0, false, .faddr 0 (T 5)⟩,
 ⟨(some 31), none, 16, false, .load none (T 30)⟩,
 ⟨(some 32), none, 0, false, .mv (T 2)⟩,
 ⟨(some 33), none, 112, false, .bin .add (T 31) (T 32)⟩,
 ⟨(some 34), none, 255, false, .slice 1 (T 29) (some (T 33)) none none⟩,
 ⟨(some 35), none, 0, false, .mv (T 3)⟩,
 ⟨(some 36), none, 1023, true, .copy 1 (T 34) (T 35)⟩])
 (.seq (.region [
 D 8 (.mv (C (.bool true)))])
 .ret)))), [.tmp 8]⟩
theorem ac16_ok : compFn Try.prog Try.f16 = some ac16 := by kernel_rfl
/-- a loop of winepress/tablewalk.New; it keeps [43, 42, 10, 11, 0, 7] -/
def lb18_0 : ACode := (.seq (.region [
 D 44 (.bin .lss (T 43) (T 42))])
 (.seq (.cond (T 44)
 .skip
 (.exit 1))
 (.seq (.block 2 (.seq (.region [
 D 45 (.mv (T 43)),
 D 12 (.mv (T 45))])
 (.seq (.region [
 D 13 (.mv (C (.int .i64 0)))])
 (.seq (.seq (.region [
 D 47 (.mv (T 10)),
 D 48 (.mv (T 12)),
 D 49 (.call 48 [(T 47), (T 48)]),
 D 46 (.mv (T 49)),
 D 50 (.ext (T 46) 0),
 D 51 (.ext (T 46) 1),
 D 14 (.mv (T 50)),
 D 15 (.mv (T 51))])
 (.seq (.region [
 D 52 (.mv (T 15))])
 (.cond (T 52)
 (.seq (.region [
 D 53 (.mv (T 14)),
 D 54 (.iaddra 1 256 (T 11) (T 53)),
 D 55 (.load none (T 54)),
 D 56 (.bin .add (T 55) (C (.int .i64 1))),
 D 57 (.iaddra 1 256 (T 11) (T 53)),
 E (.store 1 (T 57) (T 56))])
 (.region [
 D 58 (.mv (T 14)),
 D 59 (.iaddra 1 256 (T 11) (T 58)),
 D 60 (.load none (T 59)),
 D 13 (.mv (T 60))]))
 .skip)))
 (.region [
 D 61 (.mv (T 0)),
 D 62 (.load (some 2) (T 7)),
 D 63 (.mv (T 12)),
 D 64 (.mv (T 13)),
 D 65 (.conv .u32 (T 64)),
 D 66 (.call 49 [(T 61), (T 62), (T 63), (T 65)])])))))
 (.region [
 D 67 (.bin .add (T 43) (C (.int .i64 1))),
 D 43 (.mv (T 67))]))))
/-- winepress/tablewalk.New -/
def ac18 : AFn := ⟨(.seq (.region [
 D 5 (.box true (T 1)),
 D 7 (.box true (T 3)),
 D 8 (.mv (C (.pointer none))),
 D 9 (.mv (C (.int .i64 0)))])
 (.seq (.block 0 (.seq (.region [
 D 17 (.mv (T 0)),
 D 18 (.load (some 2) (T 5)),
 D 19 (.load (some 2) (T 7)),
 D 20 (.call 19 [(T 17), (T 18), (T 19)]),
 D 21 (.un .not (T 20)),
 D 16 (.mv (T 21))])
 (.cond (T 16)
 (.seq (.region [
 D 8 (.mv (C (.pointer none))),
 D 9 (.mv (C (.int .i64 2)))])
 .ret)
 (.seq (.region [
 D 23 (.mv (T 2)),
 D 24 (.bin .lss (T 23) (C (.int .i64 1))),
 D 25 (.mv (T 24)),
 ⟨(some 26), (some (25, false)), 0, true, .mv (T 2)⟩,
 ⟨(some 27), (some (25, false)), 0, true, .faddr 1 (T 5)⟩,
 ⟨(some 28), (some (25, false)), 0, true, .load none (T 27)⟩,
 ⟨(some 29), (some (25, false)), 0, true, .bin .gtr (T 26) (T 28)⟩,
 D 30 (.pick (T 25) (C (.bool true)) (T 29)),
 D 22 (.mv (T 30))])
 (.cond (T 22)
 (.seq (.region [
 D 8 (.mv (C (.pointer none))),
 D 9 (.mv (C (.int .i64 170)))])
 .ret)
 .skip)))))
 (.seq (.region [
 D 31 (.mv (T 0)),
 D 32 (.load (some 2) (T 5)),
 D 33 (.load (some 2) (T 7)),
 D 34 (.mv (T 2)),
 D 35 (.build [(.pointer none), (.int .i64 0), (.int .i64 0), (.int .i64 0), (.int .i64 0), (.int .i64 0), (.int .i64 0), (.int .i64 0), (.int .i64 0)] [(0, 1, (T 31)), (1, 2, (T 32)), (3, 2, (T 33)), (5, 1, (T 34))]),
 D 36 (.box false (T 35)),
 D 10 (.mv (T 36))])
 (.seq (.region [
 D 37 (.mv (T 0)),
 D 38 (.load (some 2) (T 5)),
 D 39 (.call 47 [(T 37), (T 38)]),
 D 11 (.alloc true (List.replicate 256 (.int .i64 0))),
 E (.store 256 (T 11) (T 39))])
 (.seq (.seq (.region [
 D 40 (.faddr 1 (T 5)),
 D 41 (.load none (T 40)),
 D 42 (.bin .add (T 41) (C (.int .i64 1))),
 D 43 (.mv (C (.int .i64 0)))])
 (.block 1 (.loop [43, 42, 10, 11, 0, 7] lb18_0)))
 (.seq (.region [
 D 68 (.mv (T 10)),
 D 8 (.mv (T 68)),
 D 9 (.mv (C (.int .i64 0)))])
 .ret)))))), [.tmp 8, .tmp 9]⟩
theorem ac18_ok : compFn Try.prog Try.f18 = some ac18 := by kernel_rfl
/-- winepress/tablewalk.Valid -/
def ac19 : AFn := ⟨(.seq (.region [
 D 4 (.box true (T 1)),
 D 5 (.box true (T 2)),
 D 6 (.mv (C (.bool false)))])
 (.seq (.seq (.region [
 D 7 (.mv (T 0)),
 D 8 (.load (some 2) (T 4)),
 D 9 (.call 44 [(T 7), (T 8)]),
 D 10 (.un .not (T 9)),
 D 11 (.mv (T 10)),
 ⟨(some 12), (some (11, false)), 0, true, .mv (T 0)⟩,
 ⟨(some 13), (some (11, false)), 0, true, .load (some 2) (T 5)⟩,
 ⟨(some 14), (some (11, false)), 0, true, .call 44 [(T 12), (T 13)]⟩,
 ⟨(some 15), (some (11, false)), 0, true, .un .not (T 14)⟩,
 D 16 (.pick (T 11) (C (.bool true)) (T 15)),
 D 17 (.mv (T 16)),
 ⟨(some 18), (some (17, false)), 0, true, .faddr 1 (T 4)⟩,
 ⟨(some 19), (some (17, false)), 0, true, .load none (T 18)⟩,
 ⟨(some 20), (some (17, false)), 0, true, .bin .lss (T 19) (C (.int .i64 1))⟩,
 D 21 (.pick (T 17) (C (.bool true)) (T 20)),
 D 22 (.mv (T 21)),
 ⟨(some 23), (some (22, false)), 0, true, .faddr 1 (T 4)⟩,
 ⟨(some 24), (some (22, false)), 0, true, .load none (T 23)⟩,
 ⟨(some 25), (some (22, false)), 0, true, .bin .gtr (T 24) (C (.int .i64 65536))⟩,
 D 26 (.pick (T 22) (C (.bool true)) (T 25)),
 D 27 (.mv (T 26)),
 ⟨(some 28), (some (27, false)), 0, true, .faddr 1 (T 5)⟩,
 ⟨(some 29), (some (27, false)), 0, true, .load none (T 28)⟩,
 ⟨(some 30), (some (27, false)), 0, true, .faddr 1 (T 4)⟩,
 ⟨(some 31), (some (27, false)), 0, true, .load none (T 30)⟩,
 ⟨(some 32), (some (27, false)), 0, true, .bin .add (T 31) (C (.int .i64 1))⟩,
 ⟨(some 33), (some (27, false)), 0, true, .bin .mul (C (.int .i64 4)) (T 32)⟩,
 ⟨(some 34), (some (27, false)), 0, true, .bin .lss (T 29) (T 33)⟩,
 D 35 (.pick (T 27) (C (.bool true)) (T 34))])
 (.cond (T 35)
 (.seq (.region [
 D 6 (.mv (C (.bool false)))])
 .ret)
 .skip))
 (.seq (.region [
 D 36 (.faddr 0 (T 4)),
 D 37 (.load none (T 36)),
 D 38 (.faddr 1 (T 4)),
 D 39 (.load none (T 38)),
 D 40 (.bin .add (T 37) (T 39)),
 D 41 (.faddr 0 (T 5)),
 D 42 (.load none (T 41)),
 D 43 (.bin .leq (T 40) (T 42)),
 D 44 (.mv (T 43)),
 ⟨(some 45), (some (44, false)), 0, true, .faddr 0 (T 5)⟩,
 ⟨(some 46), (some (44, false)), 0, true, .load none (T 45)⟩,
 ⟨(some 47), (some (44, false)), 0, true, .faddr 1 (T 5)⟩,
 ⟨(some 48), (some (44, false)), 0, true, .load none (T 47)⟩,
 ⟨(some 49), (some (44, false)), 0, true, .bin .add (T 46) (T 48)⟩,
 ⟨(some 50), (some (44, false)), 0, true, .faddr 0 (T 4)⟩,
 ⟨(some 51), (some (44, false)), 0, true, .load none (T 50)⟩,
 ⟨(some 52), (some (44, false)), 0, true, .bin .leq (T 49) (T 51)⟩,
 D 53 (.pick (T 44) (C (.bool true)) (T 52)),
 D 6 (.mv (T 53))])
 .ret))), [.tmp 6]⟩
theorem ac19_ok : compFn Try.prog Try.f19 = some ac19 := by kernel_rfl
/-- (*winepress/arena.Arena).Load -/
def ac20 : AFn := ⟨(.seq (.region [
 D 3 (.box true (T 1)),
 D 4 (.mv (C (.slice none 0 0)))])
 (.seq (.seq (.region [
 D 5 (.mv (T 0)),
 D 6 (.load (some 2) (T 3)),
 D 7 (.call 44 [(T 5), (T 6)]),
 D 8 (.un .not (T 7))])
 (.cond (T 8)
 (.seq (.region [
 D 4 (.mv (C (.slice none 0 0)))])
 .ret)
 .skip))
 (.seq (.drawn [
 ⟨(some 9), none, 0, false, .mv (T 0)⟩,
 ⟨(some 10), none, 1, false, .nilck (T 9)⟩,
 ⟨(some 11), none, 3, false, .faddr 0 (T 10)⟩,
 ⟨(some 12), none, 7, false, .load none (T 11)⟩,
 ⟨(some 13), none, 0, false, .faddr 0 (T 3)⟩,
 ⟨(some 14), none, 16, false, .load none (T 13)⟩,
 ⟨(some 15), none, 0, false, .faddr 0 (T 3)⟩,
 ⟨(some 16), none, 64, false, .load none (T 15)⟩,
 ⟨(some 17), none, 0, false, .faddr 1 (T 3)⟩,
 ⟨(some 18), none, 256, false, .load none (T 17)⟩,
 ⟨(some 19), none, 960, false, .bin .add (T 16) (T 18)⟩,
 ⟨(some 20), none, 2047, false, .slice 1 (T 12) (some (T 14)) (some (T 19)) none⟩,
 ⟨(some 21), none, 4095, true, .call 50 [(T 20)]⟩,
 ⟨(some 4), none, 8191, false, .mv (T 21)⟩])
 .ret))), [.tmp 4]⟩
theorem ac20_ok : compFn Try.prog Try.f20 = some ac20 := by kernel_rfl
/-- a loop of (*winepress/arena.Arena).Word; it keeps [6, 17, 16, 8, 15] -/
def lb22_0 : ACode := (.seq (.region [
 D 18 (.bin .lss (T 17) (T 16))])
 (.seq (.cond (T 18)
 .skip
 (.exit 0))
 (.seq (.block 1 (.seq (.region [
 D 19 (.mv (T 17)),
 D 20 (.iaddr 1 (T 15) (T 17)),
 D 21 (.load none (T 20)),
 D 9 (.mv (T 19)),
 D 10 (.mv (T 21))])
 (.region [
 D 22 (.mv (T 6)),
 D 23 (.mv (T 10)),
 D 24 (.conv .u32 (T 23)),
 D 25 (.mv (T 9)),
 D 26 (.bin .mul (C (.int .i64 8)) (T 25)),
 D 27 (.bin .shl (T 24) (T 26)),
 D 28 (.bin .or (T 22) (T 27)),
 D 6 (.mv (T 28))])))
 (.region [
 D 29 (.bin .add (T 17) (C (.int .i64 1))),
 D 17 (.mv (T 29))]))))
/-- (*winepress/arena.Arena).Word -/
def ac22 : AFn := ⟨(.seq (.region [
 D 4 (.box true (T 1)),
 D 6 (.mv (C (.int .u32 0))),
 D 7 (.mv (C (.bool false)))])
 (.seq (.region [
 D 11 (.mv (T 0)),
 D 12 (.load (some 2) (T 4)),
 D 13 (.mv (T 2)),
 D 14 (.call 51 [(T 11), (T 12), (T 13)]),
 D 8 (.mv (T 14))])
 (.seq (.seq (.region [
 D 15 (.mv (T 8)),
 D 16 (.len (T 15)),
 D 17 (.mv (C (.int .i64 0)))])
 (.block 0 (.loop [6, 17, 16, 8, 15] lb22_0)))
 (.seq (.region [
 D 30 (.mv (T 6)),
 D 31 (.mv (T 8)),
 D 32 (.eqs true .slice (T 31) (C (.slice none 0 0))),
 D 6 (.mv (T 30)),
 D 7 (.mv (T 32))])
 .ret)))), [.tmp 6, .tmp 7]⟩
theorem ac22_ok : compFn Try.prog Try.f22 = some ac22 := by kernel_rfl
/-- winepress/winepresslaw22.laid -/
def ac25 : AFn := ⟨(.seq (.region [
 D 2 (.mv (C (.pointer none))),
 D 3 (.alloc true [(.int .i64 0), (.int .i64 0)]),
 D 4 (.alloc true [(.int .i64 0), (.int .i64 0)])])
 (.seq (.region [
 D 14 (.mv (T 0)),
 D 15 (.len (T 14)),
 D 16 (.bin .mul (C (.int .i64 5)) (T 15)),
 D 17 (.bin .add (T 16) (C (.int .i64 9))),
 D 18 (.call 12 [(T 17)]),
 D 13 (.mv (T 18)),
 D 19 (.ext (T 13) 0),
 D 20 (.ext (T 13) 1),
 D 5 (.mv (T 19)),
 D 6 (.mv (T 20))])
 (.seq (.seq (.region [
 D 21 (.mv (T 6)),
 D 22 (.bin .neq (T 21) (C (.int .i64 0))),
 D 23 (.mv (T 22)),
 ⟨(some 24), (some (23, false)), 0, true, .mv (T 5)⟩,
 ⟨(some 25), (some (23, false)), 0, true, .eqs false .ptr (T 24) (C (.pointer none))⟩,
 D 26 (.pick (T 23) (C (.bool true)) (T 25))])
 (.cond (T 26)
 (.seq (.region [
 D 27 (.build [(.int .i64 0), (.int .i64 0)] []),
 D 28 (.build [(.int .i64 0), (.int .i64 0)] []),
 D 2 (.mv (C (.pointer none))),
 E (.store 2 (T 3) (T 27)),
 E (.store 2 (T 4) (T 28))])
 .ret)
 .skip))
 (.seq (.region [
 D 30 (.mv (T 5)),
 D 31 (.mv (T 0)),
 D 32 (.len (T 31)),
 D 33 (.call 14 [(T 30), (T 32)]),
 D 29 (.mv (T 33)),
 D 34 (.ext (T 29) 0),
 D 35 (.ext (T 29) 1),
 D 7 (.alloc true [(.int .i64 0), (.int .i64 0)]),
 E (.store 2 (T 7) (T 34)),
 D 8 (.mv (T 35))])
 (.seq (.region [
 D 37 (.mv (T 5)),
 D 38 (.mv (T 0)),
 D 39 (.len (T 38)),
 D 40 (.bin .add (T 39) (C (.int .i64 1))),
 D 41 (.bin .mul (C (.int .i64 4)) (T 40)),
 D 42 (.call 14 [(T 37), (T 41)]),
 D 36 (.mv (T 42)),
 D 43 (.ext (T 36) 0),
 D 44 (.ext (T 36) 1),
 D 9 (.alloc true [(.int .i64 0), (.int .i64 0)]),
 E (.store 2 (T 9) (T 43)),
 D 10 (.mv (T 44))])
 (.seq (.region [
 D 46 (.mv (T 5)),
 D 47 (.call 14 [(T 46), (C (.int .i64 5))]),
 D 45 (.mv (T 47)),
 D 48 (.ext (T 45) 0),
 D 49 (.ext (T 45) 1),
 D 11 (.alloc true [(.int .i64 0), (.int .i64 0)]),
 E (.store 2 (T 11) (T 48)),
 D 12 (.mv (T 49))])
 (.seq (.seq (.region [
 D 50 (.mv (T 8)),
 D 51 (.bin .neq (T 50) (C (.int .i64 0))),
 D 52 (.mv (T 51)),
 ⟨(some 53), (some (52, false)), 0, true, .mv (T 10)⟩,
 ⟨(some 54), (some (52, false)), 0, true, .bin .neq (T 53) (C (.int .i64 0))⟩,
 D 55 (.pick (T 52) (C (.bool true)) (T 54)),
 D 56 (.mv (T 55)),
 ⟨(some 57), (some (56, false)), 0, true, .mv (T 12)⟩,
 ⟨(some 58), (some (56, false)), 0, true, .bin .neq (T 57) (C (.int .i64 0))⟩,
 D 59 (.pick (T 56) (C (.bool true)) (T 58)),
 D 60 (.mv (T 59)),
 ⟨(some 61), (some (60, false)), 0, true, .mv (T 5)⟩,
 ⟨(some 62), (some (60, false)), 0, true, .load (some 2) (T 7)⟩,
 ⟨(some 63), (some (60, false)), 0, true, .mv (T 0)⟩,
 ⟨(some 64), (some (60, false)), 0, true, .call 16 [(T 61), (T 62), (C (.int .i64 0)), (T 63)]⟩,
 ⟨(some 65), (some (60, false)), 0, true, .un .not (T 64)⟩,
 D 66 (.pick (T 60) (C (.bool true)) (T 65))])
 (.cond (T 66)
 (.seq (.moves [
 D 67 (.load (some 2) (T 7)),
 D 68 (.load (some 2) (T 9)),
 D 2 (.mv (C (.pointer none))),
 E (.store 2 (T 3) (T 67)),
 E (.store 2 (T 4) (T 68))])
 .ret)
 .skip))
 (.seq (.moves [
 D 69 (.mv (T 5)),
 D 70 (.load (some 2) (T 7)),
 D 71 (.load (some 2) (T 9)),
 D 2 (.mv (T 69)),
 E (.store 2 (T 3) (T 70)),
 E (.store 2 (T 4) (T 71))])
 .ret)))))))), [.tmp 2, .cell 3 (some 2), .cell 4 (some 2)]⟩
theorem ac25_ok : compFn Try.prog Try.f25 = some ac25 := by kernel_rfl
/-- a loop of (*winepress/tablewalk.Full).Valid; it keeps [3, 0, 13, 14] -/
def lb26_0 : ACode := (.seq (.region [
 D 15 (.bin .lss (T 14) (T 13))])
 (.seq (.cond (T 15)
 .skip
 (.exit 0))
 (.seq (.block 1 (.seq (.region [
 D 17 (.mv (T 0)),
 D 18 (.mv (T 3)),
 D 19 (.call 55 [(T 17), (T 18)]),
 D 16 (.mv (T 19)),
 D 20 (.ext (T 16) 0),
 D 21 (.ext (T 16) 1),
 D 22 (.ext (T 16) 2),
 D 4 (.mv (T 20)),
 D 5 (.mv (T 21)),
 D 6 (.mv (T 22))])
 (.seq (.seq (.region [
 D 23 (.mv (T 6)),
 D 24 (.un .not (T 23))])
 (.cond (T 24)
 (.seq (.region [
 D 2 (.mv (C (.bool false)))])
 .ret)
 .skip))
 (.region [
 D 25 (.mv (T 4)),
 D 3 (.mv (T 25))]))))
 (.region [
 D 26 (.bin .add (T 14) (C (.int .i64 1))),
 D 14 (.mv (T 26))]))))
/-- (*winepress/tablewalk.Full).Valid -/
def ac26 : AFn := ⟨(.seq (.region [
 D 2 (.mv (C (.bool false)))])
 (.seq (.seq (.region [
 D 7 (.mv (T 0)),
 D 8 (.eqs false .ptr (T 7) (C (.pointer none)))])
 (.cond (T 8)
 (.seq (.region [
 D 2 (.mv (C (.bool false)))])
 .ret)
 .skip))
 (.seq (.region [
 D 3 (.mv (C (.int .i64 0)))])
 (.seq (.seq (.region [
 D 9 (.mv (T 0)),
 D 10 (.nilck (T 9)),
 D 11 (.faddr 1 (T 10)),
 D 12 (.faddr 1 (T 11)),
 D 13 (.load none (T 12)),
 D 14 (.mv (C (.int .i64 0)))])
 (.block 0 (.loop [3, 0, 13, 14] lb26_0)))
 (.seq (.region [
 D 27 (.mv (T 3)),
 D 28 (.mv (T 0)),
 D 29 (.nilck (T 28)),
 D 30 (.faddr 5 (T 29)),
 D 31 (.load none (T 30)),
 D 32 (.bin .eql (T 27) (T 31)),
 D 2 (.mv (T 32))])
 .ret))))), [.tmp 2]⟩
theorem ac26_ok : compFn Try.prog Try.f26 = some ac26 := by kernel_rfl
/-- (*winepress/tablewalk.Full).Steps -/
def ac27 : AFn := ⟨(.seq (.region [
 D 2 (.mv (C (.int .i64 0)))])
 (.seq (.seq (.region [
 D 3 (.mv (T 0)),
 D 4 (.eqs false .ptr (T 3) (C (.pointer none)))])
 (.cond (T 4)
 (.seq (.region [
 D 2 (.mv (C (.int .i64 0)))])
 .ret)
 .skip))
 (.seq (.region [
 D 5 (.mv (T 0)),
 D 6 (.nilck (T 5)),
 D 7 (.faddr 8 (T 6)),
 D 8 (.load none (T 7)),
 D 2 (.mv (T 8))])
 .ret))), [.tmp 2]⟩
theorem ac27_ok : compFn Try.prog Try.f27 = some ac27 := by kernel_rfl
/-- (*winepress/tablewalk.Full).Told -/
def ac28 : AFn := ⟨(.seq (.region [
 D 2 (.mv (C (.int .i64 0)))])
 (.seq (.seq (.region [
 D 3 (.mv (T 0)),
 D 4 (.eqs false .ptr (T 3) (C (.pointer none)))])
 (.cond (T 4)
 (.seq (.region [
 D 2 (.mv (C (.int .i64 0)))])
 .ret)
 .skip))
 (.seq (.region [
 D 5 (.mv (T 0)),
 D 6 (.nilck (T 5)),
 D 7 (.faddr 7 (T 6)),
 D 8 (.load none (T 7)),
 D 2 (.mv (T 8))])
 .ret))), [.tmp 2]⟩
theorem ac28_ok : compFn Try.prog Try.f28 = some ac28 := by kernel_rfl
/-- (*winepress/tablewalk.Full).Next -/
def ac29 : AFn := ⟨(.seq (.region [
 D 2 (.mv (C (.int .u8 0))),
 D 3 (.mv (C (.bool false)))])
 (.seq (.seq (.drawn [
 ⟨(some 7), none, 0, false, .mv (T 0)⟩,
 ⟨(some 8), none, 1, false, .eqs false .ptr (T 7) (C (.pointer none))⟩,
 ⟨(some 9), none, 3, false, .mv (T 8)⟩,
 ⟨(some 10), (some (9, false)), 7, false, .mv (T 0)⟩,
 ⟨(some 11), (some (9, false)), 15, false, .nilck (T 10)⟩,
 ⟨(some 12), (some (9, false)), 31, false, .faddr 7 (T 11)⟩,
 ⟨(some 13), (some (9, false)), 63, false, .load none (T 12)⟩,
 ⟨(some 14), (some (9, false)), 7, false, .mv (T 0)⟩,
 ⟨(some 15), (some (9, false)), 135, false, .nilck (T 14)⟩,
 ⟨(some 16), (some (9, false)), 391, false, .faddr 1 (T 15)⟩,
 ⟨(some 17), (some (9, false)), 903, false, .faddr 1 (T 16)⟩,
 ⟨(some 18), (some (9, false)), 1927, false, .load none (T 17)⟩,
 ⟨(some 19), (some (9, false)), 4095, false, .bin .eql (T 13) (T 18)⟩,
 ⟨(some 20), none, 8191, false, .pick (T 9) (C (.bool true)) (T 19)⟩])
 (.cond (T 20)
 (.seq (.region [
 D 2 (.mv (C (.int .u8 0))),
 D 3 (.mv (C (.bool false)))])
 .ret)
 .skip))
 (.seq (.region [
 D 22 (.mv (T 0)),
 D 23 (.mv (T 0)),
 D 24 (.nilck (T 23)),
 D 25 (.faddr 6 (T 24)),
 D 26 (.load none (T 25)),
 D 27 (.call 55 [(T 22), (T 26)]),
 D 21 (.mv (T 27)),
 D 28 (.ext (T 21) 0),
 D 29 (.ext (T 21) 1),
 D 30 (.ext (T 21) 2),
 D 4 (.mv (T 28)),
 D 5 (.mv (T 29)),
 D 6 (.mv (T 30))])
 (.seq (.seq (.region [
 D 31 (.mv (T 6)),
 D 32 (.un .not (T 31))])
 (.cond (T 32)
 (.seq (.region [
 D 2 (.mv (C (.int .u8 0))),
 D 3 (.mv (C (.bool false)))])
 .ret)
 .skip))
 (.seq (.region [
 D 33 (.mv (T 0)),
 D 34 (.mv (T 4)),
 D 35 (.nilck (T 33)),
 D 36 (.faddr 6 (T 35)),
 E (.store 1 (T 36) (T 34))])
 (.seq (.region [
 D 37 (.mv (T 0)),
 D 38 (.nilck (T 37)),
 D 39 (.faddr 7 (T 38)),
 D 40 (.load none (T 39)),
 D 41 (.bin .add (T 40) (C (.int .i64 1))),
 D 42 (.nilck (T 37)),
 D 43 (.faddr 7 (T 42)),
 E (.store 1 (T 43) (T 41))])
 (.seq (.region [
 D 44 (.mv (T 5)),
 D 2 (.mv (T 44)),
 D 3 (.mv (C (.bool true)))])
 .ret))))))), [.tmp 2, .tmp 3]⟩
theorem ac29_ok : compFn Try.prog Try.f29 = some ac29 := by kernel_rfl
/-- a loop of winepress/rankwalk.New; it keeps [14, 42, 13, 0, 8, 4, 6] -/
def lb34_0 : ACode := (.seq (.region [
 D 43 (.bin .lss (T 42) (C (.int .i64 256)))])
 (.seq (.cond (T 43)
 .skip
 (.exit 0))
 (.seq (.block 1 (.seq (.region [
 D 44 (.mv (T 42)),
 D 15 (.mv (T 44))])
 (.seq (.region [
 D 45 (.mv (T 13)),
 D 46 (.mv (T 15)),
 D 47 (.mv (T 14)),
 D 48 (.nilck (T 45)),
 D 49 (.faddr 7 (T 48)),
 D 50 (.iaddra 1 256 (T 49) (T 46)),
 E (.store 1 (T 50) (T 47))])
 (.seq (.region [
 D 52 (.mv (T 0)),
 D 53 (.load (some 2) (T 6)),
 D 54 (.load (some 2) (T 8)),
 D 55 (.mv (T 4)),
 D 56 (.mv (T 15)),
 D 57 (.conv .u8 (T 56)),
 D 58 (.faddr 1 (T 6)),
 D 59 (.load none (T 58)),
 D 60 (.call 58 [(T 52), (T 53), (T 54), (T 55), (T 57), (T 59)]),
 D 51 (.mv (T 60)),
 D 61 (.ext (T 51) 0),
 D 62 (.ext (T 51) 1),
 D 63 (.ext (T 51) 2),
 D 16 (.mv (T 61)),
 D 17 (.mv (T 62)),
 D 18 (.mv (T 63))])
 (.region [
 D 64 (.mv (T 14)),
 D 65 (.mv (T 16)),
 D 66 (.bin .add (T 64) (T 65)),
 D 14 (.mv (T 66))])))))
 (.region [
 D 67 (.bin .add (T 42) (C (.int .i64 1))),
 D 42 (.mv (T 67))]))))
/-- winepress/rankwalk.New -/
def ac34 : AFn := ⟨(.seq (.region [
 D 6 (.box true (T 1)),
 D 8 (.box true (T 3)),
 D 10 (.mv (C (.pointer none))),
 D 11 (.mv (C (.int .i64 0)))])
 (.seq (.seq (.region [
 D 19 (.mv (T 0)),
 D 20 (.load (some 2) (T 6)),
 D 21 (.load (some 2) (T 8)),
 D 22 (.mv (T 4)),
 D 23 (.call 57 [(T 19), (T 20), (T 21), (T 22)]),
 D 12 (.mv (T 23))])
 (.seq (.region [
 D 24 (.mv (T 12)),
 D 25 (.bin .neq (T 24) (C (.int .i64 0)))])
 (.cond (T 25)
 (.seq (.region [
 D 26 (.mv (T 12)),
 D 10 (.mv (C (.pointer none))),
 D 11 (.mv (T 26))])
 .ret)
 .skip)))
 (.seq (.seq (.region [
 D 27 (.mv (T 2)),
 D 28 (.bin .lss (T 27) (C (.int .i64 1))),
 D 29 (.mv (T 28)),
 ⟨(some 30), (some (29, false)), 0, true, .mv (T 2)⟩,
 ⟨(some 31), (some (29, false)), 0, true, .faddr 1 (T 6)⟩,
 ⟨(some 32), (some (29, false)), 0, true, .load none (T 31)⟩,
 ⟨(some 33), (some (29, false)), 0, true, .bin .gtr (T 30) (T 32)⟩,
 D 34 (.pick (T 29) (C (.bool true)) (T 33))])
 (.cond (T 34)
 (.seq (.region [
 D 10 (.mv (C (.pointer none))),
 D 11 (.mv (C (.int .i64 170)))])
 .ret)
 .skip))
 (.seq (.region [
 D 35 (.mv (T 0)),
 D 36 (.load (some 2) (T 6)),
 D 37 (.load (some 2) (T 8)),
 D 38 (.mv (T 2)),
 D 39 (.mv (T 4)),
 D 40 (.build [(.pointer none), (.int .i64 0), (.int .i64 0), (.int .i64 0), (.int .i64 0), (.int .i64 0), (.int .i64 0), (.int .i64 0), (.int .i64 0), (.int .i64 0), (.int .i64 0), (.int .i64 0), (.int .i64 0), (.int .i64 0), (.int .i64 0), (.int .i64 0), (.int .i64 0), (.int .i64 0), (.int .i64 0), (.int .i64 0), (.int .i64 0), (.int .i64 0), (.int .i64 0), (.int .i64 0), (.int .i64 0), (.int .i64 0), (.int .i64 0), (.int .i64 0), (.int .i64 0), (.int .i64 0), (.int .i64 0), (.int .i64 0), (.int .i64 0), (.int .i64 0), (.int .i64 0), (.int .i64 0), (.int .i64 0), (.int .i64 0), (.int .i64 0), (.int .i64 0), (.int .i64 0), (.int .i64 0), (.int .i64 0), (.int .i64 0), (.int .i64 0), (.int .i64 0), (.int .i64 0), (.int .i64 0), (.int .i64 0), (.int .i64 0), (.int .i64 0), (.int .i64 0), (.int .i64 0), (.int .i64 0), (.int .i64 0), (.int .i64 0), (.int .i64 0), (.int .i64 0), (.int .i64 0), (.int .i64 0), (.int .i64 0), (.int .i64 0), (.int .i64 0), (.int .i64 0), (.int .i64 0), (.int .i64 0), (.int .i64 0), (.int .i64 0), (.int .i64 0), (.int .i64 0), (.int .i64 0), (.int .i64 0), (.int .i64 0), (.int .i64 0), (.int .i64 0), (.int .i64 0), (.int .i64 0), (.int .i64 0), (.int .i64 0), (.int .i64 0), (.int .i64 0), (.int .i64 0), (.int .i64 0), (.int .i64 0), (.int .i64 0), (.int .i64 0), (.int .i64 0), (.int .i64 0), (.int .i64 0), (.int .i64 0), (.int .i64 0), (.int .i64 0), (.int .i64 0), (.int .i64 0), (.int .i64 0), (.int .i64 0), (.int .i64 0), (.int .i64 0), (.int .i64 0), (.int .i64 0), (.int .i64 0), (.int .i64 0), (.int .i64 0), (.int .i64 0), (.int .i64 0), (.int .i64 0), (.int .i64 0), (.int .i64 0), (.int .i64 0), (.int .i64 0), (.int .i64 0), (.int .i64 0), (.int .i64 0), (.int .i64 0), (.int .i64 0), (.int .i64 0), (.int .i64 0), (.int .i64 0), (.int .i64 0), (.int .i64 0), (.int .i64 0), (.int .i64 0), (.int .i64 0), (.int .i64 0), (.int .i64 0), (.int .i64 0), (.int .i64 0), (.int .i64 0), (.int .i64 0), (.int .i64 0), (.int .i64 0), (.int .i64 0), (.int .i64 0), (.int .i64 0), (.int .i64 0), (.int .i64 0), (.int .i64 0), (.int .i64 0), (.int .i64 0), (.int .i64 0), (.int .i64 0), (.int .i64 0), (.int .i64 0), (.int .i64 0), (.int .i64 0), (.int .i64 0), (.int .i64 0), (.int .i64 0), (.int .i64 0), (.int .i64 0), (.int .i64 0), (.int .i64 0), (.int .i64 0), (.int .i64 0), (.int .i64 0), (.int .i64 0), (.int .i64 0), (.int .i64 0), (.int .i64 0), (.int .i64 0), (.int .i64 0), (.int .i64 0), (.int .i64 0), (.int .i64 0), (.int .i64 0), (.int .i64 0), (.int .i64 0), (.int .i64 0), (.int .i64 0), (.int .i64 0), (.int .i64 0), (.int .i64 0), (.int .i64 0), (.int .i64 0), (.int .i64 0), (.int .i64 0), (.int .i64 0), (.int .i64 0), (.int .i64 0), (.int .i64 0), (.int .i64 0), (.int .i64 0), (.int .i64 0), (.int .i64 0), (.int .i64 0), (.int .i64 0), (.int .i64 0), (.int .i64 0), (.int .i64 0), (.int .i64 0), (.int .i64 0), (.int .i64 0), (.int .i64 0), (.int .i64 0), (.int .i64 0), (.int .i64 0), (.int .i64 0), (.int .i64 0), (.int .i64 0), (.int .i64 0), (.int .i64 0), (.int .i64 0), (.int .i64 0), (.int .i64 0), (.int .i64 0), (.int .i64 0), (.int .i64 0), (.int .i64 0), (.int .i64 0), (.int .i64 0), (.int .i64 0), (.int .i64 0), (.int .i64 0), (.int .i64 0), (.int .i64 0), (.int .i64 0), (.int .i64 0), (.int .i64 0), (.int .i64 0), (.int .i64 0), (.int .i64 0), (.int .i64 0), (.int .i64 0), (.int .i64 0), (.int .i64 0), (.int .i64 0), (.int .i64 0), (.int .i64 0), (.int .i64 0), (.int .i64 0), (.int .i64 0), (.int .i64 0), (.int .i64 0), (.int .i64 0), (.int .i64 0), (.int .i64 0), (.int .i64 0), (.int .i64 0), (.int .i64 0), (.int .i64 0), (.int .i64 0), (.int .i64 0), (.int .i64 0), (.int .i64 0), (.int .i64 0), (.int .i64 0), (.int .i64 0), (.int .i64 0), (.int .i64 0), (.int .i64 0), (.int .i64 0), (.int .i64 0), (.int .i64 0), (.int .i64 0), (.int .i64 0), (.int .i64 0), (.int .i64 0), (.int .i64 0), (.int .i64 0), (.int .i64 0), (.int .i64 0), (.int .i64 0), (.int .i64 0), (.int .i64 0), (.int .i64 0), (.int .i64 0)] [(0, 1, (T 35)), (1, 2, (T 36)), (3, 2, (T 37)), (5, 1, (T 38)), (6, 1, (T 39))]),
 D 41 (.box false (T 40)),
 D 13 (.mv (T 41))])
 (.seq (.region [
 D 14 (.mv (C (.int .i64 0)))])
 (.seq (.seq (.region [
 D 42 (.mv (C (.int .i64 0)))])
 (.block 0 (.loop [14, 42, 13, 0, 8, 4, 6] lb34_0)))
 (.seq (.region [
 D 68 (.mv (T 13)),
 D 10 (.mv (T 68)),
 D 11 (.mv (C (.int .i64 0)))])
 .ret))))))), [.tmp 10, .tmp 11]⟩
theorem ac34_ok : compFn Try.prog Try.f34 = some ac34 := by kernel_rfl
/-- a loop of (*winepress/rankwalk.Walk).Valid; it keeps [3, 4, 0, 16, 17] -/
def lb35_0 : ACode := (.seq (.region [
 D 18 (.bin .lss (T 17) (T 16))])
 (.seq (.cond (T 18)
 .skip
 (.exit 0))
 (.seq (.block 1 (.seq (.region [
 D 20 (.mv (T 4)),
 D 21 (.mv (T 3)),
 D 22 (.callv (T 20) [(T 21)]),
 D 19 (.mv (T 22)),
 D 23 (.ext (T 19) 0),
 D 24 (.ext (T 19) 1),
 D 25 (.ext (T 19) 2),
 D 5 (.mv (T 23)),
 D 6 (.mv (T 24)),
 D 7 (.mv (T 25))])
 (.seq (.seq (.region [
 D 26 (.mv (T 7)),
 D 27 (.un .not (T 26))])
 (.cond (T 27)
 (.seq (.region [
 D 2 (.mv (C (.bool false)))])
 .ret)
 .skip))
 (.region [
 D 28 (.mv (T 5)),
 D 3 (.mv (T 28))]))))
 (.region [
 D 29 (.bin .add (T 17) (C (.int .i64 1))),
 D 17 (.mv (T 29))]))))
/-- (*winepress/rankwalk.Walk).Valid -/
def ac35 : AFn := ⟨(.seq (.region [
 D 2 (.mv (C (.bool false)))])
 (.seq (.seq (.region [
 D 8 (.mv (T 0)),
 D 9 (.eqs false .ptr (T 8) (C (.pointer none)))])
 (.cond (T 9)
 (.seq (.region [
 D 2 (.mv (C (.bool false)))])
 .ret)
 .skip))
 (.seq (.region [
 D 10 (.mv (T 0)),
 D 11 (.mkfn 59 [(T 10)] []),
 D 3 (.mv (C (.int .i64 0))),
 D 4 (.mv (T 11))])
 (.seq (.seq (.region [
 D 12 (.mv (T 0)),
 D 13 (.nilck (T 12)),
 D 14 (.faddr 1 (T 13)),
 D 15 (.faddr 1 (T 14)),
 D 16 (.load none (T 15)),
 D 17 (.mv (C (.int .i64 0)))])
 (.block 0 (.loop [3, 4, 0, 16, 17] lb35_0)))
 (.seq (.region [
 D 30 (.mv (T 3)),
 D 31 (.mv (T 0)),
 D 32 (.nilck (T 31)),
 D 33 (.faddr 5 (T 32)),
 D 34 (.load none (T 33)),
 D 35 (.bin .eql (T 30) (T 34)),
 D 2 (.mv (T 35))])
 .ret))))), [.tmp 2]⟩
theorem ac35_ok : compFn Try.prog Try.f35 = some ac35 := by kernel_rfl
/-- (*winepress/rankwalk.Walk).Steps -/
def ac36 : AFn := ⟨(.seq (.region [
 D 2 (.mv (C (.int .i64 0)))])
 (.seq (.seq (.region [
 D 3 (.mv (T 0)),
 D 4 (.eqs false .ptr (T 3) (C (.pointer none)))])
 (.cond (T 4)
 (.seq (.region [
 D 2 (.mv (C (.int .i64 0)))])
 .ret)
 .skip))
 (.seq (.region [
 D 5 (.mv (T 0)),
 D 6 (.nilck (T 5)),
 D 7 (.faddr 265 (T 6)),
 D 8 (.load none (T 7)),
 D 2 (.mv (T 8))])
 .ret))), [.tmp 2]⟩
theorem ac36_ok : compFn Try.prog Try.f36 = some ac36 := by kernel_rfl
/-- (*winepress/rankwalk.Walk).Next -/
def ac37 : AFn := ⟨(.seq (.region [
 D 2 (.mv (C (.int .u8 0))),
 D 3 (.mv (C (.bool false)))])
 (.seq (.seq (.drawn [
 ⟨(some 7), none, 0, false, .mv (T 0)⟩,
 ⟨(some 8), none, 1, false, .eqs false .ptr (T 7) (C (.pointer none))⟩,
 ⟨(some 9), none, 3, false, .mv (T 8)⟩,
 ⟨(some 10), (some (9, false)), 7, false, .mv (T 0)⟩,
 ⟨(some 11), (some (9, false)), 15, false, .nilck (T 10)⟩,
 ⟨(some 12), (some (9, false)), 31, false, .faddr 264 (T 11)⟩,
 ⟨(some 13), (some (9, false)), 63, false, .load none (T 12)⟩,
 ⟨(some 14), (some (9, false)), 7, false, .mv (T 0)⟩,
 ⟨(some 15), (some (9, false)), 135, false, .nilck (T 14)⟩,
 ⟨(some 16), (some (9, false)), 391, false, .faddr 1 (T 15)⟩,
 ⟨(some 17), (some (9, false)), 903, false, .faddr 1 (T 16)⟩,
 ⟨(some 18), (some (9, false)), 1927, false, .load none (T 17)⟩,
 ⟨(some 19), (some (9, false)), 4095, false, .bin .eql (T 13) (T 18)⟩,
 ⟨(some 20), none, 8191, false, .pick (T 9) (C (.bool true)) (T 19)⟩])
 (.cond (T 20)
 (.seq (.region [
 D 2 (.mv (C (.int .u8 0))),
 D 3 (.mv (C (.bool false)))])
 .ret)
 .skip))
 (.seq (.region [
 D 22 (.mv (T 0)),
 D 23 (.mv (T 0)),
 D 24 (.nilck (T 23)),
 D 25 (.faddr 263 (T 24)),
 D 26 (.load none (T 25)),
 D 27 (.call 59 [(T 22), (T 26)]),
 D 21 (.mv (T 27)),
 D 28 (.ext (T 21) 0),
 D 29 (.ext (T 21) 1),
 D 30 (.ext (T 21) 2),
 D 4 (.mv (T 28)),
 D 5 (.mv (T 29)),
 D 6 (.mv (T 30))])
 (.seq (.seq (.region [
 D 31 (.mv (T 6)),
 D 32 (.un .not (T 31))])
 (.cond (T 32)
 (.seq (.region [
 D 2 (.mv (C (.int .u8 0))),
 D 3 (.mv (C (.bool false)))])
 .ret)
 .skip))
 (.seq (.region [
 D 33 (.mv (T 0)),
 D 34 (.mv (T 4)),
 D 35 (.nilck (T 33)),
 D 36 (.faddr 263 (T 35)),
 E (.store 1 (T 36) (T 34))])
 (.seq (.region [
 D 37 (.mv (T 0)),
 D 38 (.nilck (T 37)),
 D 39 (.faddr 264 (T 38)),
 D 40 (.load none (T 39)),
 D 41 (.bin .add (T 40) (C (.int .i64 1))),
 D 42 (.nilck (T 37)),
 D 43 (.faddr 264 (T 42)),
 E (.store 1 (T 43) (T 41))])
 (.seq (.region [
 D 44 (.mv (T 5)),
 D 2 (.mv (T 44)),
 D 3 (.mv (C (.bool true)))])
 .ret))))))), [.tmp 2, .tmp 3]⟩
theorem ac37_ok : compFn Try.prog Try.f37 = some ac37 := by kernel_rfl
/-- (*winepress/rankwalk.Walk).Told -/
def ac38 : AFn := ⟨(.seq (.region [
 D 2 (.mv (C (.int .i64 0)))])
 (.seq (.seq (.region [
 D 3 (.mv (T 0)),
 D 4 (.eqs false .ptr (T 3) (C (.pointer none)))])
 (.cond (T 4)
 (.seq (.region [
 D 2 (.mv (C (.int .i64 0)))])
 .ret)
 .skip))
 (.seq (.region [
 D 5 (.mv (T 0)),
 D 6 (.nilck (T 5)),
 D 7 (.faddr 264 (T 6)),
 D 8 (.load none (T 7)),
 D 2 (.mv (T 8))])
 .ret))), [.tmp 2]⟩
theorem ac38_ok : compFn Try.prog Try.f38 = some ac38 := by kernel_rfl
/-- (*winepress/tablewalk.Full).Reset -/
def ac43 : AFn := ⟨(.seq (.region [
 D 2 (.mv (T 0)),
 D 3 (.eqs true .ptr (T 2) (C (.pointer none)))])
 (.cond (T 3)
 (.region [
 D 4 (.mv (T 0)),
 D 5 (.mv (T 0)),
 D 6 (.nilck (T 4)),
 D 7 (.faddr 6 (T 6)),
 E (.store 1 (T 7) (C (.int .i64 0))),
 D 8 (.nilck (T 5)),
 D 9 (.faddr 7 (T 8)),
 E (.store 1 (T 9) (C (.int .i64 0)))])
 .skip)), []⟩
theorem ac43_ok : compFn Try.prog Try.f43 = some ac43 := by kernel_rfl
/-- (*winepress/arena.Arena).Has -/
def ac44 : AFn := ⟨(.seq (.region [
 D 3 (.box true (T 1)),
 D 4 (.mv (C (.bool false)))])
 (.seq (.drawn [
 ⟨(some 5), none, 0, false, .mv (T 0)⟩,
 ⟨(some 6), none, 1, false, .eqs true .ptr (T 5) (C (.pointer none))⟩,
 ⟨(some 7), none, 3, false, .mv (T 6)⟩,
 ⟨(some 8), (some (7, true)), 7, false, .faddr 0 (T 3)⟩,
 ⟨(some 9), (some (7, true)), 15, true, .load none (T 8)⟩,
 ⟨(some 10), (some (7, true)), 31, false, .bin .geq (T 9) (C (.int .i64 0))⟩,
 ⟨(some 11), none, 63, false, .pick (T 7) (T 10) (C (.bool false))⟩,
 ⟨(some 12), none, 127, false, .mv (T 11)⟩,
 ⟨(some 13), (some (12, true)), 255, false, .faddr 1 (T 3)⟩,
 ⟨(some 14), (some (12, true)), 511, true, .load none (T 13)⟩,
 ⟨(some 15), (some (12, true)), 1023, false, .bin .geq (T 14) (C (.int .i64 0))⟩,
 ⟨(some 16), none, 2047, false, .pick (T 12) (T 15) (C (.bool false))⟩,
 ⟨(some 17), none, 4095, false, .mv (T 16)⟩,
 ⟨(some 18), (some (17, true)), 8191, false, .faddr 0 (T 3)⟩,
 ⟨(some 19), (some (17, true)), 16383, false, .load none (T 18)⟩,
 ⟨(some 20), (some (17, true)), 8191, false, .mv (T 0)⟩,
 ⟨(some 21), (some (17, true)), 40959, false, .nilck (T 20)⟩,
 ⟨(some 22), (some (17, true)), 106495, false, .faddr 1 (T 21)⟩,
 ⟨(some 23), (some (17, true)), 237567, false, .load none (T 22)⟩,
 ⟨(some 24), (some (17, true)), 524287, false, .bin .leq (T 19) (T 23)⟩,
 ⟨(some 25), none, 1048575, false, .pick (T 17) (T 24) (C (.bool false))⟩,
 ⟨(some 26), none, 2097151, false, .mv (T 25)⟩,
 ⟨(some 27), (some (26, true)), 4194303, false, .faddr 1 (T 3)⟩,
 ⟨(some 28), (some (26, true)), 8388607, false, .load none (T 27)⟩,
 ⟨(some 29), (some (26, true)), 4194303, false, .mv (T 0)⟩,
 ⟨(some 30), (some (26, true)), 20971519, false, .nilck (T 29)⟩,
 ⟨(some 31), (some (26, true)), 54525951, false, .faddr 1 (T 30)⟩,
 ⟨(some 32), (some (26, true)), 121634815, false, .load none (T 31)⟩,
 ⟨(some 33), (some (26, true)), 4194303, false, .faddr 0 (T 3)⟩,
 ⟨(some 34), (some (26, true)), 272629759, false, .load none (T 33)⟩,
 ⟨(some 35), (some (26, true)), 1061158911, false, .bin .sub (T 32) (T 34)⟩,
 ⟨(some 36), (some (26, true)), 2147483647, false, .bin .leq (T 28) (T 35)⟩,
 ⟨(some 37), none, 4294967295, false, .pick (T 26) (T 36) (C (.bool false))⟩,
 ⟨(some 4), none, 8589934591, false, .mv (T 37)⟩])
 .ret)), [.tmp 4]⟩
theorem ac44_ok : compFn Try.prog Try.f44 = some ac44 := by kernel_rfl
/-- a loop of winepress/rank.Less; it keeps [8, 24, 4, 5] -/
def lb47_0 : ACode := (.seq (.region [
 D 25 (.bin .lss (T 24) (C (.int .i64 256)))])
 (.seq (.cond (T 25)
 .skip
 (.exit 2))
 (.seq (.block 3 (.seq (.region [
 D 26 (.mv (T 24)),
 D 9 (.mv (T 26))])
 (.seq (.region [
 D 27 (.mv (T 9)),
 D 28 (.mv (T 8)),
 D 29 (.iaddra 1 256 (T 4) (T 27)),
 E (.store 1 (T 29) (T 28))])
 (.region [
 D 30 (.mv (T 8)),
 D 31 (.mv (T 9)),
 D 32 (.iaddra 1 256 (T 5) (T 31)),
 D 33 (.load none (T 32)),
 D 34 (.bin .add (T 30) (T 33)),
 D 8 (.mv (T 34))]))))
 (.region [
 D 35 (.bin .add (T 24) (C (.int .i64 1))),
 D 24 (.mv (T 35))]))))
/-- a loop of winepress/rank.Less; it keeps [14, 13, 4, 12, 5] -/
def lb47_1 : ACode := (.seq (.region [
 D 15 (.bin .lss (T 14) (T 13))])
 (.seq (.cond (T 15)
 .skip
 (.exit 0))
 (.seq (.block 1 (.seq (.region [
 D 16 (.iaddr 1 (T 12) (T 14)),
 D 17 (.load none (T 16)),
 D 7 (.mv (T 17))])
 (.region [
 D 18 (.mv (T 7)),
 D 19 (.iaddra 1 256 (T 5) (T 18)),
 D 20 (.load none (T 19)),
 D 21 (.bin .add (T 20) (C (.int .i64 1))),
 D 22 (.iaddra 1 256 (T 5) (T 18)),
 E (.store 1 (T 22) (T 21))])))
 (.region [
 D 23 (.bin .add (T 14) (C (.int .i64 1))),
 D 14 (.mv (T 23))]))))
/-- winepress/rank.Less -/
def ac47 : AFn := ⟨(.seq (.region [
 D 3 (.box true (T 1)),
 D 4 (.alloc true (List.replicate 256 (.int .i64 0)))])
 (.seq (.region [
 D 5 (.alloc true (List.replicate 256 (.int .i64 0)))])
 (.seq (.seq (.region [
 D 10 (.mv (T 0)),
 D 11 (.load (some 2) (T 3)),
 D 12 (.call 20 [(T 10), (T 11)]),
 D 13 (.len (T 12)),
 D 14 (.mv (C (.int .i64 0)))])
 (.block 0 (.loop [14, 13, 4, 12, 5] lb47_1)))
 (.seq (.region [
 D 8 (.mv (C (.int .i64 0)))])
 (.seq (.seq (.region [
 D 24 (.mv (C (.int .i64 0)))])
 (.block 2 (.loop [8, 24, 4, 5] lb47_0)))
 (.seq (.region [
 D 36 (.load (some 256) (T 4)),
 E (.store 256 (T 4) (T 36))])
 .ret)))))), [.cell 4 (some 256)]⟩
theorem ac47_ok : compFn Try.prog Try.f47 = some ac47 := by kernel_rfl
/-- (*winepress/tablewalk.Full).byte -/
def ac48 : AFn := ⟨(.seq (.region [
 D 4 (.mv (C (.int .u8 0))),
 D 5 (.mv (C (.bool false)))])
 (.seq (.seq (.region [
 D 6 (.mv (T 1)),
 D 7 (.mv (T 0)),
 D 8 (.nilck (T 7)),
 D 9 (.faddr 5 (T 8)),
 D 10 (.load none (T 9)),
 D 11 (.bin .eql (T 6) (T 10))])
 (.cond (T 11)
 (.seq (.region [
 D 4 (.mv (C (.int .u8 0))),
 D 5 (.mv (C (.bool false)))])
 .ret)
 .skip))
 (.seq (.seq (.region [
 D 12 (.mv (T 1)),
 D 13 (.mv (T 0)),
 D 14 (.nilck (T 13)),
 D 15 (.faddr 5 (T 14)),
 D 16 (.load none (T 15)),
 D 17 (.bin .gtr (T 12) (T 16))])
 (.cond (T 17)
 (.region [
 D 18 (.mv (T 1)),
 D 19 (.bin .sub (T 18) (C (.int .i64 1))),
 D 1 (.mv (T 19))])
 .skip))
 (.seq (.drawn [
 ⟨(some 20), none, 0, false, .mv (T 0)⟩,
 ⟨(some 21), none, 1, false, .nilck (T 20)⟩,
 ⟨(some 22), none, 3, false, .faddr 0 (T 21)⟩,
 ⟨(some 23), none, 7, false, .load none (T 22)⟩,
 ⟨(some 24), none, 0, false, .mv (T 0)⟩,
 ⟨(some 25), none, 16, false, .nilck (T 24)⟩,
 ⟨(some 26), none, 48, false, .faddr 1 (T 25)⟩,
 ⟨(some 27), none, 112, false, .load (some 2) (T 26)⟩,
 ⟨(some 28), none, 0, false, .mv (T 1)⟩,
 ⟨(some 29), none, 511, true, .call 61 [(T 23), (T 27), (T 28)]⟩,
 ⟨(some 30), none, 1023, false, .ext (T 29) 0⟩,
 ⟨(some 31), none, 1023, false, .ext (T 29) 1⟩,
 ⟨(some 4), none, 4095, false, .mv (T 30)⟩,
 ⟨(some 5), none, 8191, false, .mv (T 31)⟩])
 .ret)))), [.tmp 4, .tmp 5]⟩
theorem ac48_ok : compFn Try.prog Try.f48 = some ac48 := by kernel_rfl
/-- a loop of (*winepress/arena.Arena).SetWord; it keeps [17, 16, 9, 3] -/
def lb49_0 : ACode := (.seq (.region [
 D 18 (.bin .lss (T 17) (T 16))])
 (.seq (.cond (T 18)
 .skip
 (.exit 0))
 (.seq (.block 1 (.seq (.region [
 D 19 (.mv (T 17)),
 D 10 (.mv (T 19))])
 (.region [
 D 20 (.mv (T 9)),
 D 21 (.mv (T 10)),
 D 22 (.mv (T 3)),
 D 23 (.mv (T 10)),
 D 24 (.bin .mul (C (.int .i64 8)) (T 23)),
 D 25 (.bin .shr (T 22) (T 24)),
 D 26 (.conv .u8 (T 25)),
 D 27 (.iaddr 1 (T 20) (T 21)),
 E (.store 1 (T 27) (T 26))])))
 (.region [
 D 28 (.bin .add (T 17) (C (.int .i64 1))),
 D 17 (.mv (T 28))]))))
/-- (*winepress/arena.Arena).SetWord -/
def ac49 : AFn := ⟨(.seq (.region [
 D 5 (.box true (T 1)),
 D 8 (.mv (C (.bool false)))])
 (.seq (.region [
 D 11 (.mv (T 0)),
 D 12 (.load (some 2) (T 5)),
 D 13 (.mv (T 2)),
 D 14 (.call 51 [(T 11), (T 12), (T 13)]),
 D 9 (.mv (T 14))])
 (.seq (.seq (.region [
 D 15 (.mv (T 9)),
 D 16 (.len (T 15)),
 D 17 (.mv (C (.int .i64 0)))])
 (.block 0 (.loop [17, 16, 9, 3] lb49_0)))
 (.seq (.region [
 D 29 (.mv (T 9)),
 D 30 (.eqs true .slice (T 29) (C (.slice none 0 0))),
 D 8 (.mv (T 30))])
 .ret)))), [.tmp 8]⟩
theorem ac49_ok : compFn Try.prog Try.f49 = some ac49 := by kernel_rfl
/-- bytes.Clone -/
def ac50 : AFn := ⟨(.seq (.region [
 D 2 (.mv (C (.slice none 0 0)))])
 (.seq (.seq (.region [
 D 3 (.mv (T 0)),
 D 4 (.eqs false .slice (T 3) (C (.slice none 0 0)))])
 (.cond (T 4)
 (.seq (.region [
 D 2 (.mv (C (.slice none 0 0)))])
 .ret)
 .skip))
 (.seq (.region [
 D 5 (.bslice true 1 0 [] []),
 D 6 (.mv (T 0)),
 D 7 (.append true 1 (T 5) (T 6)),
 D 2 (.mv (T 7))])
 .ret))), [.tmp 2]⟩
theorem ac50_ok : compFn Try.prog Try.f50 = some ac50 := by kernel_rfl
/-- (*winepress/arena.Arena).word -/
def ac51 : AFn := ⟨(.seq (.region [
 D 4 (.box true (T 1)),
 D 6 (.mv (C (.slice none 0 0)))])
 (.seq (.seq (.region [
 D 7 (.mv (T 2)),
 D 8 (.bin .lss (T 7) (C (.int .i64 0))),
 D 9 (.mv (T 8)),
 ⟨(some 10), (some (9, false)), 0, true, .mv (T 2)⟩,
 ⟨(some 11), (some (9, false)), 0, true, .bin .gtr (T 10) (C (.int .i64 1048576))⟩,
 D 12 (.pick (T 9) (C (.bool true)) (T 11))])
 (.cond (T 12)
 (.seq (.region [
 D 6 (.mv (C (.slice none 0 0)))])
 .ret)
 .skip))
 (.seq (.region [
 D 13 (.mv (T 0)),
 D 14 (.load (some 2) (T 4)),
 D 15 (.mv (T 2)),
 D 16 (.bin .shl (T 15) (C (.int .u64 2))),
 D 17 (.call 62 [(T 13), (T 14), (T 16), (C (.int .i64 4))]),
 D 6 (.mv (T 17))])
 .ret))), [.tmp 6]⟩
theorem ac51_ok : compFn Try.prog Try.f51 = some ac51 := by kernel_rfl
/-- (*winepress/tablewalk.Full).behind -/
def ac55 : AFn := ⟨(.seq (.region [
 D 4 (.mv (C (.int .i64 0))),
 D 5 (.mv (C (.int .u8 0))),
 D 6 (.mv (C (.bool false)))])
 (.seq (.region [
 D 11 (.mv (T 0)),
 D 12 (.mv (T 1)),
 D 13 (.call 48 [(T 11), (T 12)]),
 D 10 (.mv (T 13)),
 D 14 (.ext (T 10) 0),
 D 15 (.ext (T 10) 1),
 D 5 (.mv (T 14)),
 D 7 (.mv (T 15))])
 (.seq (.drawn [
 ⟨(some 17), none, 0, false, .mv (T 0)⟩,
 ⟨(some 18), none, 1, false, .nilck (T 17)⟩,
 ⟨(some 19), none, 3, false, .faddr 0 (T 18)⟩,
 ⟨(some 20), none, 7, false, .load none (T 19)⟩,
 ⟨(some 21), none, 0, false, .mv (T 0)⟩,
 ⟨(some 22), none, 16, false, .nilck (T 21)⟩,
 ⟨(some 23), none, 48, false, .faddr 3 (T 22)⟩,
 ⟨(some 24), none, 112, false, .load (some 2) (T 23)⟩,
 ⟨(some 25), none, 0, false, .mv (T 1)⟩,
 ⟨(some 26), none, 511, true, .call 22 [(T 20), (T 24), (T 25)]⟩,
 ⟨(some 16), none, 1023, false, .mv (T 26)⟩,
 ⟨(some 27), none, 2047, false, .ext (T 16) 0⟩,
 ⟨(some 28), none, 2047, false, .ext (T 16) 1⟩,
 ⟨(some 8), none, 4095, false, .mv (T 27)⟩,
 ⟨(some 9), none, 16383, false, .mv (T 28)⟩])
 (.seq (.seq (.region [
 D 29 (.mv (T 7)),
 D 30 (.un .not (T 29)),
 D 31 (.mv (T 30)),
 ⟨(some 32), (some (31, false)), 0, true, .mv (T 9)⟩,
 ⟨(some 33), (some (31, false)), 0, true, .un .not (T 32)⟩,
 D 34 (.pick (T 31) (C (.bool true)) (T 33))])
 (.cond (T 34)
 (.seq (.region [
 D 4 (.mv (C (.int .i64 0))),
 D 5 (.mv (C (.int .u8 0))),
 D 6 (.mv (C (.bool false)))])
 .ret)
 .skip))
 (.seq (.region [
 D 35 (.mv (T 0)),
 D 36 (.nilck (T 35)),
 D 37 (.faddr 8 (T 36)),
 D 38 (.load none (T 37)),
 D 39 (.bin .add (T 38) (C (.int .i64 1))),
 D 40 (.nilck (T 35)),
 D 41 (.faddr 8 (T 40)),
 E (.store 1 (T 41) (T 39))])
 (.seq (.region [
 D 42 (.mv (T 8)),
 D 43 (.conv .i64 (T 42)),
 D 44 (.mv (T 5)),
 D 4 (.mv (T 43)),
 D 5 (.mv (T 44)),
 D 6 (.mv (C (.bool true)))])
 .ret)))))), [.tmp 4, .tmp 5, .tmp 6]⟩
theorem ac55_ok : compFn Try.prog Try.f55 = some ac55 := by kernel_rfl
/-- a loop of winepress/rank.Make; it keeps [55, 3, 9, 5, 27, 28, 54, 0, 6, 13] -/
def lb57_0 : ACode := (.seq (.region [
 D 56 (.bin .lss (T 55) (C (.int .i64 256)))])
 (.seq (.cond (T 56)
 .skip
 (.exit 2))
 (.seq (.block 3 (.seq (.region [
 D 57 (.mv (T 55)),
 D 58 (.idx 1 256 none (T 54) (T 55)),
 D 14 (.mv (T 57)),
 D 15 (.mv (T 58))])
 (.region [
 D 59 (.mv (T 0)),
 D 60 (.load (some 2) (T 6)),
 D 61 (.mv (T 13)),
 D 62 (.mv (T 14)),
 D 63 (.bin .add (T 61) (T 62)),
 D 64 (.mv (T 15)),
 D 65 (.conv .u32 (T 64)),
 D 66 (.call 49 [(T 59), (T 60), (T 63), (T 65)])])))
 (.region [
 D 67 (.bin .add (T 55) (C (.int .i64 1))),
 D 55 (.mv (T 67))]))))
/-- a loop of winepress/rank.Make; it keeps [28, 27, 5, 6, 0, 9, 3] -/
def lb57_1 : ACode := (.seq (.region [
 D 29 (.bin .lss (T 28) (T 27))])
 (.seq (.cond (T 29)
 .skip
 (.exit 0))
 (.seq (.block 1 (.seq (.region [
 D 30 (.mv (T 28)),
 D 10 (.mv (T 30))])
 (.seq (.region [
 D 32 (.mv (T 0)),
 D 33 (.load (some 2) (T 5)),
 D 34 (.mv (T 10)),
 D 35 (.call 61 [(T 32), (T 33), (T 34)]),
 D 31 (.mv (T 35)),
 D 36 (.ext (T 31) 0),
 D 37 (.ext (T 31) 1),
 D 11 (.mv (T 36)),
 D 12 (.mv (T 37))])
 (.seq (.region [
 D 38 (.mv (T 11)),
 D 39 (.iaddra 1 256 (T 9) (T 38)),
 D 40 (.load none (T 39)),
 D 41 (.bin .add (T 40) (C (.int .i64 1))),
 D 42 (.iaddra 1 256 (T 9) (T 38)),
 E (.store 1 (T 42) (T 41))])
 (.seq (.seq (.region [
 D 43 (.mv (T 10)),
 D 44 (.bin .add (T 43) (C (.int .i64 1))),
 D 45 (.mv (T 3)),
 D 46 (.bin .rem (T 44) (T 45)),
 D 47 (.bin .neq (T 46) (C (.int .i64 0)))])
 (.cond (T 47)
 (.exit 1)
 .skip))
 (.seq (.region [
 D 48 (.mv (T 10)),
 D 49 (.bin .add (T 48) (C (.int .i64 1))),
 D 50 (.mv (T 3)),
 D 51 (.bin .quo (T 49) (T 50)),
 D 52 (.bin .sub (T 51) (C (.int .i64 1))),
 D 53 (.bin .mul (T 52) (C (.int .i64 256))),
 D 13 (.mv (T 53))])
 (.seq (.region [
 D 54 (.load (some 256) (T 9)),
 D 55 (.mv (C (.int .i64 0)))])
 (.block 2 (.loop [55, 3, 9, 5, 27, 28, 54, 0, 6, 13] lb57_0)))))))))
 (.region [
 D 68 (.bin .add (T 28) (C (.int .i64 1))),
 D 28 (.mv (T 68))]))))
/-- winepress/rank.Make -/
def ac57 : AFn := ⟨(.seq (.region [
 D 5 (.box true (T 1)),
 D 6 (.box true (T 2)),
 D 8 (.mv (C (.int .i64 0)))])
 (.seq (.seq (.region [
 D 16 (.mv (T 0)),
 D 17 (.load (some 2) (T 5)),
 D 18 (.load (some 2) (T 6)),
 D 19 (.mv (T 3)),
 D 20 (.call 67 [(T 16), (T 17), (T 18), (T 19)]),
 D 21 (.un .not (T 20))])
 (.cond (T 21)
 (.seq (.region [
 D 8 (.mv (C (.int .i64 2)))])
 .ret)
 .skip))
 (.seq (.region [
 D 9 (.alloc true (List.replicate 256 (.int .i64 0)))])
 (.seq (.seq (.region [
 D 22 (.faddr 1 (T 5)),
 D 23 (.load none (T 22)),
 D 24 (.mv (T 3)),
 D 25 (.bin .quo (T 23) (T 24)),
 D 26 (.mv (T 3)),
 D 27 (.bin .mul (T 25) (T 26)),
 D 28 (.mv (C (.int .i64 0)))])
 (.block 0 (.loop [28, 27, 5, 6, 0, 9, 3] lb57_1)))
 (.seq (.region [
 D 8 (.mv (C (.int .i64 0)))])
 .ret))))), [.tmp 8]⟩
theorem ac57_ok : compFn Try.prog Try.f57 = some ac57 := by kernel_rfl
/-- a loop of winepress/rank.Rank; it keeps [12, 13, 18, 5, 0, 7, 4] -/
def lb58_0 : ACode := (.seq (.seq (.region [
 D 56 (.mv (T 18)),
 D 57 (.mv (T 5)),
 D 58 (.bin .lss (T 56) (T 57))])
 (.cond (T 58)
 .skip
 (.exit 0)))
 (.seq (.block 1 (.seq (.seq (.region [
 D 62 (.mv (T 0)),
 D 63 (.load (some 2) (T 7)),
 D 64 (.mv (T 18)),
 D 65 (.call 61 [(T 62), (T 63), (T 64)]),
 D 61 (.mv (T 65)),
 D 66 (.ext (T 61) 0),
 D 67 (.ext (T 61) 1),
 D 19 (.mv (T 66)),
 D 20 (.mv (T 67))])
 (.seq (.region [
 D 68 (.mv (T 19)),
 D 69 (.mv (T 4)),
 D 70 (.bin .eql (T 68) (T 69))])
 (.cond (T 70)
 (.region [
 D 71 (.mv (T 12)),
 D 72 (.bin .add (T 71) (C (.int .i64 1))),
 D 12 (.mv (T 72))])
 .skip)))
 (.region [
 D 73 (.mv (T 13)),
 D 74 (.bin .add (T 73) (C (.int .i64 1))),
 D 13 (.mv (T 74))])))
 (.region [
 D 59 (.mv (T 18)),
 D 60 (.bin .add (T 59) (C (.int .i64 1))),
 D 18 (.mv (T 60))])))
/-- winepress/rank.Rank -/
def ac58 : AFn := ⟨(.seq (.region [
 D 7 (.box true (T 1)),
 D 8 (.box true (T 2)),
 D 12 (.mv (C (.int .i64 0))),
 D 13 (.mv (C (.int .i64 0))),
 D 14 (.mv (C (.bool false)))])
 (.seq (.seq (.region [
 D 21 (.mv (T 0)),
 D 22 (.load (some 2) (T 7)),
 D 23 (.load (some 2) (T 8)),
 D 24 (.mv (T 3)),
 D 25 (.call 67 [(T 21), (T 22), (T 23), (T 24)]),
 D 26 (.un .not (T 25)),
 D 27 (.mv (T 26)),
 ⟨(some 28), (some (27, false)), 0, true, .mv (T 5)⟩,
 ⟨(some 29), (some (27, false)), 0, true, .faddr 1 (T 7)⟩,
 ⟨(some 30), (some (27, false)), 0, true, .load none (T 29)⟩,
 ⟨(some 31), (some (27, false)), 0, true, .call 68 [(T 28), (C (.int .i64 0)), (T 30)]⟩,
 ⟨(some 32), (some (27, false)), 0, true, .un .not (T 31)⟩,
 D 33 (.pick (T 27) (C (.bool true)) (T 32))])
 (.cond (T 33)
 (.seq (.region [
 D 12 (.mv (C (.int .i64 0))),
 D 13 (.mv (C (.int .i64 0))),
 D 14 (.mv (C (.bool false)))])
 .ret)
 .skip))
 (.seq (.region [
 D 34 (.mv (T 5)),
 D 35 (.mv (T 3)),
 D 36 (.bin .quo (T 34) (T 35)),
 D 15 (.mv (T 36))])
 (.seq (.seq (.region [
 D 37 (.mv (T 15)),
 D 38 (.bin .gtr (T 37) (C (.int .i64 0)))])
 (.cond (T 38)
 (.seq (.region [
 D 40 (.mv (T 0)),
 D 41 (.load (some 2) (T 8)),
 D 42 (.mv (T 15)),
 D 43 (.bin .sub (T 42) (C (.int .i64 1))),
 D 44 (.bin .mul (T 43) (C (.int .i64 256))),
 D 45 (.mv (T 4)),
 D 46 (.conv .i64 (T 45)),
 D 47 (.bin .add (T 44) (T 46)),
 D 48 (.call 22 [(T 40), (T 41), (T 47)]),
 D 39 (.mv (T 48)),
 D 49 (.ext (T 39) 0),
 D 50 (.ext (T 39) 1),
 D 16 (.mv (T 49)),
 D 17 (.mv (T 50))])
 (.region [
 D 51 (.mv (T 16)),
 D 52 (.conv .i64 (T 51)),
 D 12 (.mv (T 52))]))
 .skip))
 (.seq (.seq (.region [
 D 53 (.mv (T 15)),
 D 54 (.mv (T 3)),
 D 55 (.bin .mul (T 53) (T 54)),
 D 18 (.mv (T 55))])
 (.block 0 (.loop [12, 13, 18, 5, 0, 7, 4] lb58_0)))
 (.seq (.region [
 D 75 (.mv (T 12)),
 D 76 (.mv (T 13)),
 D 12 (.mv (T 75)),
 D 13 (.mv (T 76)),
 D 14 (.mv (C (.bool true)))])
 .ret)))))), [.tmp 12, .tmp 13, .tmp 14]⟩
theorem ac58_ok : compFn Try.prog Try.f58 = some ac58 := by kernel_rfl
/-- (*winepress/rankwalk.Walk).behind -/
def ac59 : AFn := ⟨(.seq (.region [
 D 4 (.mv (C (.int .i64 0))),
 D 5 (.mv (C (.int .u8 0))),
 D 6 (.mv (C (.bool false)))])
 (.seq (.seq (.region [
 D 12 (.mv (T 1)),
 D 13 (.mv (T 0)),
 D 14 (.nilck (T 13)),
 D 15 (.faddr 5 (T 14)),
 D 16 (.load none (T 15)),
 D 17 (.bin .eql (T 12) (T 16))])
 (.cond (T 17)
 (.seq (.region [
 D 4 (.mv (C (.int .i64 0))),
 D 5 (.mv (C (.int .u8 0))),
 D 6 (.mv (C (.bool false)))])
 .ret)
 .skip))
 (.seq (.region [
 D 18 (.mv (T 1)),
 D 7 (.mv (T 18))])
 (.seq (.seq (.region [
 D 19 (.mv (T 1)),
 D 20 (.mv (T 0)),
 D 21 (.nilck (T 20)),
 D 22 (.faddr 5 (T 21)),
 D 23 (.load none (T 22)),
 D 24 (.bin .gtr (T 19) (T 23))])
 (.cond (T 24)
 (.region [
 D 25 (.mv (T 7)),
 D 26 (.bin .sub (T 25) (C (.int .i64 1))),
 D 7 (.mv (T 26))])
 .skip))
 (.seq (.drawn [
 ⟨(some 28), none, 0, false, .mv (T 0)⟩,
 ⟨(some 29), none, 1, false, .nilck (T 28)⟩,
 ⟨(some 30), none, 3, false, .faddr 0 (T 29)⟩,
 ⟨(some 31), none, 7, false, .load none (T 30)⟩,
 ⟨(some 32), none, 0, false, .mv (T 0)⟩,
 ⟨(some 33), none, 16, false, .nilck (T 32)⟩,
 ⟨(some 34), none, 48, false, .faddr 1 (T 33)⟩,
 ⟨(some 35), none, 112, false, .load (some 2) (T 34)⟩,
 ⟨(some 36), none, 0, false, .mv (T 7)⟩,
 ⟨(some 37), none, 511, true, .call 61 [(T 31), (T 35), (T 36)]⟩,
 ⟨(some 27), none, 1023, false, .mv (T 37)⟩,
 ⟨(some 38), none, 2047, false, .ext (T 27) 0⟩,
 ⟨(some 39), none, 2047, false, .ext (T 27) 1⟩,
 ⟨(some 5), none, 4095, false, .mv (T 38)⟩,
 ⟨(some 8), none, 16383, false, .mv (T 39)⟩])
 (.seq (.drawn [
 ⟨(some 41), none, 0, false, .mv (T 0)⟩,
 ⟨(some 42), none, 1, false, .nilck (T 41)⟩,
 ⟨(some 43), none, 3, false, .faddr 0 (T 42)⟩,
 ⟨(some 44), none, 7, false, .load none (T 43)⟩,
 ⟨(some 45), none, 0, false, .mv (T 0)⟩,
 ⟨(some 46), none, 16, false, .nilck (T 45)⟩,
 ⟨(some 47), none, 48, false, .faddr 1 (T 46)⟩,
 ⟨(some 48), none, 112, false, .load (some 2) (T 47)⟩,
 ⟨(some 49), none, 0, false, .mv (T 0)⟩,
 ⟨(some 50), none, 256, false, .nilck (T 49)⟩,
 ⟨(some 51), none, 768, false, .faddr 3 (T 50)⟩,
 ⟨(some 52), none, 1792, false, .load (some 2) (T 51)⟩,
 ⟨(some 53), none, 0, false, .mv (T 0)⟩,
 ⟨(some 54), none, 4096, false, .nilck (T 53)⟩,
 ⟨(some 55), none, 12288, false, .faddr 6 (T 54)⟩,
 ⟨(some 56), none, 28672, false, .load none (T 55)⟩,
 ⟨(some 57), none, 0, false, .mv (T 5)⟩,
 ⟨(some 58), none, 0, false, .mv (T 7)⟩,
 ⟨(some 59), none, 262143, true, .call 58 [(T 44), (T 48), (T 52), (T 56), (T 57), (T 58)]⟩,
 ⟨(some 40), none, 524287, false, .mv (T 59)⟩,
 ⟨(some 60), none, 1048575, false, .ext (T 40) 0⟩,
 ⟨(some 61), none, 1048575, false, .ext (T 40) 1⟩,
 ⟨(some 62), none, 1048575, false, .ext (T 40) 2⟩,
 ⟨(some 9), none, 2097151, false, .mv (T 60)⟩,
 ⟨(some 10), none, 12582911, false, .mv (T 61)⟩,
 ⟨(some 11), none, 33554431, false, .mv (T 62)⟩])
 (.seq (.seq (.region [
 D 63 (.mv (T 8)),
 D 64 (.un .not (T 63)),
 D 65 (.mv (T 64)),
 ⟨(some 66), (some (65, false)), 0, true, .mv (T 11)⟩,
 ⟨(some 67), (some (65, false)), 0, true, .un .not (T 66)⟩,
 D 68 (.pick (T 65) (C (.bool true)) (T 67))])
 (.cond (T 68)
 (.seq (.region [
 D 4 (.mv (C (.int .i64 0))),
 D 5 (.mv (C (.int .u8 0))),
 D 6 (.mv (C (.bool false)))])
 .ret)
 .skip))
 (.seq (.region [
 D 69 (.mv (T 0)),
 D 70 (.nilck (T 69)),
 D 71 (.faddr 265 (T 70)),
 D 72 (.load none (T 71)),
 D 73 (.mv (T 10)),
 D 74 (.bin .add (C (.int .i64 1)) (T 73)),
 D 75 (.bin .add (T 72) (T 74)),
 D 76 (.nilck (T 69)),
 D 77 (.faddr 265 (T 76)),
 E (.store 1 (T 77) (T 75))])
 (.seq (.region [
 D 78 (.mv (T 0)),
 D 79 (.mv (T 5)),
 D 80 (.nilck (T 78)),
 D 81 (.faddr 7 (T 80)),
 D 82 (.iaddra 1 256 (T 81) (T 79)),
 D 83 (.load none (T 82)),
 D 84 (.bin .add (C (.int .i64 1)) (T 83)),
 D 85 (.mv (T 9)),
 D 86 (.bin .add (T 84) (T 85)),
 D 87 (.mv (T 5)),
 D 4 (.mv (T 86)),
 D 5 (.mv (T 87)),
 D 6 (.mv (C (.bool true)))])
 .ret))))))))), [.tmp 4, .tmp 5, .tmp 6]⟩
theorem ac59_ok : compFn Try.prog Try.f59 = some ac59 := by kernel_rfl
/-- (*winepress/arena.Arena).Byte -/
def ac61 : AFn := ⟨(.seq (.region [
 D 4 (.box true (T 1)),
 D 6 (.mv (C (.int .u8 0))),
 D 7 (.mv (C (.bool false)))])
 (.seq (.region [
 D 9 (.mv (T 0)),
 D 10 (.load (some 2) (T 4)),
 D 11 (.mv (T 2)),
 D 12 (.call 62 [(T 9), (T 10), (T 11), (C (.int .i64 1))]),
 D 8 (.mv (T 12))])
 (.seq (.seq (.region [
 D 13 (.mv (T 8)),
 D 14 (.eqs false .slice (T 13) (C (.slice none 0 0)))])
 (.cond (T 14)
 (.seq (.region [
 D 6 (.mv (C (.int .u8 0))),
 D 7 (.mv (C (.bool false)))])
 .ret)
 .skip))
 (.seq (.region [
 D 15 (.mv (T 8)),
 D 16 (.iaddr 1 (T 15) (C (.int .i64 0))),
 D 17 (.load none (T 16)),
 D 6 (.mv (T 17)),
 D 7 (.mv (C (.bool true)))])
 .ret)))), [.tmp 6, .tmp 7]⟩
theorem ac61_ok : compFn Try.prog Try.f61 = some ac61 := by kernel_rfl
/-- (*winepress/arena.Arena).part -/
def ac62 : AFn := ⟨(.seq (.region [
 D 5 (.box true (T 1)),
 D 8 (.mv (C (.slice none 0 0)))])
 (.seq (.seq (.region [
 D 9 (.mv (T 0)),
 D 10 (.load (some 2) (T 5)),
 D 11 (.call 44 [(T 9), (T 10)]),
 D 12 (.un .not (T 11)),
 D 13 (.mv (T 12)),
 ⟨(some 14), (some (13, false)), 0, true, .mv (T 2)⟩,
 ⟨(some 15), (some (13, false)), 0, true, .bin .lss (T 14) (C (.int .i64 0))⟩,
 D 16 (.pick (T 13) (C (.bool true)) (T 15)),
 D 17 (.mv (T 16)),
 ⟨(some 18), (some (17, false)), 0, true, .mv (T 2)⟩,
 ⟨(some 19), (some (17, false)), 0, true, .faddr 1 (T 5)⟩,
 ⟨(some 20), (some (17, false)), 0, true, .load none (T 19)⟩,
 ⟨(some 21), (some (17, false)), 0, true, .mv (T 3)⟩,
 ⟨(some 22), (some (17, false)), 0, true, .bin .sub (T 20) (T 21)⟩,
 ⟨(some 23), (some (17, false)), 0, true, .bin .gtr (T 18) (T 22)⟩,
 D 24 (.pick (T 17) (C (.bool true)) (T 23))])
 (.cond (T 24)
 (.seq (.region [
 D 8 (.mv (C (.slice none 0 0)))])
 .ret)
 .skip))
 (.seq (.region [
 D 25 (.mv (T 2)),
 D 26 (.faddr 0 (T 5)),
 D 27 (.load none (T 26)),
 D 28 (.bin .add (T 25) (T 27)),
 D 2 (.mv (T 28))])
 (.seq (.region [
 D 29 (.mv (T 0)),
 D 30 (.nilck (T 29)),
 D 31 (.faddr 0 (T 30)),
 D 32 (.load none (T 31)),
 D 33 (.mv (T 2)),
 D 34 (.mv (T 2)),
 D 35 (.mv (T 3)),
 D 36 (.bin .add (T 34) (T 35)),
 D 37 (.mv (T 2)),
 D 38 (.mv (T 3)),
 D 39 (.bin .add (T 37) (T 38)),
 D 40 (.slice 1 (T 32) (some (T 33)) (some (T 36)) (some (T 39))),
 D 8 (.mv (T 40))])
 .ret)))), [.tmp 8]⟩
theorem ac62_ok : compFn Try.prog Try.f62 = some ac62 := by kernel_rfl
/-- winepress/rank.Valid -/
def ac67 : AFn := ⟨(.seq (.region [
 D 5 (.box true (T 1)),
 D 6 (.box true (T 2)),
 D 8 (.mv (C (.bool false)))])
 (.seq (.seq (.region [
 D 9 (.mv (T 0)),
 D 10 (.load (some 2) (T 5)),
 D 11 (.call 44 [(T 9), (T 10)]),
 D 12 (.un .not (T 11)),
 D 13 (.mv (T 12)),
 ⟨(some 14), (some (13, false)), 0, true, .mv (T 0)⟩,
 ⟨(some 15), (some (13, false)), 0, true, .load (some 2) (T 6)⟩,
 ⟨(some 16), (some (13, false)), 0, true, .call 44 [(T 14), (T 15)]⟩,
 ⟨(some 17), (some (13, false)), 0, true, .un .not (T 16)⟩,
 D 18 (.pick (T 13) (C (.bool true)) (T 17)),
 D 19 (.mv (T 18)),
 ⟨(some 20), (some (19, false)), 0, true, .faddr 1 (T 5)⟩,
 ⟨(some 21), (some (19, false)), 0, true, .load none (T 20)⟩,
 ⟨(some 22), (some (19, false)), 0, true, .call 68 [(T 21), (C (.int .i64 1)), (C (.int .i64 65536))]⟩,
 ⟨(some 23), (some (19, false)), 0, true, .un .not (T 22)⟩,
 D 24 (.pick (T 19) (C (.bool true)) (T 23)),
 D 25 (.mv (T 24)),
 ⟨(some 26), (some (25, false)), 0, true, .mv (T 3)⟩,
 ⟨(some 27), (some (25, false)), 0, true, .call 68 [(T 26), (C (.int .i64 1)), (C (.int .i64 65536))]⟩,
 ⟨(some 28), (some (25, false)), 0, true, .un .not (T 27)⟩,
 D 29 (.pick (T 25) (C (.bool true)) (T 28))])
 (.cond (T 29)
 (.seq (.region [
 D 8 (.mv (C (.bool false)))])
 .ret)
 .skip))
 (.seq (.drawn [
 ⟨(some 30), none, 0, false, .load (some 2) (T 5)⟩,
 ⟨(some 31), none, 0, false, .load (some 2) (T 6)⟩,
 ⟨(some 32), none, 3, true, .call 69 [(T 30), (T 31)]⟩,
 ⟨(some 33), none, 7, false, .mv (T 32)⟩,
 ⟨(some 34), (some (33, true)), 15, false, .faddr 1 (T 6)⟩,
 ⟨(some 35), (some (33, true)), 31, false, .load none (T 34)⟩,
 ⟨(some 36), (some (33, true)), 15, false, .faddr 1 (T 5)⟩,
 ⟨(some 37), (some (33, true)), 79, false, .load none (T 36)⟩,
 ⟨(some 38), (some (33, true)), 15, false, .mv (T 3)⟩,
 ⟨(some 39), (some (33, true)), 463, false, .call 70 [(T 37), (T 38)]⟩,
 ⟨(some 40), (some (33, true)), 1023, false, .bin .geq (T 35) (T 39)⟩,
 ⟨(some 41), none, 2047, false, .pick (T 33) (T 40) (C (.bool false))⟩,
 ⟨(some 8), none, 4095, false, .mv (T 41)⟩])
 .ret))), [.tmp 8]⟩
theorem ac67_ok : compFn Try.prog Try.f67 = some ac67 := by kernel_rfl
/-- winepress/rank.within -/
def ac68 : AFn := ⟨(.seq (.region [
 D 6 (.mv (C (.bool false)))])
 (.seq (.region [
 D 7 (.mv (T 0)),
 D 8 (.mv (T 1)),
 D 9 (.bin .geq (T 7) (T 8)),
 D 10 (.mv (T 9)),
 ⟨(some 11), (some (10, true)), 0, true, .mv (T 0)⟩,
 ⟨(some 12), (some (10, true)), 0, true, .mv (T 2)⟩,
 ⟨(some 13), (some (10, true)), 0, true, .bin .leq (T 11) (T 12)⟩,
 D 14 (.pick (T 10) (T 13) (C (.bool false))),
 D 6 (.mv (T 14))])
 .ret)), [.tmp 6]⟩
theorem ac68_ok : compFn Try.prog Try.f68 = some ac68 := by kernel_rfl
/-- winepress/rank.apart -/
def ac69 : AFn := ⟨(.seq (.region [
 D 2 (.box true (T 0)),
 D 3 (.box true (T 1)),
 D 4 (.mv (C (.bool false)))])
 (.seq (.region [
 D 5 (.faddr 1 (T 2)),
 D 6 (.load none (T 5)),
 D 7 (.bin .eql (T 6) (C (.int .i64 0))),
 D 8 (.mv (T 7)),
 ⟨(some 9), (some (8, false)), 0, true, .faddr 1 (T 3)⟩,
 ⟨(some 10), (some (8, false)), 0, true, .load none (T 9)⟩,
 ⟨(some 11), (some (8, false)), 0, true, .bin .eql (T 10) (C (.int .i64 0))⟩,
 D 12 (.pick (T 8) (C (.bool true)) (T 11)),
 D 13 (.mv (T 12)),
 ⟨(some 14), (some (13, false)), 0, true, .faddr 0 (T 2)⟩,
 ⟨(some 15), (some (13, false)), 0, true, .load none (T 14)⟩,
 ⟨(some 16), (some (13, false)), 0, true, .faddr 1 (T 2)⟩,
 ⟨(some 17), (some (13, false)), 0, true, .load none (T 16)⟩,
 ⟨(some 18), (some (13, false)), 0, true, .bin .add (T 15) (T 17)⟩,
 ⟨(some 19), (some (13, false)), 0, true, .faddr 0 (T 3)⟩,
 ⟨(some 20), (some (13, false)), 0, true, .load none (T 19)⟩,
 ⟨(some 21), (some (13, false)), 0, true, .bin .leq (T 18) (T 20)⟩,
 D 22 (.pick (T 13) (C (.bool true)) (T 21)),
 D 23 (.mv (T 22)),
 ⟨(some 24), (some (23, false)), 0, true, .faddr 0 (T 3)⟩,
 ⟨(some 25), (some (23, false)), 0, true, .load none (T 24)⟩,
 ⟨(some 26), (some (23, false)), 0, true, .faddr 1 (T 3)⟩,
 ⟨(some 27), (some (23, false)), 0, true, .load none (T 26)⟩,
 ⟨(some 28), (some (23, false)), 0, true, .bin .add (T 25) (T 27)⟩,
 ⟨(some 29), (some (23, false)), 0, true, .faddr 0 (T 2)⟩,
 ⟨(some 30), (some (23, false)), 0, true, .load none (T 29)⟩,
 ⟨(some 31), (some (23, false)), 0, true, .bin .leq (T 28) (T 30)⟩,
 D 32 (.pick (T 23) (C (.bool true)) (T 31)),
 D 4 (.mv (T 32))])
 .ret)), [.tmp 4]⟩
theorem ac69_ok : compFn Try.prog Try.f69 = some ac69 := by kernel_rfl
/-- winepress/rank.Size -/
def ac70 : AFn := ⟨(.seq (.region [
 D 4 (.mv (C (.int .i64 0)))])
 (.seq (.seq (.region [
 D 5 (.mv (T 0)),
 D 6 (.call 68 [(T 5), (C (.int .i64 0)), (C (.int .i64 65536))]),
 D 7 (.un .not (T 6)),
 D 8 (.mv (T 7)),
 ⟨(some 9), (some (8, false)), 0, true, .mv (T 1)⟩,
 ⟨(some 10), (some (8, false)), 0, true, .call 68 [(T 9), (C (.int .i64 1)), (C (.int .i64 65536))]⟩,
 ⟨(some 11), (some (8, false)), 0, true, .un .not (T 10)⟩,
 D 12 (.pick (T 8) (C (.bool true)) (T 11))])
 (.cond (T 12)
 (.seq (.region [
 D 4 (.mv (C (.int .i64 0)))])
 .ret)
 .skip))
 (.seq (.region [
 D 13 (.mv (T 0)),
 D 14 (.mv (T 1)),
 D 15 (.bin .quo (T 13) (T 14)),
 D 16 (.bin .mul (T 15) (C (.int .i64 1024))),
 D 4 (.mv (T 16))])
 .ret))), [.tmp 4]⟩
theorem ac70_ok : compFn Try.prog Try.f70 = some ac70 := by kernel_rfl
def env0 : Env := [(10, ac10), (11, ac11), (12, ac12), (14, ac14), (16, ac16), (18, ac18), (19, ac19), (20, ac20), (22, ac22), (25, ac25), (26, ac26), (27, ac27), (28, ac28), (29, ac29), (34, ac34), (35, ac35), (36, ac36), (37, ac37), (38, ac38), (43, ac43), (44, ac44), (47, ac47), (48, ac48), (49, ac49), (50, ac50), (51, ac51), (55, ac55), (57, ac57), (58, ac58), (59, ac59), (61, ac61), (62, ac62), (67, ac67), (68, ac68), (69, ac69), (70, ac70)]
theorem env0_ok : EnvOk Try.prog env0 :=
 EnvOk.cons Try.func10 ac10_ok (of_decide_eq_true (by kernel_rfl)) <|
 EnvOk.cons Try.func11 ac11_ok (of_decide_eq_true (by kernel_rfl)) <|
 EnvOk.cons Try.func12 ac12_ok (of_decide_eq_true (by kernel_rfl)) <|
 EnvOk.cons Try.func14 ac14_ok (of_decide_eq_true (by kernel_rfl)) <|
 EnvOk.cons Try.func16 ac16_ok (of_decide_eq_true (by kernel_rfl)) <|
 EnvOk.cons Try.func18 ac18_ok (of_decide_eq_true (by kernel_rfl)) <|
 EnvOk.cons Try.func19 ac19_ok (of_decide_eq_true (by kernel_rfl)) <|
 EnvOk.cons Try.func20 ac20_ok (of_decide_eq_true (by kernel_rfl)) <|
 EnvOk.cons Try.func22 ac22_ok (of_decide_eq_true (by kernel_rfl)) <|
 EnvOk.cons Try.func25 ac25_ok (of_decide_eq_true (by kernel_rfl)) <|
 EnvOk.cons Try.func26 ac26_ok (of_decide_eq_true (by kernel_rfl)) <|
 EnvOk.cons Try.func27 ac27_ok (of_decide_eq_true (by kernel_rfl)) <|
 EnvOk.cons Try.func28 ac28_ok (of_decide_eq_true (by kernel_rfl)) <|
 EnvOk.cons Try.func29 ac29_ok (of_decide_eq_true (by kernel_rfl)) <|
 EnvOk.cons Try.func34 ac34_ok (of_decide_eq_true (by kernel_rfl)) <|
 EnvOk.cons Try.func35 ac35_ok (of_decide_eq_true (by kernel_rfl)) <|
 EnvOk.cons Try.func36 ac36_ok (of_decide_eq_true (by kernel_rfl)) <|
 EnvOk.cons Try.func37 ac37_ok (of_decide_eq_true (by kernel_rfl)) <|
 EnvOk.cons Try.func38 ac38_ok (of_decide_eq_true (by kernel_rfl)) <|
 EnvOk.cons Try.func43 ac43_ok (of_decide_eq_true (by kernel_rfl)) <|
 EnvOk.cons Try.func44 ac44_ok (of_decide_eq_true (by kernel_rfl)) <|
 EnvOk.cons Try.func47 ac47_ok (of_decide_eq_true (by kernel_rfl)) <|
 EnvOk.cons Try.func48 ac48_ok (of_decide_eq_true (by kernel_rfl)) <|
 EnvOk.cons Try.func49 ac49_ok (of_decide_eq_true (by kernel_rfl)) <|
 EnvOk.cons Try.func50 ac50_ok (of_decide_eq_true (by kernel_rfl)) <|
 EnvOk.cons Try.func51 ac51_ok (of_decide_eq_true (by kernel_rfl)) <|
 EnvOk.cons Try.func55 ac55_ok (of_decide_eq_true (by kernel_rfl)) <|
 EnvOk.cons Try.func57 ac57_ok (of_decide_eq_true (by kernel_rfl)) <|
 EnvOk.cons Try.func58 ac58_ok (of_decide_eq_true (by kernel_rfl)) <|
 EnvOk.cons Try.func59 ac59_ok (of_decide_eq_true (by kernel_rfl)) <|
 EnvOk.cons Try.func61 ac61_ok (of_decide_eq_true (by kernel_rfl)) <|
 EnvOk.cons Try.func62 ac62_ok (of_decide_eq_true (by kernel_rfl)) <|
 EnvOk.cons Try.func67 ac67_ok (of_decide_eq_true (by kernel_rfl)) <|
 EnvOk.cons Try.func68 ac68_ok (of_decide_eq_true (by kernel_rfl)) <|
 EnvOk.cons Try.func69 ac69_ok (of_decide_eq_true (by kernel_rfl)) <|
 EnvOk.cons Try.func70 ac70_ok (of_decide_eq_true (by kernel_rfl)) <|
 EnvOk.nil
theorem mixed : Try.prog.follows .mixedOrders = true := by kernel_rfl
theorem wakes11 : isTrue (run env0 20000 (.func 11) [] ⟨[], 0, [], []⟩) = true := by kernel_rfl
def env : Env := (11, constFn (.bool true)) :: env0
theorem env_or : EnvOr Try.prog env :=
 EnvOr.cons Try.func11 (of_decide_eq_true (by kernel_rfl)) (by kernel_rfl) (constTrue_ok env0_ok mixed wakes11) <|
 EnvOr.of env0_ok
theorem fn10 : env.fn 10 = some ac10 := rfl
theorem fn11 : env.fn 11 = some (constFn (.bool true)) := rfl
theorem fn12 : env.fn 12 = some ac12 := rfl
theorem fn14 : env.fn 14 = some ac14 := rfl
theorem fn16 : env.fn 16 = some ac16 := rfl
theorem fn18 : env.fn 18 = some ac18 := rfl
theorem fn19 : env.fn 19 = some ac19 := rfl
theorem fn20 : env.fn 20 = some ac20 := rfl
theorem fn22 : env.fn 22 = some ac22 := rfl
theorem fn25 : env.fn 25 = some ac25 := rfl
theorem fn26 : env.fn 26 = some ac26 := rfl
theorem fn27 : env.fn 27 = some ac27 := rfl
theorem fn28 : env.fn 28 = some ac28 := rfl
theorem fn29 : env.fn 29 = some ac29 := rfl
theorem fn34 : env.fn 34 = some ac34 := rfl
theorem fn35 : env.fn 35 = some ac35 := rfl
theorem fn36 : env.fn 36 = some ac36 := rfl
theorem fn37 : env.fn 37 = some ac37 := rfl
theorem fn38 : env.fn 38 = some ac38 := rfl
theorem fn43 : env.fn 43 = some ac43 := rfl
theorem fn44 : env.fn 44 = some ac44 := rfl
theorem fn47 : env.fn 47 = some ac47 := rfl
theorem fn48 : env.fn 48 = some ac48 := rfl
theorem fn49 : env.fn 49 = some ac49 := rfl
theorem fn50 : env.fn 50 = some ac50 := rfl
theorem fn51 : env.fn 51 = some ac51 := rfl
theorem fn55 : env.fn 55 = some ac55 := rfl
theorem fn57 : env.fn 57 = some ac57 := rfl
theorem fn58 : env.fn 58 = some ac58 := rfl
theorem fn59 : env.fn 59 = some ac59 := rfl
theorem fn61 : env.fn 61 = some ac61 := rfl
theorem fn62 : env.fn 62 = some ac62 := rfl
theorem fn67 : env.fn 67 = some ac67 := rfl
theorem fn68 : env.fn 68 = some ac68 := rfl
theorem fn69 : env.fn 69 = some ac69 := rfl
theorem fn70 : env.fn 70 = some ac70 := rfl
end ArEnv
end Go.Proofs.Ytlbdgbfblgjjgaa
