/-
 THE TRANSLATED FUNCTIONS, printed by a program, and that they are the program's functions. Conditions: none.
-/
import Derived.Test.YtfefeikkjebfoaaProg
import Derived.Test.YtfefeikkjebfoaaAOr
import Derived.KernelRfl
namespace Go.Proofs.Ytfefeikkjebfoaa
namespace ArEnv
open Go AM
abbrev T (n : Nat) : Operand := .tmp n
abbrev C (v : Value) : Operand := .const v
abbrev D (d : Nat) (o : AOp) : AOper := ⟨some d, none, 0, true, o⟩
abbrev E (o : AOp) : AOper := ⟨none, none, 0, true, o⟩
/-- a loop of winepress/winepresslaw01.ArenaMatches; it keeps [9, 8, 0, 5, 1] -/
def lb5_0 : ACode := (.seq (.seq (.region [
 D 62 (.mv (T 9)),
 D 63 (.mv (T 1)),
 D 64 (.len (T 63)),
 D 65 (.bin .lss (T 62) (T 64))])
 (.cond (T 65)
 .skip
 (.exit 0)))
 (.seq (.block 1 (.seq (.seq (.region [
 D 68 (.mv (T 5)),
 D 69 (.mv (T 8)),
 D 70 (.mv (T 1)),
 D 71 (.mv (T 9)),
 D 72 (.iaddr 6 (T 70) (T 71)),
 D 73 (.load (some 6) (T 72)),
 D 74 (.call 28 [(T 68), (T 69), (T 73)]),
 D 75 (.un .not (T 74))])
 (.cond (T 75)
 (.seq (.region [
 D 4 (.mv (C (.bool false)))])
 .ret)
 .skip))
 (.seq (.moves [1] true [
 ⟨(some 76), none, 0, false, .mv (T 1)⟩,
 ⟨(some 77), none, 0, false, .mv (T 9)⟩,
 ⟨(some 78), none, 0, false, .iaddr 6 (T 76) (T 77)⟩,
 ⟨(some 79), none, 0, false, .faddr 2 (T 78)⟩,
 ⟨(some 80), none, 0, false, .load (some 2) (T 79)⟩,
 ⟨(some 81), none, 0, false, .mv (T 1)⟩,
 ⟨(some 82), none, 0, false, .mv (T 9)⟩,
 ⟨(some 83), none, 0, false, .iaddr 6 (T 81) (T 82)⟩,
 ⟨(some 84), none, 0, false, .faddr 1 (T 83)⟩,
 ⟨(some 85), none, 0, false, .load none (T 84)⟩,
 D 10 (.alloc true [(.int .i64 0), (.int .i64 0)]),
 E (.store 2 (T 10) (T 80)),
 ⟨(some 11), none, 0, false, .mv (T 85)⟩])
 (.seq (.region [
 D 87 (.mv (T 5)),
 D 88 (.load (some 2) (T 10)),
 D 89 (.mv (T 11)),
 D 90 (.call 29 [(T 87), (T 88), (T 89)]),
 D 86 (.mv (T 90)),
 D 91 (.ext (T 86) 0),
 D 92 (.ext (T 86) 1),
 D 12 (.mv (T 91)),
 D 13 (.mv (T 92))])
 (.seq (.region [
 D 94 (.mv (T 8)),
 D 95 (.load (some 2) (T 10)),
 D 96 (.mv (T 11)),
 D 97 (.call 30 [(T 94), (T 95), (T 96)]),
 D 93 (.mv (T 97)),
 D 98 (.ext (T 93) 0),
 D 99 (.ext (T 93) 1),
 D 14 (.mv (T 98)),
 D 15 (.mv (T 99))])
 (.seq (.region [
 D 101 (.mv (T 5)),
 D 102 (.load (some 2) (T 10)),
 D 103 (.mv (T 11)),
 D 104 (.call 20 [(T 101), (T 102), (T 103)]),
 D 100 (.mv (T 104)),
 D 105 (.ext (T 100) 0),
 D 106 (.ext (T 100) 1),
 D 16 (.mv (T 105)),
 D 17 (.mv (T 106))])
 (.seq (.region [
 D 108 (.mv (T 8)),
 D 109 (.load (some 2) (T 10)),
 D 110 (.mv (T 11)),
 D 111 (.call 31 [(T 108), (T 109), (T 110)]),
 D 107 (.mv (T 111)),
 D 112 (.ext (T 107) 0),
 D 113 (.ext (T 107) 1),
 D 18 (.mv (T 112)),
 D 19 (.mv (T 113))])
 (.seq (.drawn [
 ⟨(some 114), none, 0, false, .mv (T 12)⟩,
 ⟨(some 115), none, 0, false, .mv (T 14)⟩,
 ⟨(some 116), none, 3, false, .bin .neq (T 114) (T 115)⟩,
 ⟨(some 117), none, 7, false, .mv (T 116)⟩,
 ⟨(some 118), (some (117, false)), 15, false, .mv (T 13)⟩,
 ⟨(some 119), (some (117, false)), 15, false, .mv (T 15)⟩,
 ⟨(some 120), (some (117, false)), 63, false, .eqs true .bool (T 118) (T 119)⟩,
 ⟨(some 121), none, 127, false, .pick (T 117) (C (.bool true)) (T 120)⟩,
 ⟨(some 122), none, 255, false, .mv (T 121)⟩,
 ⟨(some 123), (some (122, false)), 511, false, .mv (T 16)⟩,
 ⟨(some 124), (some (122, false)), 511, false, .mv (T 18)⟩,
 ⟨(some 125), (some (122, false)), 2047, false, .bin .neq (T 123) (T 124)⟩,
 ⟨(some 126), none, 4095, false, .pick (T 122) (C (.bool true)) (T 125)⟩,
 ⟨(some 127), none, 8191, false, .mv (T 126)⟩,
 ⟨(some 128), (some (127, false)), 16383, false, .mv (T 17)⟩,
 ⟨(some 129), (some (127, false)), 16383, false, .mv (T 19)⟩,
 ⟨(some 130), (some (127, false)), 65535, false, .eqs true .bool (T 128) (T 129)⟩,
 ⟨(some 131), none, 131071, false, .pick (T 127) (C (.bool true)) (T 130)⟩,
 ⟨(some 132), none, 262143, false, .mv (T 131)⟩,
 ⟨(some 133), (some (132, false)), 524287, false, .mv (T 5)⟩,
 ⟨(some 134), (some (132, false)), 524287, false, .load (some 2) (T 10)⟩,
 ⟨(some 135), (some (132, false)), 2097151, false, .call 21 [(T 133), (T 134)]⟩,
 ⟨(some 136), (some (132, false)), 4194303, false, .bstr (T 135)⟩,
 ⟨(some 137), (some (132, false)), 524287, false, .mv (T 8)⟩,
 ⟨(some 138), (some (132, false)), 524287, false, .load (some 2) (T 10)⟩,
 ⟨(some 139), (some (132, false)), 29360127, false, .call 32 [(T 137), (T 138)]⟩,
 ⟨(some 140), (some (132, false)), 62914559, false, .bstr (T 139)⟩,
 ⟨(some 141), (some (132, false)), 134217727, false, .bin .neq (T 136) (T 140)⟩,
 ⟨(some 142), none, 268435455, false, .pick (T 132) (C (.bool true)) (T 141)⟩,
 ⟨(some 143), none, 536870911, false, .mv (T 142)⟩,
 ⟨(some 144), (some (143, false)), 1073741823, false, .mv (T 5)⟩,
 ⟨(some 145), (some (143, false)), 1073741823, false, .load (some 2) (T 10)⟩,
 ⟨(some 146), (some (143, false)), 4294967295, false, .call 33 [(T 144), (T 145)]⟩,
 ⟨(some 147), (some (143, false)), 1073741823, false, .mv (T 8)⟩,
 ⟨(some 148), (some (143, false)), 1073741823, false, .load (some 2) (T 10)⟩,
 ⟨(some 149), (some (143, false)), 34359738367, true, .call 34 [(T 147), (T 148)]⟩,
 ⟨(some 150), (some (143, false)), 68719476735, false, .eqs true .bool (T 146) (T 149)⟩,
 ⟨(some 151), none, 137438953471, false, .pick (T 143) (C (.bool true)) (T 150)⟩,
 ⟨(some 152), none, 274877906943, false, .mv (T 151)⟩,
 ⟨(some 153), (some (152, false)), 549755813887, false, .mv (T 5)⟩,
 ⟨(some 154), (some (152, false)), 1099511627775, false, .call 24 [(T 153)]⟩,
 ⟨(some 155), (some (152, false)), 549755813887, false, .mv (T 8)⟩,
 ⟨(some 156), (some (152, false)), 2748779069439, false, .nilck (T 155)⟩,
 ⟨(some 157), (some (152, false)), 7146825580543, false, .faddr 1 (T 156)⟩,
 ⟨(some 158), (some (152, false)), 15942918602751, false, .load none (T 157)⟩,
 ⟨(some 159), (some (152, false)), 35184372088831, false, .bin .neq (T 154) (T 158)⟩,
 ⟨(some 160), none, 70368744177663, false, .pick (T 152) (C (.bool true)) (T 159)⟩,
 ⟨(some 161), none, 140737488355327, false, .mv (T 160)⟩,
 ⟨(some 162), (some (161, false)), 281474976710655, false, .mv (T 5)⟩,
 ⟨(some 163), (some (161, false)), 562949953421311, false, .call 23 [(T 162)]⟩,
 ⟨(some 164), (some (161, false)), 281474976710655, false, .mv (T 8)⟩,
 ⟨(some 165), (some (161, false)), 1407374883553279, false, .nilck (T 164)⟩,
 ⟨(some 166), (some (161, false)), 3659174697238527, false, .faddr 2 (T 165)⟩,
 ⟨(some 167), (some (161, false)), 8162774324609023, false, .load none (T 166)⟩,
 ⟨(some 168), (some (161, false)), 18014398509481983, false, .bin .neq (T 163) (T 167)⟩,
 ⟨(some 169), none, 36028797018963967, false, .pick (T 161) (C (.bool true)) (T 168)⟩,
 ⟨(some 170), none, 72057594037927935, false, .mv (T 169)⟩,
 ⟨(some 171), (some (170, false)), 144115188075855871, false, .mv (T 5)⟩,
 ⟨(some 172), (some (170, false)), 288230376151711743, false, .call 35 [(T 171)]⟩,
 ⟨(some 173), (some (170, false)), 144115188075855871, false, .mv (T 0)⟩,
 ⟨(some 174), (some (170, false)), 144115188075855871, false, .mv (T 8)⟩,
 ⟨(some 175), (some (170, false)), 1297036692682702847, false, .nilck (T 174)⟩,
 ⟨(some 176), (some (170, false)), 3602879701896396799, false, .faddr 1 (T 175)⟩,
 ⟨(some 177), (some (170, false)), 8214565720323784703, false, .load none (T 176)⟩,
 ⟨(some 178), (some (170, false)), 18014398509481983999, false, .bin .sub (T 173) (T 177)⟩,
 ⟨(some 179), (some (170, false)), 36893488147419103231, false, .bin .neq (T 172) (T 178)⟩,
 ⟨(some 180), none, 73786976294838206463, false, .pick (T 170) (C (.bool true)) (T 179)⟩])
 (.cond (T 180)
 (.seq (.region [
 D 4 (.mv (C (.bool false)))])
 .ret)
 .skip)))))))))
 (.region [
 D 66 (.mv (T 9)),
 D 67 (.bin .add (T 66) (C (.int .i64 1))),
 D 9 (.mv (T 67))])))
/-- winepress/winepresslaw01.ArenaMatches -/
def ac5 : AFn := ⟨(.seq (.region [
 D 4 (.mv (C (.bool false)))])
 (.seq (.seq (.region [
 D 20 (.mv (T 1)),
 D 21 (.call 25 [(T 20)]),
 D 22 (.un .not (T 21)),
 D 23 (.mv (T 22)),
 ⟨(some 24), (some (23, false)), 0, true, .mv (T 0)⟩,
 ⟨(some 25), (some (23, false)), 0, true, .bin .gtr (T 24) (C (.int .i64 4000))⟩,
 ⟨(some 26), (some (23, false)), 0, true, .mv (T 25)⟩,
 ⟨(some 27), (some (26, true)), 0, true, .mv (T 0)⟩,
 ⟨(some 28), (some (26, true)), 0, true, .bin .leq (T 27) (C (.int .i64 1048576))⟩,
 ⟨(some 29), (some (23, false)), 0, true, .pick (T 26) (T 28) (C (.bool false))⟩,
 D 30 (.pick (T 23) (C (.bool true)) (T 29))])
 (.cond (T 30)
 (.seq (.region [
 D 31 (.call 15 []),
 D 4 (.mv (T 31))])
 .ret)
 .skip))
 (.seq (.region [
 D 33 (.mv (T 0)),
 D 34 (.call 16 [(T 33)]),
 D 32 (.mv (T 34)),
 D 35 (.ext (T 32) 0),
 D 36 (.ext (T 32) 1),
 D 5 (.mv (T 35)),
 D 6 (.mv (T 36))])
 (.seq (.region [
 D 37 (.mv (T 0)),
 D 38 (.call 26 [(T 37)]),
 D 7 (.mv (T 38))])
 (.seq (.seq (.region [
 D 39 (.mv (T 6)),
 D 40 (.bin .eql (T 39) (C (.int .i64 0))),
 D 41 (.mv (T 7)),
 D 42 (.eqs true .bool (T 40) (T 41)),
 D 43 (.mv (T 42)),
 ⟨(some 44), (some (43, false)), 0, true, .mv (T 5)⟩,
 ⟨(some 45), (some (43, false)), 0, true, .eqs false .ptr (T 44) (C (.pointer none))⟩,
 ⟨(some 46), (some (43, false)), 0, true, .mv (T 7)⟩,
 ⟨(some 47), (some (43, false)), 0, true, .eqs false .bool (T 45) (T 46)⟩,
 D 48 (.pick (T 43) (C (.bool true)) (T 47)),
 D 49 (.mv (T 48)),
 ⟨(some 50), (some (49, false)), 0, true, .mv (T 6)⟩,
 ⟨(some 51), (some (49, false)), 0, true, .bin .neq (T 50) (C (.int .i64 0))⟩,
 ⟨(some 52), (some (49, false)), 0, true, .mv (T 51)⟩,
 ⟨(some 53), (some (52, true)), 0, true, .mv (T 6)⟩,
 ⟨(some 54), (some (52, true)), 0, true, .bin .neq (T 53) (C (.int .i64 2))⟩,
 ⟨(some 55), (some (49, false)), 0, true, .pick (T 52) (T 54) (C (.bool false))⟩,
 D 56 (.pick (T 49) (C (.bool true)) (T 55))])
 (.cond (T 56)
 (.seq (.region [
 D 4 (.mv (C (.bool false)))])
 .ret)
 .skip))
 (.seq (.seq (.region [
 D 57 (.mv (T 5)),
 D 58 (.eqs false .ptr (T 57) (C (.pointer none)))])
 (.cond (T 58)
 (.seq (.region [
 D 59 (.call 15 []),
 D 4 (.mv (T 59))])
 .ret)
 .skip))
 (.seq (.region [
 D 60 (.mv (T 0)),
 D 61 (.call 27 [(T 60)]),
 D 8 (.mv (T 61))])
 (.seq (.seq (.region [
 D 9 (.mv (C (.int .i64 0)))])
 (.block 0 (.loop [9, 8, 0, 5, 1] lb5_0)))
 (.seq (.drawn [
 ⟨(some 181), none, 0, false, .mv (T 5)⟩,
 ⟨(some 182), none, 0, false, .mv (T 8)⟩,
 ⟨(some 183), none, 2, false, .nilck (T 182)⟩,
 ⟨(some 184), none, 6, false, .faddr 1 (T 183)⟩,
 ⟨(some 185), none, 14, false, .load none (T 184)⟩,
 ⟨(some 186), none, 30, false, .build [(.int .i64 0), (.int .i64 0)] [(1, 1, (T 185))]⟩,
 ⟨(some 187), none, 63, false, .call 21 [(T 181), (T 186)]⟩,
 ⟨(some 188), none, 127, false, .bstr (T 187)⟩,
 ⟨(some 189), none, 0, false, .mv (T 8)⟩,
 ⟨(some 190), none, 256, false, .nilck (T 189)⟩,
 ⟨(some 191), none, 768, false, .faddr 0 (T 190)⟩,
 ⟨(some 192), none, 1792, false, .load none (T 191)⟩,
 ⟨(some 193), none, 0, false, .mv (T 8)⟩,
 ⟨(some 194), none, 4096, false, .nilck (T 193)⟩,
 ⟨(some 195), none, 12288, false, .faddr 1 (T 194)⟩,
 ⟨(some 196), none, 28672, false, .load none (T 195)⟩,
 ⟨(some 197), none, 65280, false, .slice 1 (T 192) none (some (T 196)) none⟩,
 ⟨(some 198), none, 130816, false, .bstr (T 197)⟩,
 ⟨(some 199), none, 262143, false, .bin .eql (T 188) (T 198)⟩,
 ⟨(some 200), none, 524287, false, .mv (T 199)⟩,
 ⟨(some 201), (some (200, true)), 1048575, true, .call 15 []⟩,
 ⟨(some 202), none, 2097151, false, .pick (T 200) (T 201) (C (.bool false))⟩,
 ⟨(some 4), none, 4194303, false, .mv (T 202)⟩])
 .ret))))))))), [.tmp 4]⟩
theorem ac5_ok : compFn Try.prog Try.f5 = some ac5 := by kernel_rfl
/-- winepress/winepresslaw20.RankMatches -/
def ac11 : AFn := ⟨(.seq (.region [
 D 8 (.box true (T 1)),
 D 9 (.box true (T 2)),
 D 14 (.mv (C (.bool false)))])
 (.seq (.seq (.region [
 D 26 (.mv (T 0)),
 D 27 (.len (T 26)),
 D 28 (.bin .eql (T 27) (C (.int .i64 0))),
 D 29 (.mv (T 28)),
 ⟨(some 30), (some (29, false)), 0, true, .mv (T 0)⟩,
 ⟨(some 31), (some (29, false)), 0, true, .len (T 30)⟩,
 ⟨(some 32), (some (29, false)), 0, true, .bin .gtr (T 31) (C (.int .i64 6000))⟩,
 D 33 (.pick (T 29) (C (.bool true)) (T 32))])
 (.cond (T 33)
 (.seq (.region [
 D 34 (.call 46 []),
 D 14 (.mv (T 34))])
 .ret)
 .skip))
 (.seq (.region [
 D 36 (.mv (T 0)),
 D 37 (.call 47 [(T 36)]),
 D 35 (.mv (T 37)),
 D 38 (.ext (T 35) 0),
 D 39 (.ext (T 35) 1),
 D 15 (.mv (T 38)),
 D 16 (.mv (T 39))])
 (.seq (.seq (.region [
 D 40 (.mv (T 15)),
 D 41 (.eqs false .ptr (T 40) (C (.pointer none)))])
 (.cond (T 41)
 (.seq (.region [
 D 14 (.mv (C (.bool false)))])
 .ret)
 .skip))
 (.seq (.region [
 D 42 (.mv (T 0)),
 D 43 (.len (T 42)),
 D 44 (.build [(.int .i64 0), (.int .i64 0)] [(1, 1, (T 43))]),
 D 17 (.alloc true [(.int .i64 0), (.int .i64 0)]),
 E (.store 2 (T 17) (T 44))])
 (.seq (.region [
 D 46 (.mv (T 15)),
 D 47 (.load (some 2) (T 8)),
 D 48 (.load (some 2) (T 9)),
 D 49 (.mv (T 3)),
 D 50 (.mv (T 4)),
 D 51 (.mv (T 5)),
 D 52 (.call 48 [(T 46), (T 47), (T 48), (T 49), (T 50), (T 51)]),
 D 45 (.mv (T 52)),
 D 53 (.ext (T 45) 0),
 D 54 (.ext (T 45) 1),
 D 55 (.ext (T 45) 2),
 D 18 (.mv (T 53)),
 D 19 (.mv (T 54)),
 D 20 (.mv (T 55))])
 (.seq (.region [
 D 57 (.mv (T 16)),
 D 58 (.load (some 2) (T 8)),
 D 59 (.load (some 2) (T 9)),
 D 60 (.mv (T 3)),
 D 61 (.mv (T 4)),
 D 62 (.mv (T 5)),
 D 63 (.call 49 [(T 57), (T 58), (T 59), (T 60), (T 61), (T 62)]),
 D 56 (.mv (T 63)),
 D 64 (.ext (T 56) 0),
 D 65 (.ext (T 56) 1),
 D 66 (.ext (T 56) 2),
 D 21 (.mv (T 64)),
 D 22 (.mv (T 65)),
 D 23 (.mv (T 66))])
 (.seq (.seq (.drawn [
 ⟨(some 67), none, 0, false, .mv (T 18)⟩,
 ⟨(some 68), none, 0, false, .mv (T 21)⟩,
 ⟨(some 69), none, 3, false, .bin .neq (T 67) (T 68)⟩,
 ⟨(some 70), none, 7, false, .mv (T 69)⟩,
 ⟨(some 71), (some (70, false)), 15, false, .mv (T 19)⟩,
 ⟨(some 72), (some (70, false)), 15, false, .mv (T 22)⟩,
 ⟨(some 73), (some (70, false)), 63, false, .bin .neq (T 71) (T 72)⟩,
 ⟨(some 74), none, 127, false, .pick (T 70) (C (.bool true)) (T 73)⟩,
 ⟨(some 75), none, 255, false, .mv (T 74)⟩,
 ⟨(some 76), (some (75, false)), 511, false, .mv (T 20)⟩,
 ⟨(some 77), (some (75, false)), 511, false, .mv (T 23)⟩,
 ⟨(some 78), (some (75, false)), 2047, false, .eqs true .bool (T 76) (T 77)⟩,
 ⟨(some 79), none, 4095, false, .pick (T 75) (C (.bool true)) (T 78)⟩,
 ⟨(some 80), none, 8191, false, .mv (T 79)⟩,
 ⟨(some 81), (some (80, false)), 16383, false, .mv (T 6)⟩,
 ⟨(some 82), (some (80, false)), 16383, false, .mv (T 3)⟩,
 ⟨(some 83), (some (80, false)), 65535, true, .call 50 [(T 81), (T 82)]⟩,
 ⟨(some 84), (some (80, false)), 16383, false, .mv (T 6)⟩,
 ⟨(some 85), (some (80, false)), 16383, false, .mv (T 3)⟩,
 ⟨(some 86), (some (80, false)), 524287, true, .call 51 [(T 84), (T 85)]⟩,
 ⟨(some 87), (some (80, false)), 1048575, false, .bin .neq (T 83) (T 86)⟩,
 ⟨(some 88), none, 2097151, false, .pick (T 80) (C (.bool true)) (T 87)⟩,
 ⟨(some 89), none, 4194303, false, .mv (T 88)⟩,
 ⟨(some 90), (some (89, false)), 8388607, false, .mv (T 15)⟩,
 ⟨(some 91), (some (89, false)), 8388607, false, .load (some 2) (T 8)⟩,
 ⟨(some 92), (some (89, false)), 8388607, false, .load (some 2) (T 9)⟩,
 ⟨(some 93), (some (89, false)), 8388607, false, .mv (T 3)⟩,
 ⟨(some 94), (some (89, false)), 134217727, false, .call 52 [(T 90), (T 91), (T 92), (T 93)]⟩,
 ⟨(some 95), (some (89, false)), 8388607, false, .mv (T 16)⟩,
 ⟨(some 96), (some (89, false)), 8388607, false, .load (some 2) (T 8)⟩,
 ⟨(some 97), (some (89, false)), 8388607, false, .load (some 2) (T 9)⟩,
 ⟨(some 98), (some (89, false)), 8388607, false, .mv (T 3)⟩,
 ⟨(some 99), (some (89, false)), 4294967295, true, .call 53 [(T 95), (T 96), (T 97), (T 98)]⟩,
 ⟨(some 100), (some (89, false)), 8589934591, false, .eqs true .bool (T 94) (T 99)⟩,
 ⟨(some 101), none, 17179869183, false, .pick (T 89) (C (.bool true)) (T 100)⟩,
 ⟨(some 102), none, 34359738367, false, .mv (T 101)⟩,
 ⟨(some 103), (some (102, false)), 68719476735, false, .mv (T 15)⟩,
 ⟨(some 104), (some (102, false)), 68719476735, false, .load (some 2) (T 8)⟩,
 ⟨(some 105), (some (102, false)), 274877906943, false, .call 54 [(T 103), (T 104)]⟩,
 ⟨(some 106), (some (102, false)), 68719476735, false, .mv (T 16)⟩,
 ⟨(some 107), (some (102, false)), 68719476735, false, .load (some 2) (T 8)⟩,
 ⟨(some 108), (some (102, false)), 2199023255551, true, .call 55 [(T 106), (T 107)]⟩,
 ⟨(some 109), (some (102, false)), 4398046511103, false, .eqs true (.agg (List.replicate 256 .nu)) (T 105) (T 108)⟩,
 ⟨(some 110), none, 8796093022207, false, .pick (T 102) (C (.bool true)) (T 109)⟩])
 (.cond (T 110)
 (.seq (.region [
 D 14 (.mv (C (.bool false)))])
 .ret)
 .skip))
 (.seq (.moves [9, 8] true [
 ⟨(some 111), none, 0, false, .mv (T 15)⟩,
 ⟨(some 112), none, 0, false, .load (some 2) (T 8)⟩,
 ⟨(some 113), none, 0, false, .load (some 2) (T 9)⟩,
 ⟨(some 114), none, 0, false, .mv (T 3)⟩,
 D 115 (.call 56 [(T 111), (T 112), (T 113), (T 114)]),
 ⟨(some 116), none, 0, false, .mv (T 16)⟩,
 ⟨(some 117), none, 0, false, .load (some 2) (T 8)⟩,
 ⟨(some 118), none, 0, false, .load (some 2) (T 9)⟩,
 ⟨(some 119), none, 0, false, .mv (T 3)⟩,
 D 120 (.call 57 [(T 116), (T 117), (T 118), (T 119)]),
 ⟨(some 24), none, 0, false, .mv (T 115)⟩,
 ⟨(some 25), none, 0, false, .mv (T 120)⟩])
 (.seq (.seq (.drawn [
 ⟨(some 121), none, 0, false, .mv (T 24)⟩,
 ⟨(some 122), none, 0, false, .mv (T 25)⟩,
 ⟨(some 123), none, 3, false, .bin .neq (T 121) (T 122)⟩,
 ⟨(some 124), none, 7, false, .mv (T 123)⟩,
 ⟨(some 125), (some (124, false)), 15, false, .mv (T 15)⟩,
 ⟨(some 126), (some (124, false)), 15, false, .load (some 2) (T 17)⟩,
 ⟨(some 127), (some (124, false)), 63, false, .call 21 [(T 125), (T 126)]⟩,
 ⟨(some 128), (some (124, false)), 127, false, .bstr (T 127)⟩,
 ⟨(some 129), (some (124, false)), 15, false, .mv (T 16)⟩,
 ⟨(some 130), (some (124, false)), 271, false, .nilck (T 129)⟩,
 ⟨(some 131), (some (124, false)), 783, false, .faddr 0 (T 130)⟩,
 ⟨(some 132), (some (124, false)), 1807, false, .load none (T 131)⟩,
 ⟨(some 133), (some (124, false)), 3855, false, .bstr (T 132)⟩,
 ⟨(some 134), (some (124, false)), 8191, false, .bin .neq (T 128) (T 133)⟩,
 ⟨(some 135), none, 16383, false, .pick (T 124) (C (.bool true)) (T 134)⟩])
 (.cond (T 135)
 (.seq (.region [
 D 14 (.mv (C (.bool false)))])
 .ret)
 .skip))
 (.seq (.region [
 D 137 (.mv (T 15)),
 D 138 (.load (some 2) (T 8)),
 D 139 (.load (some 2) (T 9)),
 D 140 (.mv (T 3)),
 D 141 (.mv (T 4)),
 D 142 (.mv (T 5)),
 D 143 (.call 48 [(T 137), (T 138), (T 139), (T 140), (T 141), (T 142)]),
 D 136 (.mv (T 143)),
 D 144 (.ext (T 136) 0),
 D 145 (.ext (T 136) 1),
 D 146 (.ext (T 136) 2),
 D 18 (.mv (T 144)),
 D 19 (.mv (T 145)),
 D 20 (.mv (T 146))])
 (.seq (.region [
 D 148 (.mv (T 16)),
 D 149 (.load (some 2) (T 8)),
 D 150 (.load (some 2) (T 9)),
 D 151 (.mv (T 3)),
 D 152 (.mv (T 4)),
 D 153 (.mv (T 5)),
 D 154 (.call 49 [(T 148), (T 149), (T 150), (T 151), (T 152), (T 153)]),
 D 147 (.mv (T 154)),
 D 155 (.ext (T 147) 0),
 D 156 (.ext (T 147) 1),
 D 157 (.ext (T 147) 2),
 D 21 (.mv (T 155)),
 D 22 (.mv (T 156)),
 D 23 (.mv (T 157))])
 (.seq (.region [
 D 158 (.mv (T 18)),
 D 159 (.mv (T 21)),
 D 160 (.bin .eql (T 158) (T 159)),
 D 161 (.mv (T 160)),
 ⟨(some 162), (some (161, true)), 0, true, .mv (T 19)⟩,
 ⟨(some 163), (some (161, true)), 0, true, .mv (T 22)⟩,
 ⟨(some 164), (some (161, true)), 0, true, .bin .eql (T 162) (T 163)⟩,
 D 165 (.pick (T 161) (T 164) (C (.bool false))),
 D 166 (.mv (T 165)),
 ⟨(some 167), (some (166, true)), 0, true, .mv (T 20)⟩,
 ⟨(some 168), (some (166, true)), 0, true, .mv (T 23)⟩,
 ⟨(some 169), (some (166, true)), 0, true, .eqs false .bool (T 167) (T 168)⟩,
 D 170 (.pick (T 166) (T 169) (C (.bool false))),
 D 171 (.mv (T 170)),
 ⟨(some 172), (some (171, true)), 0, true, .call 46 []⟩,
 D 173 (.pick (T 171) (T 172) (C (.bool false))),
 D 14 (.mv (T 173))])
 .ret))))))))))))), [.tmp 14]⟩
theorem ac11_ok : compFn Try.prog Try.f11 = some ac11 := by kernel_rfl
/-- winepress/winepresslaw01.wakes -/
def ac15 : AFn := ⟨(.seq (.region [
 D 0 (.mv (C (.bool false)))])
 (.seq (.region [
 D 34 (.call 16 [(C (.int .i64 10))]),
 D 33 (.mv (T 34)),
 D 35 (.ext (T 33) 0),
 D 36 (.ext (T 33) 1),
 D 1 (.mv (T 35)),
 D 2 (.mv (T 36))])
 (.seq (.region [
 D 38 (.call 16 [(C (.int .i64 0))]),
 D 37 (.mv (T 38)),
 D 39 (.ext (T 37) 0),
 D 40 (.ext (T 37) 1),
 D 3 (.mv (T 39)),
 D 4 (.mv (T 40))])
 (.seq (.region [
 D 42 (.call 16 [(C (.int .i64 1048577))]),
 D 41 (.mv (T 42)),
 D 43 (.ext (T 41) 0),
 D 44 (.ext (T 41) 1),
 D 5 (.mv (T 43)),
 D 6 (.mv (T 44))])
 (.seq (.seq (.region [
 D 45 (.mv (T 2)),
 D 46 (.bin .neq (T 45) (C (.int .i64 0))),
 D 47 (.mv (T 46)),
 ⟨(some 48), (some (47, false)), 0, true, .mv (T 1)⟩,
 ⟨(some 49), (some (47, false)), 0, true, .eqs false .ptr (T 48) (C (.pointer none))⟩,
 D 50 (.pick (T 47) (C (.bool true)) (T 49)),
 D 51 (.mv (T 50)),
 ⟨(some 52), (some (51, false)), 0, true, .mv (T 4)⟩,
 ⟨(some 53), (some (51, false)), 0, true, .bin .neq (T 52) (C (.int .i64 2))⟩,
 D 54 (.pick (T 51) (C (.bool true)) (T 53)),
 D 55 (.mv (T 54)),
 ⟨(some 56), (some (55, false)), 0, true, .mv (T 6)⟩,
 ⟨(some 57), (some (55, false)), 0, true, .bin .neq (T 56) (C (.int .i64 2))⟩,
 D 58 (.pick (T 55) (C (.bool true)) (T 57))])
 (.cond (T 58)
 (.seq (.region [
 D 0 (.mv (C (.bool false)))])
 .ret)
 .skip))
 (.seq (.region [
 D 60 (.mv (T 1)),
 D 61 (.call 17 [(T 60), (C (.int .i64 8))]),
 D 59 (.mv (T 61)),
 D 62 (.ext (T 59) 0),
 D 63 (.ext (T 59) 1),
 D 7 (.alloc true [(.int .i64 0), (.int .i64 0)]),
 E (.store 2 (T 7) (T 62)),
 D 8 (.mv (T 63))])
 (.seq (.region [
 D 64 (.mv (T 1)),
 D 65 (.load (some 2) (T 7)),
 D 66 (.call 19 [(T 64), (T 65), (C (.int .i64 1)), (C (.int .u32 258))]),
 D 9 (.mv (T 66))])
 (.seq (.region [
 D 67 (.mv (T 1)),
 D 68 (.load (some 2) (T 7)),
 D 69 (.call 21 [(T 67), (T 68)]),
 D 10 (.mv (T 69))])
 (.seq (.region [
 D 71 (.mv (T 1)),
 D 72 (.call 17 [(T 71), (C (.int .i64 3))]),
 D 70 (.mv (T 72)),
 D 73 (.ext (T 70) 0),
 D 74 (.ext (T 70) 1),
 D 11 (.alloc true [(.int .i64 0), (.int .i64 0)]),
 E (.store 2 (T 11) (T 73)),
 D 12 (.mv (T 74))])
 (.seq (.region [
 D 76 (.mv (T 1)),
 D 77 (.call 17 [(T 76), (C (.int .i64 (-1)))]),
 D 75 (.mv (T 77)),
 D 78 (.ext (T 75) 0),
 D 79 (.ext (T 75) 1),
 D 13 (.alloc true [(.int .i64 0), (.int .i64 0)]),
 E (.store 2 (T 13) (T 78)),
 D 14 (.mv (T 79))])
 (.seq (.region [
 D 81 (.mv (T 1)),
 D 82 (.load (some 2) (T 7)),
 D 83 (.call 20 [(T 81), (T 82), (C (.int .i64 1))]),
 D 80 (.mv (T 83)),
 D 84 (.ext (T 80) 0),
 D 85 (.ext (T 80) 1),
 D 15 (.mv (T 84)),
 D 16 (.mv (T 85))])
 (.seq (.region [
 D 87 (.mv (T 1)),
 D 88 (.load (some 2) (T 7)),
 D 89 (.call 20 [(T 87), (T 88), (C (.int .i64 2))]),
 D 86 (.mv (T 89)),
 D 90 (.ext (T 86) 0),
 D 91 (.ext (T 86) 1),
 D 17 (.mv (T 90)),
 D 18 (.mv (T 91))])
 (.seq (.region [
 D 93 (.mv (T 1)),
 D 94 (.load (some 2) (T 7)),
 D 95 (.call 29 [(T 93), (T 94), (C (.int .i64 4))]),
 D 92 (.mv (T 95)),
 D 96 (.ext (T 92) 0),
 D 97 (.ext (T 92) 1),
 D 19 (.mv (T 96)),
 D 20 (.mv (T 97))])
 (.seq (.region [
 D 99 (.mv (T 1)),
 D 100 (.load (some 2) (T 7)),
 D 101 (.call 29 [(T 99), (T 100), (C (.int .i64 8))]),
 D 98 (.mv (T 101)),
 D 102 (.ext (T 98) 0),
 D 103 (.ext (T 98) 1),
 D 21 (.mv (T 102)),
 D 22 (.mv (T 103))])
 (.seq (.region [
 D 104 (.mv (T 1)),
 D 105 (.load (some 2) (T 7)),
 D 106 (.bslice true 1 2 [(.int .u8 0), (.int .u8 0)] [(0, 1, (C (.int .u8 7))), (1, 1, (C (.int .u8 9)))]),
 D 107 (.call 18 [(T 104), (T 105), (C (.int .i64 6)), (T 106)]),
 D 23 (.mv (T 107))])
 (.seq (.region [
 D 108 (.mv (T 1)),
 D 109 (.load (some 2) (T 7)),
 D 110 (.bslice true 1 2 [(.int .u8 0), (.int .u8 0)] [(0, 1, (C (.int .u8 1))), (1, 1, (C (.int .u8 2)))]),
 D 111 (.call 18 [(T 108), (T 109), (C (.int .i64 7)), (T 110)]),
 D 24 (.mv (T 111))])
 (.seq (.region [
 D 112 (.mv (T 1)),
 D 113 (.call 22 [(T 112), (C (.int .i64 4))]),
 D 114 (.mv (T 1)),
 D 115 (.call 22 [(T 114), (C (.int .i64 5))]),
 D 25 (.mv (T 113)),
 D 26 (.mv (T 115))])
 (.seq (.region [
 D 116 (.mv (T 1)),
 D 117 (.load (some 2) (T 7)),
 D 118 (.call 33 [(T 116), (T 117)]),
 D 27 (.mv (T 118))])
 (.seq (.region [
 D 120 (.mv (T 1)),
 D 121 (.call 17 [(T 120), (C (.int .i64 6))]),
 D 119 (.mv (T 121)),
 D 122 (.ext (T 119) 0),
 D 123 (.ext (T 119) 1),
 D 28 (.alloc true [(.int .i64 0), (.int .i64 0)]),
 E (.store 2 (T 28) (T 122)),
 D 29 (.mv (T 123))])
 (.seq (.region [
 D 30 (.mv (C (.pointer none)))])
 (.seq (.region [
 D 125 (.mv (T 30)),
 D 126 (.call 17 [(T 125), (C (.int .i64 1))]),
 D 124 (.mv (T 126)),
 D 127 (.ext (T 124) 0),
 D 128 (.ext (T 124) 1),
 D 31 (.alloc true [(.int .i64 0), (.int .i64 0)]),
 E (.store 2 (T 31) (T 127)),
 D 32 (.mv (T 128))])
 (.seq (.region [
 D 129 (.mv (T 8)),
 D 130 (.bin .eql (T 129) (C (.int .i64 0))),
 D 131 (.mv (T 130)),
 ⟨(some 132), (some (131, true)), 0, true, .mv (T 9)⟩,
 D 133 (.pick (T 131) (T 132) (C (.bool false))),
 D 134 (.mv (T 133)),
 ⟨(some 135), (some (134, true)), 0, true, .mv (T 10)⟩,
 ⟨(some 136), (some (134, true)), 0, true, .bstr (T 135)⟩,
 ⟨(some 137), (some (134, true)), 0, true, .bin .eql (T 136) (C (.string ⟨#[0, 0, 0, 0, 2, 1, 0, 0]⟩))⟩,
 D 138 (.pick (T 134) (T 137) (C (.bool false))),
 D 139 (.mv (T 138)),
 ⟨(some 140), (some (139, true)), 0, true, .mv (T 12)⟩,
 ⟨(some 141), (some (139, true)), 0, true, .bin .eql (T 140) (C (.int .i64 10))⟩,
 D 142 (.pick (T 139) (T 141) (C (.bool false))),
 D 143 (.mv (T 142)),
 ⟨(some 144), (some (143, true)), 0, true, .mv (T 14)⟩,
 ⟨(some 145), (some (143, true)), 0, true, .bin .eql (T 144) (C (.int .i64 2))⟩,
 D 146 (.pick (T 143) (T 145) (C (.bool false))),
 D 147 (.mv (T 146)),
 ⟨(some 148), (some (147, true)), 0, true, .mv (T 15)⟩,
 ⟨(some 149), (some (147, true)), 0, true, .bin .eql (T 148) (C (.int .u32 258))⟩,
 D 150 (.pick (T 147) (T 149) (C (.bool false))),
 D 151 (.mv (T 150)),
 ⟨(some 152), (some (151, true)), 0, true, .mv (T 16)⟩,
 D 153 (.pick (T 151) (T 152) (C (.bool false))),
 D 154 (.mv (T 153)),
 ⟨(some 155), (some (154, true)), 0, true, .mv (T 18)⟩,
 ⟨(some 156), (some (154, true)), 0, true, .un .not (T 155)⟩,
 D 157 (.pick (T 154) (T 156) (C (.bool false))),
 D 158 (.mv (T 157)),
 ⟨(some 159), (some (158, true)), 0, true, .mv (T 19)⟩,
 ⟨(some 160), (some (158, true)), 0, true, .bin .eql (T 159) (C (.int .u8 2))⟩,
 D 161 (.pick (T 158) (T 160) (C (.bool false))),
 D 162 (.mv (T 161)),
 ⟨(some 163), (some (162, true)), 0, true, .mv (T 20)⟩,
 D 164 (.pick (T 162) (T 163) (C (.bool false))),
 D 165 (.mv (T 164)),
 ⟨(some 166), (some (165, true)), 0, true, .mv (T 22)⟩,
 ⟨(some 167), (some (165, true)), 0, true, .un .not (T 166)⟩,
 D 168 (.pick (T 165) (T 167) (C (.bool false))),
 D 169 (.mv (T 168)),
 ⟨(some 170), (some (169, true)), 0, true, .mv (T 23)⟩,
 D 171 (.pick (T 169) (T 170) (C (.bool false))),
 D 172 (.mv (T 171)),
 ⟨(some 173), (some (172, true)), 0, true, .mv (T 24)⟩,
 ⟨(some 174), (some (172, true)), 0, true, .un .not (T 173)⟩,
 D 175 (.pick (T 172) (T 174) (C (.bool false))),
 D 176 (.mv (T 175)),
 ⟨(some 177), (some (176, true)), 0, true, .mv (T 25)⟩,
 D 178 (.pick (T 176) (T 177) (C (.bool false))),
 D 179 (.mv (T 178)),
 ⟨(some 180), (some (179, true)), 0, true, .mv (T 26)⟩,
 ⟨(some 181), (some (179, true)), 0, true, .un .not (T 180)⟩,
 D 182 (.pick (T 179) (T 181) (C (.bool false))),
 D 183 (.mv (T 182)),
 ⟨(some 184), (some (183, true)), 0, true, .mv (T 27)⟩,
 ⟨(some 185), (some (183, true)), 0, true, .un .not (T 184)⟩,
 D 186 (.pick (T 183) (T 185) (C (.bool false))),
 D 187 (.mv (T 186)),
 ⟨(some 188), (some (187, true)), 0, true, .mv (T 29)⟩,
 ⟨(some 189), (some (187, true)), 0, true, .bin .eql (T 188) (C (.int .i64 0))⟩,
 D 190 (.pick (T 187) (T 189) (C (.bool false))),
 D 191 (.mv (T 190)),
 ⟨(some 192), (some (191, true)), 0, true, .load (some 2) (T 28)⟩,
 ⟨(some 193), (some (191, true)), 0, true, .build [(.int .i64 0), (.int .i64 0)] [(0, 1, (C (.int .i64 4))), (1, 1, (C (.int .i64 6)))]⟩,
 ⟨(some 194), (some (191, true)), 0, true, .eqs false (.agg [.nu, .nu]) (T 192) (T 193)⟩,
 D 195 (.pick (T 191) (T 194) (C (.bool false))),
 D 196 (.mv (T 195)),
 ⟨(some 197), (some (196, true)), 0, true, .mv (T 1)⟩,
 ⟨(some 198), (some (196, true)), 0, true, .load (some 2) (T 28)⟩,
 ⟨(some 199), (some (196, true)), 0, true, .call 21 [(T 197), (T 198)]⟩,
 ⟨(some 200), (some (196, true)), 0, true, .bstr (T 199)⟩,
 ⟨(some 201), (some (196, true)), 0, true, .bin .eql (T 200) (C (.string ⟨#[0, 0, 0, 0, 0, 0]⟩))⟩,
 D 202 (.pick (T 196) (T 201) (C (.bool false))),
 D 203 (.mv (T 202)),
 ⟨(some 204), (some (203, true)), 0, true, .mv (T 1)⟩,
 ⟨(some 205), (some (203, true)), 0, true, .call 23 [(T 204)]⟩,
 ⟨(some 206), (some (203, true)), 0, true, .bin .eql (T 205) (C (.int .i64 10))⟩,
 D 207 (.pick (T 203) (T 206) (C (.bool false))),
 D 208 (.mv (T 207)),
 ⟨(some 209), (some (208, true)), 0, true, .mv (T 1)⟩,
 ⟨(some 210), (some (208, true)), 0, true, .call 35 [(T 209)]⟩,
 ⟨(some 211), (some (208, true)), 0, true, .bin .eql (T 210) (C (.int .i64 0))⟩,
 D 212 (.pick (T 208) (T 211) (C (.bool false))),
 D 213 (.mv (T 212)),
 ⟨(some 214), (some (213, true)), 0, true, .mv (T 1)⟩,
 ⟨(some 215), (some (213, true)), 0, true, .call 24 [(T 214)]⟩,
 ⟨(some 216), (some (213, true)), 0, true, .bin .eql (T 215) (C (.int .i64 10))⟩,
 D 217 (.pick (T 213) (T 216) (C (.bool false))),
 D 218 (.mv (T 217)),
 ⟨(some 219), (some (218, true)), 0, true, .mv (T 32)⟩,
 ⟨(some 220), (some (218, true)), 0, true, .bin .eql (T 219) (C (.int .i64 2))⟩,
 D 221 (.pick (T 218) (T 220) (C (.bool false))),
 D 222 (.mv (T 221)),
 ⟨(some 223), (some (222, true)), 0, true, .mv (T 30)⟩,
 ⟨(some 224), (some (222, true)), 0, true, .call 23 [(T 223)]⟩,
 ⟨(some 225), (some (222, true)), 0, true, .bin .eql (T 224) (C (.int .i64 0))⟩,
 D 226 (.pick (T 222) (T 225) (C (.bool false))),
 D 227 (.mv (T 226)),
 ⟨(some 228), (some (227, true)), 0, true, .mv (T 30)⟩,
 ⟨(some 229), (some (227, true)), 0, true, .build [(.int .i64 0), (.int .i64 0)] []⟩,
 ⟨(some 230), (some (227, true)), 0, true, .call 33 [(T 228), (T 229)]⟩,
 ⟨(some 231), (some (227, true)), 0, true, .un .not (T 230)⟩,
 D 232 (.pick (T 227) (T 231) (C (.bool false))),
 D 233 (.mv (T 232)),
 ⟨(some 234), (some (233, true)), 0, true, .mv (T 30)⟩,
 ⟨(some 235), (some (233, true)), 0, true, .call 22 [(T 234), (C (.int .i64 0))]⟩,
 ⟨(some 236), (some (233, true)), 0, true, .un .not (T 235)⟩,
 D 237 (.pick (T 233) (T 236) (C (.bool false))),
 D 0 (.mv (T 237))])
 .ret)))))))))))))))))))))), [.tmp 0]⟩
theorem ac15_ok : compFn Try.prog Try.f15 = some ac15 := by kernel_rfl
/-- winepress/arena.New -/
def ac16 : AFn := ⟨(.seq (.region [
 D 2 (.mv (C (.pointer none))),
 D 3 (.mv (C (.int .i64 0)))])
 (.seq (.seq (.region [
 D 4 (.mv (T 0)),
 D 5 (.bin .lss (T 4) (C (.int .i64 1))),
 D 6 (.mv (T 5)),
 ⟨(some 7), (some (6, false)), 0, true, .mv (T 0)⟩,
 ⟨(some 8), (some (6, false)), 0, true, .bin .gtr (T 7) (C (.int .i64 1048576))⟩,
 D 9 (.pick (T 6) (C (.bool true)) (T 8))])
 (.cond (T 9)
 (.seq (.region [
 D 2 (.mv (C (.pointer none))),
 D 3 (.mv (C (.int .i64 2)))])
 .ret)
 .skip))
 (.seq (.region [
 D 10 (.mv (T 0)),
 D 11 (.mkslice true 1 [(.int .u8 0)] (T 10) (T 10)),
 D 12 (.build [(.slice none 0 0), (.int .i64 0), (.int .i64 0)] [(0, 1, (T 11))]),
 D 13 (.box false (T 12)),
 D 2 (.mv (T 13)),
 D 3 (.mv (C (.int .i64 0)))])
 .ret))), [.tmp 2, .tmp 3]⟩
theorem ac16_ok : compFn Try.prog Try.f16 = some ac16 := by kernel_rfl
/-- (*winepress/arena.Arena).Take -/
def ac17 : AFn := ⟨(.seq (.region [
 D 4 (.alloc true [(.int .i64 0), (.int .i64 0)]),
 D 5 (.mv (C (.int .i64 0)))])
 (.seq (.block 0 (.seq (.region [
 D 8 (.mv (T 0)),
 D 9 (.eqs false .ptr (T 8) (C (.pointer none))),
 D 10 (.mv (T 9)),
 ⟨(some 11), (some (10, false)), 0, true, .mv (T 1)⟩,
 ⟨(some 12), (some (10, false)), 0, true, .bin .lss (T 11) (C (.int .i64 0))⟩,
 D 13 (.pick (T 10) (C (.bool true)) (T 12)),
 D 7 (.mv (T 13))])
 (.cond (T 7)
 (.seq (.region [
 D 14 (.build [(.int .i64 0), (.int .i64 0)] []),
 E (.store 2 (T 4) (T 14)),
 D 5 (.mv (C (.int .i64 2)))])
 .ret)
 (.seq (.drawn [
 ⟨(some 16), none, 0, false, .mv (T 1)⟩,
 ⟨(some 17), none, 0, false, .mv (T 0)⟩,
 ⟨(some 18), none, 2, false, .nilck (T 17)⟩,
 ⟨(some 19), none, 6, false, .faddr 0 (T 18)⟩,
 ⟨(some 20), none, 14, false, .load none (T 19)⟩,
 ⟨(some 21), none, 30, false, .len (T 20)⟩,
 ⟨(some 22), none, 0, false, .mv (T 0)⟩,
 ⟨(some 23), none, 64, false, .nilck (T 22)⟩,
 ⟨(some 24), none, 192, false, .faddr 1 (T 23)⟩,
 ⟨(some 25), none, 448, false, .load none (T 24)⟩,
 ⟨(some 26), none, 1022, false, .bin .sub (T 21) (T 25)⟩,
 ⟨(some 27), none, 2047, false, .bin .gtr (T 16) (T 26)⟩,
 ⟨(some 15), none, 4095, false, .mv (T 27)⟩])
 (.cond (T 15)
 (.seq (.region [
 D 28 (.build [(.int .i64 0), (.int .i64 0)] []),
 E (.store 2 (T 4) (T 28)),
 D 5 (.mv (C (.int .i64 10)))])
 .ret)
 .skip)))))
 (.seq (.region [
 D 29 (.mv (T 0)),
 D 30 (.nilck (T 29)),
 D 31 (.faddr 1 (T 30)),
 D 32 (.load none (T 31)),
 D 33 (.mv (T 1)),
 D 34 (.build [(.int .i64 0), (.int .i64 0)] [(0, 1, (T 32)), (1, 1, (T 33))]),
 D 6 (.alloc true [(.int .i64 0), (.int .i64 0)]),
 E (.store 2 (T 6) (T 34))])
 (.seq (.drawn [
 ⟨(some 35), none, 0, false, .mv (T 0)⟩,
 ⟨(some 36), none, 1, false, .nilck (T 35)⟩,
 ⟨(some 37), none, 3, false, .faddr 0 (T 36)⟩,
 ⟨(some 38), none, 7, false, .load none (T 37)⟩,
 ⟨(some 39), none, 0, false, .faddr 0 (T 6)⟩,
 ⟨(some 40), none, 16, false, .load none (T 39)⟩,
 ⟨(some 41), none, 0, false, .faddr 0 (T 6)⟩,
 ⟨(some 42), none, 64, false, .load none (T 41)⟩,
 ⟨(some 43), none, 0, false, .mv (T 1)⟩,
 ⟨(some 44), none, 448, false, .bin .add (T 42) (T 43)⟩,
 ⟨(some 45), none, 1023, false, .slice 1 (T 38) (some (T 40)) (some (T 44)) none⟩,
 ⟨none, none, 2047, true, .clear 1 [(.int .u8 0)] (T 45)⟩])
 (.seq (.region [
 D 46 (.mv (T 0)),
 D 47 (.nilck (T 46)),
 D 48 (.faddr 1 (T 47)),
 D 49 (.load none (T 48)),
 D 50 (.mv (T 1)),
 D 51 (.bin .add (T 49) (T 50)),
 D 52 (.nilck (T 46)),
 D 53 (.faddr 1 (T 52)),
 E (.store 1 (T 53) (T 51))])
 (.seq (.drawn [
 ⟨(some 54), none, 0, false, .mv (T 0)⟩,
 ⟨(some 55), none, 0, false, .mv (T 0)⟩,
 ⟨(some 56), none, 2, false, .nilck (T 55)⟩,
 ⟨(some 57), none, 6, false, .faddr 2 (T 56)⟩,
 ⟨(some 58), none, 14, false, .load none (T 57)⟩,
 ⟨(some 59), none, 0, false, .mv (T 0)⟩,
 ⟨(some 60), none, 32, false, .nilck (T 59)⟩,
 ⟨(some 61), none, 96, false, .faddr 1 (T 60)⟩,
 ⟨(some 62), none, 224, false, .load none (T 61)⟩,
 ⟨(some 63), none, 510, false, .mm true [(T 58), (T 62)]⟩,
 ⟨(some 64), none, 1023, false, .nilck (T 54)⟩,
 ⟨(some 65), none, 2047, false, .faddr 2 (T 64)⟩,
 ⟨none, none, 4095, true, .store 1 (T 65) (T 63)⟩])
 (.seq (.region [
 D 66 (.load (some 2) (T 6)),
 E (.store 2 (T 4) (T 66)),
 D 5 (.mv (C (.int .i64 0)))])
 .ret))))))), [.cell 4 (some 2), .tmp 5]⟩
theorem ac17_ok : compFn Try.prog Try.f17 = some ac17 := by kernel_rfl
/-- (*winepress/arena.Arena).Store -/
def ac18 : AFn := ⟨(.seq (.region [
 D 5 (.box true (T 1)),
 D 8 (.mv (C (.bool false)))])
 (.seq (.seq (.region [
 D 9 (.mv (T 0)),
 D 10 (.load (some 2) (T 5)),
 D 11 (.call 33 [(T 9), (T 10)]),
 D 12 (.un .not (T 11)),
 D 13 (.mv (T 12)),
 ⟨(some 14), (some (13, false)), 0, true, .mv (T 2)⟩,
 ⟨(some 15), (some (13, false)), 0, true, .bin .lss (T 14) (C (.int .i64 0))⟩,
 D 16 (.pick (T 13) (C (.bool true)) (T 15)),
 D 17 (.mv (T 16)),
 ⟨(some 18), (some (17, false)), 0, true, .mv (T 2)⟩,
 ⟨(some 19), (some (17, false)), 0, true, .faddr 1 (T 5)⟩,
 ⟨(some 20), (some (17, false)), 0, true, .load none (T 19)⟩,
 ⟨(some 21), (some (17, false)), 0, true, .mv (T 3)⟩,
 ⟨(some 22), (some (17, false)), 0, true, .len (T 21)⟩,
 ⟨(some 23), (some (17, false)), 0, true, .bin .sub (T 20) (T 22)⟩,
 ⟨(some 24), (some (17, false)), 0, true, .bin .gtr (T 18) (T 23)⟩,
 D 25 (.pick (T 17) (C (.bool true)) (T 24))])
 (.cond (T 25)
 (.seq (.region [
 D 8 (.mv (C (.bool false)))])
 .ret)
 .skip))
 (.seq (.drawn [
 ⟨(some 26), none, 0, false, .mv (T 0)⟩,
 ⟨(some 27), none, 1, false, .nilck (T 26)⟩,
 ⟨(some 28), none, 3, false, .faddr 0 (T 27)⟩,
 ⟨(some 29), none, 7, false, .load none (T 28)⟩,
 ⟨(some 30), none, 0, false, .faddr 0 (T 5)⟩,
 ⟨(some 31), none, 16, false, .load none (T 30)⟩,
 ⟨(some 32), none, 0, false, .mv (T 2)⟩,
 ⟨(some 33), none, 112, false, .bin .add (T 31) (T 32)⟩,
 ⟨(some 34), none, 255, false, .slice 1 (T 29) (some (T 33)) none none⟩,
 ⟨(some 35), none, 0, false, .mv (T 3)⟩,
 ⟨(some 36), none, 1023, true, .copy 1 (T 34) (T 35)⟩])
 (.seq (.region [
 D 8 (.mv (C (.bool true)))])
 .ret)))), [.tmp 8]⟩
theorem ac18_ok : compFn Try.prog Try.f18 = some ac18 := by kernel_rfl
/-- a loop of (*winepress/arena.Arena).SetWord; it keeps [17, 16, 9, 3] -/
def lb19_0 : ACode := (.seq (.region [
 D 18 (.bin .lss (T 17) (T 16))])
 (.seq (.cond (T 18)
 .skip
 (.exit 0))
 (.seq (.block 1 (.seq (.region [
 D 19 (.mv (T 17)),
 D 10 (.mv (T 19))])
 (.region [
 D 20 (.mv (T 9)),
 D 21 (.mv (T 10)),
 D 22 (.mv (T 3)),
 D 23 (.mv (T 10)),
 D 24 (.bin .mul (C (.int .i64 8)) (T 23)),
 D 25 (.bin .shr (T 22) (T 24)),
 D 26 (.conv .u8 (T 25)),
 D 27 (.iaddr 1 (T 20) (T 21)),
 E (.store 1 (T 27) (T 26))])))
 (.region [
 D 28 (.bin .add (T 17) (C (.int .i64 1))),
 D 17 (.mv (T 28))]))))
/-- (*winepress/arena.Arena).SetWord -/
def ac19 : AFn := ⟨(.seq (.region [
 D 5 (.box true (T 1)),
 D 8 (.mv (C (.bool false)))])
 (.seq (.region [
 D 11 (.mv (T 0)),
 D 12 (.load (some 2) (T 5)),
 D 13 (.mv (T 2)),
 D 14 (.call 59 [(T 11), (T 12), (T 13)]),
 D 9 (.mv (T 14))])
 (.seq (.seq (.region [
 D 15 (.mv (T 9)),
 D 16 (.len (T 15)),
 D 17 (.mv (C (.int .i64 0)))])
 (.block 0 (.loop [17, 16, 9, 3] lb19_0)))
 (.seq (.region [
 D 29 (.mv (T 9)),
 D 30 (.eqs true .slice (T 29) (C (.slice none 0 0))),
 D 8 (.mv (T 30))])
 .ret)))), [.tmp 8]⟩
theorem ac19_ok : compFn Try.prog Try.f19 = some ac19 := by kernel_rfl
/-- a loop of (*winepress/arena.Arena).Word; it keeps [6, 17, 16, 8, 15] -/
def lb20_0 : ACode := (.seq (.region [
 D 18 (.bin .lss (T 17) (T 16))])
 (.seq (.cond (T 18)
 .skip
 (.exit 0))
 (.seq (.block 1 (.seq (.region [
 D 19 (.mv (T 17)),
 D 20 (.iaddr 1 (T 15) (T 17)),
 D 21 (.load none (T 20)),
 D 9 (.mv (T 19)),
 D 10 (.mv (T 21))])
 (.region [
 D 22 (.mv (T 6)),
 D 23 (.mv (T 10)),
 D 24 (.conv .u32 (T 23)),
 D 25 (.mv (T 9)),
 D 26 (.bin .mul (C (.int .i64 8)) (T 25)),
 D 27 (.bin .shl (T 24) (T 26)),
 D 28 (.bin .or (T 22) (T 27)),
 D 6 (.mv (T 28))])))
 (.region [
 D 29 (.bin .add (T 17) (C (.int .i64 1))),
 D 17 (.mv (T 29))]))))
/-- (*winepress/arena.Arena).Word -/
def ac20 : AFn := ⟨(.seq (.region [
 D 4 (.box true (T 1)),
 D 6 (.mv (C (.int .u32 0))),
 D 7 (.mv (C (.bool false)))])
 (.seq (.region [
 D 11 (.mv (T 0)),
 D 12 (.load (some 2) (T 4)),
 D 13 (.mv (T 2)),
 D 14 (.call 59 [(T 11), (T 12), (T 13)]),
 D 8 (.mv (T 14))])
 (.seq (.seq (.region [
 D 15 (.mv (T 8)),
 D 16 (.len (T 15)),
 D 17 (.mv (C (.int .i64 0)))])
 (.block 0 (.loop [6, 17, 16, 8, 15] lb20_0)))
 (.seq (.region [
 D 30 (.mv (T 6)),
 D 31 (.mv (T 8)),
 D 32 (.eqs true .slice (T 31) (C (.slice none 0 0))),
 D 6 (.mv (T 30)),
 D 7 (.mv (T 32))])
 .ret)))), [.tmp 6, .tmp 7]⟩
theorem ac20_ok : compFn Try.prog Try.f20 = some ac20 := by kernel_rfl
/-- (*winepress/arena.Arena).Load -/
def ac21 : AFn := ⟨(.seq (.region [
 D 3 (.box true (T 1)),
 D 4 (.mv (C (.slice none 0 0)))])
 (.seq (.seq (.region [
 D 5 (.mv (T 0)),
 D 6 (.load (some 2) (T 3)),
 D 7 (.call 33 [(T 5), (T 6)]),
 D 8 (.un .not (T 7))])
 (.cond (T 8)
 (.seq (.region [
 D 4 (.mv (C (.slice none 0 0)))])
 .ret)
 .skip))
 (.seq (.drawn [
 ⟨(some 9), none, 0, false, .mv (T 0)⟩,
 ⟨(some 10), none, 1, false, .nilck (T 9)⟩,
 ⟨(some 11), none, 3, false, .faddr 0 (T 10)⟩,
 ⟨(some 12), none, 7, false, .load none (T 11)⟩,
 ⟨(some 13), none, 0, false, .faddr 0 (T 3)⟩,
 ⟨(some 14), none, 16, false, .load none (T 13)⟩,
 ⟨(some 15), none, 0, false, .faddr 0 (T 3)⟩,
 ⟨(some 16), none, 64, false, .load none (T 15)⟩,
 ⟨(some 17), none, 0, false, .faddr 1 (T 3)⟩,
 ⟨(some 18), none, 256, false, .load none (T 17)⟩,
 ⟨(some 19), none, 960, false, .bin .add (T 16) (T 18)⟩,
 ⟨(some 20), none, 2047, false, .slice 1 (T 12) (some (T 14)) (some (T 19)) none⟩,
 ⟨(some 21), none, 4095, true, .call 60 [(T 20)]⟩,
 ⟨(some 4), none, 8191, false, .mv (T 21)⟩])
 .ret))), [.tmp 4]⟩
theorem ac21_ok : compFn Try.prog Try.f21 = some ac21 := by kernel_rfl
/-- (*winepress/arena.Arena).Release -/
def ac22 : AFn := ⟨(.seq (.region [
 D 4 (.mv (C (.bool false)))])
 (.seq (.seq (.region [
 D 5 (.mv (T 0)),
 D 6 (.eqs false .ptr (T 5) (C (.pointer none))),
 D 7 (.mv (T 6)),
 ⟨(some 8), (some (7, false)), 0, true, .mv (T 1)⟩,
 ⟨(some 9), (some (7, false)), 0, true, .bin .lss (T 8) (C (.int .i64 0))⟩,
 D 10 (.pick (T 7) (C (.bool true)) (T 9)),
 D 11 (.mv (T 10)),
 ⟨(some 12), (some (11, false)), 0, true, .mv (T 1)⟩,
 ⟨(some 13), (some (11, false)), 0, true, .mv (T 0)⟩,
 ⟨(some 14), (some (11, false)), 0, true, .nilck (T 13)⟩,
 ⟨(some 15), (some (11, false)), 0, true, .faddr 1 (T 14)⟩,
 ⟨(some 16), (some (11, false)), 0, true, .load none (T 15)⟩,
 ⟨(some 17), (some (11, false)), 0, true, .bin .gtr (T 12) (T 16)⟩,
 D 18 (.pick (T 11) (C (.bool true)) (T 17))])
 (.cond (T 18)
 (.seq (.region [
 D 4 (.mv (C (.bool false)))])
 .ret)
 .skip))
 (.seq (.region [
 D 19 (.mv (T 0)),
 D 20 (.mv (T 1)),
 D 21 (.nilck (T 19)),
 D 22 (.faddr 1 (T 21)),
 E (.store 1 (T 22) (T 20))])
 (.seq (.region [
 D 4 (.mv (C (.bool true)))])
 .ret)))), [.tmp 4]⟩
theorem ac22_ok : compFn Try.prog Try.f22 = some ac22 := by kernel_rfl
/-- (*winepress/arena.Arena).Peak -/
def ac23 : AFn := ⟨(.seq (.region [
 D 2 (.mv (C (.int .i64 0)))])
 (.seq (.seq (.region [
 D 3 (.mv (T 0)),
 D 4 (.eqs false .ptr (T 3) (C (.pointer none)))])
 (.cond (T 4)
 (.seq (.region [
 D 2 (.mv (C (.int .i64 0)))])
 .ret)
 .skip))
 (.seq (.region [
 D 5 (.mv (T 0)),
 D 6 (.nilck (T 5)),
 D 7 (.faddr 2 (T 6)),
 D 8 (.load none (T 7)),
 D 2 (.mv (T 8))])
 .ret))), [.tmp 2]⟩
theorem ac23_ok : compFn Try.prog Try.f23 = some ac23 := by kernel_rfl
/-- (*winepress/arena.Arena).Mark -/
def ac24 : AFn := ⟨(.seq (.region [
 D 2 (.mv (C (.int .i64 0)))])
 (.seq (.seq (.region [
 D 3 (.mv (T 0)),
 D 4 (.eqs false .ptr (T 3) (C (.pointer none)))])
 (.cond (T 4)
 (.seq (.region [
 D 2 (.mv (C (.int .i64 0)))])
 .ret)
 .skip))
 (.seq (.region [
 D 5 (.mv (T 0)),
 D 6 (.nilck (T 5)),
 D 7 (.faddr 1 (T 6)),
 D 8 (.load none (T 7)),
 D 2 (.mv (T 8))])
 .ret))), [.tmp 2]⟩
theorem ac24_ok : compFn Try.prog Try.f24 = some ac24 := by kernel_rfl
/-- a loop of winepress/winepresslaw01.small; it keeps [0, 3] -/
def lb25_0 : ACode := (.seq (.seq (.region [
 D 4 (.mv (T 3)),
 D 5 (.mv (T 0)),
 D 6 (.len (T 5)),
 D 7 (.bin .lss (T 4) (T 6))])
 (.cond (T 7)
 .skip
 (.exit 0)))
 (.seq (.block 1 (.seq (.region [
 D 10 (.mv (T 0)),
 D 11 (.mv (T 3)),
 D 12 (.iaddr 6 (T 10) (T 11)),
 D 13 (.faddr 5 (T 12)),
 D 14 (.load none (T 13)),
 D 15 (.len (T 14)),
 D 16 (.bin .gtr (T 15) (C (.int .i64 300)))])
 (.cond (T 16)
 (.seq (.region [
 D 2 (.mv (C (.bool false)))])
 .ret)
 .skip)))
 (.region [
 D 8 (.mv (T 3)),
 D 9 (.bin .add (T 8) (C (.int .i64 1))),
 D 3 (.mv (T 9))])))
/-- winepress/winepresslaw01.small -/
def ac25 : AFn := ⟨(.seq (.region [
 D 2 (.mv (C (.bool false)))])
 (.seq (.seq (.region [
 D 3 (.mv (C (.int .i64 0)))])
 (.block 0 (.loop [0, 3] lb25_0)))
 (.seq (.region [
 D 17 (.mv (T 0)),
 D 18 (.len (T 17)),
 D 19 (.bin .leq (T 18) (C (.int .i64 60))),
 D 2 (.mv (T 19))])
 .ret))), [.tmp 2]⟩
theorem ac25_ok : compFn Try.prog Try.f25 = some ac25 := by kernel_rfl
/-- winepress/winepressref01.May -/
def ac26 : AFn := ⟨(.seq (.region [
 D 2 (.mv (C (.bool false)))])
 (.seq (.region [
 D 3 (.mv (T 0)),
 D 4 (.bin .geq (T 3) (C (.int .i64 1))),
 D 5 (.mv (T 4)),
 ⟨(some 6), (some (5, true)), 0, true, .mv (T 0)⟩,
 ⟨(some 7), (some (5, true)), 0, true, .bin .leq (T 6) (C (.int .i64 1048576))⟩,
 D 8 (.pick (T 5) (T 7) (C (.bool false))),
 D 2 (.mv (T 8))])
 .ret)), [.tmp 2]⟩
theorem ac26_ok : compFn Try.prog Try.f26 = some ac26 := by kernel_rfl
/-- winepress/winepressref01.New -/
def ac27 : AFn := ⟨(.seq (.region [
 D 2 (.mv (C (.pointer none)))])
 (.seq (.region [
 D 3 (.mv (T 0)),
 D 4 (.mkslice true 1 [(.int .u8 0)] (T 3) (T 3)),
 D 5 (.build [(.slice none 0 0), (.int .i64 0), (.int .i64 0)] [(0, 1, (T 4))]),
 D 6 (.box false (T 5)),
 D 2 (.mv (T 6))])
 .ret)), [.tmp 2]⟩
theorem ac27_ok : compFn Try.prog Try.f27 = some ac27 := by kernel_rfl
/-- winepress/winepresslaw01.same -/
def ac28 : AFn := ⟨(.seq (.region [
 D 5 (.box false (T 2)),
 D 6 (.mv (C (.bool false)))])
 (.seq (.seq (.region [
 D 12 (.faddr 0 (T 5)),
 D 13 (.load none (T 12))])
 (.block 0 (.seq (.region [
 D 15 (.bin .eql (T 13) (C (.int .i64 0))),
 D 14 (.mv (T 15))])
 (.cond (T 14)
 (.seq (.region [
 D 17 (.mv (T 0)),
 D 18 (.faddr 1 (T 5)),
 D 19 (.load none (T 18)),
 D 20 (.call 17 [(T 17), (T 19)]),
 D 16 (.mv (T 20)),
 D 21 (.ext (T 16) 0),
 D 22 (.ext (T 16) 1),
 D 7 (.alloc true [(.int .i64 0), (.int .i64 0)]),
 E (.store 2 (T 7) (T 21)),
 D 8 (.mv (T 22))])
 (.seq (.region [
 D 24 (.mv (T 1)),
 D 25 (.faddr 1 (T 5)),
 D 26 (.load none (T 25)),
 D 27 (.call 61 [(T 24), (T 26)]),
 D 23 (.mv (T 27)),
 D 28 (.ext (T 23) 0),
 D 29 (.ext (T 23) 1),
 D 9 (.alloc true [(.int .i64 0), (.int .i64 0)]),
 E (.store 2 (T 9) (T 28)),
 D 10 (.mv (T 29))])
 (.seq (.region [
 D 30 (.load (some 2) (T 7)),
 D 31 (.load (some 2) (T 9)),
 D 32 (.eqs false (.agg [.nu, .nu]) (T 30) (T 31)),
 D 33 (.mv (T 32)),
 ⟨(some 34), (some (33, true)), 0, true, .mv (T 8)⟩,
 ⟨(some 35), (some (33, true)), 0, true, .mv (T 10)⟩,
 ⟨(some 36), (some (33, true)), 0, true, .bin .eql (T 34) (T 35)⟩,
 D 37 (.pick (T 33) (T 36) (C (.bool false))),
 D 6 (.mv (T 37))])
 .ret)))
 (.seq (.region [
 D 39 (.bin .eql (T 13) (C (.int .i64 1))),
 D 38 (.mv (T 39))])
 (.cond (T 38)
 (.seq (.moves [5] true [
 ⟨(some 40), none, 0, false, .mv (T 0)⟩,
 ⟨(some 41), none, 0, false, .faddr 1 (T 5)⟩,
 ⟨(some 42), none, 0, false, .load none (T 41)⟩,
 D 43 (.call 22 [(T 40), (T 42)]),
 ⟨(some 44), none, 0, false, .mv (T 1)⟩,
 ⟨(some 45), none, 0, false, .faddr 1 (T 5)⟩,
 ⟨(some 46), none, 0, false, .load none (T 45)⟩,
 D 47 (.call 62 [(T 44), (T 46)]),
 ⟨(some 48), none, 0, false, .eqs false .bool (T 43) (T 47)⟩,
 ⟨(some 6), none, 0, false, .mv (T 48)⟩])
 .ret)
 (.seq (.region [
 D 50 (.bin .eql (T 13) (C (.int .i64 2))),
 D 49 (.mv (T 50))])
 (.cond (T 49)
 (.seq (.region [
 D 51 (.faddr 5 (T 5)),
 D 52 (.load none (T 51)),
 D 53 (.len (T 52)),
 D 54 (.conv .u8 (T 53)),
 D 11 (.mv (T 54))])
 (.seq (.moves [5] true [
 ⟨(some 55), none, 0, false, .mv (T 0)⟩,
 ⟨(some 56), none, 0, false, .faddr 2 (T 5)⟩,
 ⟨(some 57), none, 0, false, .load (some 2) (T 56)⟩,
 ⟨(some 58), none, 0, false, .faddr 1 (T 5)⟩,
 ⟨(some 59), none, 0, false, .load none (T 58)⟩,
 ⟨(some 60), none, 0, false, .mv (T 11)⟩,
 D 61 (.call 36 [(T 55), (T 57), (T 59), (T 60)]),
 ⟨(some 62), none, 0, false, .mv (T 1)⟩,
 ⟨(some 63), none, 0, false, .faddr 2 (T 5)⟩,
 ⟨(some 64), none, 0, false, .load (some 2) (T 63)⟩,
 ⟨(some 65), none, 0, false, .faddr 1 (T 5)⟩,
 ⟨(some 66), none, 0, false, .load none (T 65)⟩,
 ⟨(some 67), none, 0, false, .mv (T 11)⟩,
 D 68 (.call 63 [(T 62), (T 64), (T 66), (T 67)]),
 ⟨(some 69), none, 0, false, .eqs false .bool (T 61) (T 68)⟩,
 ⟨(some 6), none, 0, false, .mv (T 69)⟩])
 .ret))
 (.seq (.region [
 D 71 (.bin .eql (T 13) (C (.int .i64 3))),
 D 70 (.mv (T 71))])
 (.cond (T 70)
 (.seq (.moves [5] true [
 ⟨(some 72), none, 0, false, .mv (T 0)⟩,
 ⟨(some 73), none, 0, false, .faddr 2 (T 5)⟩,
 ⟨(some 74), none, 0, false, .load (some 2) (T 73)⟩,
 ⟨(some 75), none, 0, false, .faddr 1 (T 5)⟩,
 ⟨(some 76), none, 0, false, .load none (T 75)⟩,
 ⟨(some 77), none, 0, false, .faddr 4 (T 5)⟩,
 ⟨(some 78), none, 0, false, .load none (T 77)⟩,
 D 79 (.call 19 [(T 72), (T 74), (T 76), (T 78)]),
 ⟨(some 80), none, 0, false, .mv (T 1)⟩,
 ⟨(some 81), none, 0, false, .faddr 2 (T 5)⟩,
 ⟨(some 82), none, 0, false, .load (some 2) (T 81)⟩,
 ⟨(some 83), none, 0, false, .faddr 1 (T 5)⟩,
 ⟨(some 84), none, 0, false, .load none (T 83)⟩,
 ⟨(some 85), none, 0, false, .faddr 4 (T 5)⟩,
 ⟨(some 86), none, 0, false, .load none (T 85)⟩,
 D 87 (.call 64 [(T 80), (T 82), (T 84), (T 86)]),
 ⟨(some 88), none, 0, false, .eqs false .bool (T 79) (T 87)⟩,
 ⟨(some 6), none, 0, false, .mv (T 88)⟩])
 .ret)
 .skip))))))))))
 (.seq (.moves [5] true [
 ⟨(some 89), none, 0, false, .mv (T 0)⟩,
 ⟨(some 90), none, 0, false, .faddr 2 (T 5)⟩,
 ⟨(some 91), none, 0, false, .load (some 2) (T 90)⟩,
 ⟨(some 92), none, 0, false, .faddr 1 (T 5)⟩,
 ⟨(some 93), none, 0, false, .load none (T 92)⟩,
 ⟨(some 94), none, 0, false, .faddr 5 (T 5)⟩,
 ⟨(some 95), none, 0, false, .load none (T 94)⟩,
 D 96 (.call 18 [(T 89), (T 91), (T 93), (T 95)]),
 ⟨(some 97), none, 0, false, .mv (T 1)⟩,
 ⟨(some 98), none, 0, false, .faddr 2 (T 5)⟩,
 ⟨(some 99), none, 0, false, .load (some 2) (T 98)⟩,
 ⟨(some 100), none, 0, false, .faddr 1 (T 5)⟩,
 ⟨(some 101), none, 0, false, .load none (T 100)⟩,
 ⟨(some 102), none, 0, false, .faddr 5 (T 5)⟩,
 ⟨(some 103), none, 0, false, .load none (T 102)⟩,
 D 104 (.call 65 [(T 97), (T 99), (T 101), (T 103)]),
 ⟨(some 105), none, 0, false, .eqs false .bool (T 96) (T 104)⟩,
 ⟨(some 6), none, 0, false, .mv (T 105)⟩])
 .ret))), [.tmp 6]⟩
theorem ac28_ok : compFn Try.prog Try.f28 = some ac28 := by kernel_rfl
/-- (*winepress/arena.Arena).Byte -/
def ac29 : AFn := ⟨(.seq (.region [
 D 4 (.box true (T 1)),
 D 6 (.mv (C (.int .u8 0))),
 D 7 (.mv (C (.bool false)))])
 (.seq (.region [
 D 9 (.mv (T 0)),
 D 10 (.load (some 2) (T 4)),
 D 11 (.mv (T 2)),
 D 12 (.call 66 [(T 9), (T 10), (T 11), (C (.int .i64 1))]),
 D 8 (.mv (T 12))])
 (.seq (.seq (.region [
 D 13 (.mv (T 8)),
 D 14 (.eqs false .slice (T 13) (C (.slice none 0 0)))])
 (.cond (T 14)
 (.seq (.region [
 D 6 (.mv (C (.int .u8 0))),
 D 7 (.mv (C (.bool false)))])
 .ret)
 .skip))
 (.seq (.region [
 D 15 (.mv (T 8)),
 D 16 (.iaddr 1 (T 15) (C (.int .i64 0))),
 D 17 (.load none (T 16)),
 D 6 (.mv (T 17)),
 D 7 (.mv (C (.bool true)))])
 .ret)))), [.tmp 6, .tmp 7]⟩
theorem ac29_ok : compFn Try.prog Try.f29 = some ac29 := by kernel_rfl
/-- (*winepress/winepressref01.Arena).Byte -/
def ac30 : AFn := ⟨(.seq (.region [
 D 4 (.box true (T 1)),
 D 6 (.mv (C (.int .u8 0))),
 D 7 (.mv (C (.bool false)))])
 (.seq (.seq (.region [
 D 8 (.mv (T 0)),
 D 9 (.load (some 2) (T 4)),
 D 10 (.mv (T 2)),
 D 11 (.call 67 [(T 8), (T 9), (T 10), (C (.int .i64 1))]),
 D 12 (.un .not (T 11))])
 (.cond (T 12)
 (.seq (.region [
 D 6 (.mv (C (.int .u8 0))),
 D 7 (.mv (C (.bool false)))])
 .ret)
 .skip))
 (.seq (.drawn [
 ⟨(some 13), none, 0, false, .mv (T 0)⟩,
 ⟨(some 14), none, 1, false, .nilck (T 13)⟩,
 ⟨(some 15), none, 3, false, .faddr 0 (T 14)⟩,
 ⟨(some 16), none, 7, false, .load none (T 15)⟩,
 ⟨(some 17), none, 0, false, .faddr 0 (T 4)⟩,
 ⟨(some 18), none, 16, false, .load none (T 17)⟩,
 ⟨(some 19), none, 0, false, .mv (T 2)⟩,
 ⟨(some 20), none, 112, false, .bin .add (T 18) (T 19)⟩,
 ⟨(some 21), none, 255, false, .iaddr 1 (T 16) (T 20)⟩,
 ⟨(some 22), none, 511, true, .load none (T 21)⟩,
 ⟨(some 6), none, 1023, false, .mv (T 22)⟩,
 ⟨(some 7), none, 2047, false, .mv (C (.bool true))⟩])
 .ret))), [.tmp 6, .tmp 7]⟩
theorem ac30_ok : compFn Try.prog Try.f30 = some ac30 := by kernel_rfl
/-- (*winepress/winepressref01.Arena).Word -/
def ac31 : AFn := ⟨(.seq (.region [
 D 4 (.box true (T 1)),
 D 6 (.mv (C (.int .u32 0))),
 D 7 (.mv (C (.bool false)))])
 (.seq (.seq (.region [
 D 9 (.mv (T 0)),
 D 10 (.load (some 2) (T 4)),
 D 11 (.mv (T 2)),
 D 12 (.call 68 [(T 9), (T 10), (T 11)]),
 D 13 (.un .not (T 12))])
 (.cond (T 13)
 (.seq (.region [
 D 6 (.mv (C (.int .u32 0))),
 D 7 (.mv (C (.bool false)))])
 .ret)
 .skip))
 (.seq (.drawn [
 ⟨(some 14), none, 0, false, .mv (T 0)⟩,
 ⟨(some 15), none, 1, false, .nilck (T 14)⟩,
 ⟨(some 16), none, 3, false, .faddr 0 (T 15)⟩,
 ⟨(some 17), none, 7, false, .load none (T 16)⟩,
 ⟨(some 18), none, 0, false, .faddr 0 (T 4)⟩,
 ⟨(some 19), none, 16, false, .load none (T 18)⟩,
 ⟨(some 20), none, 0, false, .mv (T 2)⟩,
 ⟨(some 21), none, 64, false, .bin .mul (C (.int .i64 4)) (T 20)⟩,
 ⟨(some 22), none, 240, false, .bin .add (T 19) (T 21)⟩,
 ⟨(some 23), none, 511, false, .slice 1 (T 17) (some (T 22)) none none⟩,
 ⟨(some 8), none, 1023, false, .mv (T 23)⟩])
 (.seq (.drawn [
 ⟨(some 24), none, 0, false, .mv (T 8)⟩,
 ⟨(some 25), none, 1, false, .iaddr 1 (T 24) (C (.int .i64 0))⟩,
 ⟨(some 26), none, 3, false, .load none (T 25)⟩,
 ⟨(some 27), none, 7, false, .conv .u32 (T 26)⟩,
 ⟨(some 28), none, 0, false, .mv (T 8)⟩,
 ⟨(some 29), none, 16, false, .iaddr 1 (T 28) (C (.int .i64 1))⟩,
 ⟨(some 30), none, 48, false, .load none (T 29)⟩,
 ⟨(some 31), none, 112, false, .conv .u32 (T 30)⟩,
 ⟨(some 32), none, 240, false, .bin .mul (C (.int .u32 256)) (T 31)⟩,
 ⟨(some 33), none, 511, false, .bin .add (T 27) (T 32)⟩,
 ⟨(some 34), none, 0, false, .mv (T 8)⟩,
 ⟨(some 35), none, 1024, false, .iaddr 1 (T 34) (C (.int .i64 2))⟩,
 ⟨(some 36), none, 3072, false, .load none (T 35)⟩,
 ⟨(some 37), none, 7168, false, .conv .u32 (T 36)⟩,
 ⟨(some 38), none, 15360, false, .bin .mul (C (.int .u32 65536)) (T 37)⟩,
 ⟨(some 39), none, 32767, false, .bin .add (T 33) (T 38)⟩,
 ⟨(some 40), none, 0, false, .mv (T 8)⟩,
 ⟨(some 41), none, 65536, false, .iaddr 1 (T 40) (C (.int .i64 3))⟩,
 ⟨(some 42), none, 196608, false, .load none (T 41)⟩,
 ⟨(some 43), none, 458752, false, .conv .u32 (T 42)⟩,
 ⟨(some 44), none, 983040, false, .bin .mul (C (.int .u32 16777216)) (T 43)⟩,
 ⟨(some 45), none, 2097151, false, .bin .add (T 39) (T 44)⟩,
 ⟨(some 6), none, 4194303, false, .mv (T 45)⟩,
 ⟨(some 7), none, 8388607, false, .mv (C (.bool true))⟩])
 .ret)))), [.tmp 6, .tmp 7]⟩
theorem ac31_ok : compFn Try.prog Try.f31 = some ac31 := by kernel_rfl
/-- (*winepress/winepressref01.Arena).Load -/
def ac32 : AFn := ⟨(.seq (.region [
 D 3 (.box true (T 1)),
 D 4 (.mv (C (.slice none 0 0)))])
 (.seq (.seq (.region [
 D 5 (.mv (T 0)),
 D 6 (.load (some 2) (T 3)),
 D 7 (.call 34 [(T 5), (T 6)]),
 D 8 (.un .not (T 7))])
 (.cond (T 8)
 (.seq (.region [
 D 4 (.mv (C (.slice none 0 0)))])
 .ret)
 .skip))
 (.seq (.drawn [
 ⟨(some 9), none, 0, false, .bslice true 1 0 [] []⟩,
 ⟨(some 10), none, 0, false, .mv (T 0)⟩,
 ⟨(some 11), none, 2, false, .nilck (T 10)⟩,
 ⟨(some 12), none, 6, false, .faddr 0 (T 11)⟩,
 ⟨(some 13), none, 14, false, .load none (T 12)⟩,
 ⟨(some 14), none, 0, false, .faddr 0 (T 3)⟩,
 ⟨(some 15), none, 32, false, .load none (T 14)⟩,
 ⟨(some 16), none, 0, false, .faddr 0 (T 3)⟩,
 ⟨(some 17), none, 128, false, .load none (T 16)⟩,
 ⟨(some 18), none, 0, false, .faddr 1 (T 3)⟩,
 ⟨(some 19), none, 512, false, .load none (T 18)⟩,
 ⟨(some 20), none, 1920, false, .bin .add (T 17) (T 19)⟩,
 ⟨(some 21), none, 4094, false, .slice 1 (T 13) (some (T 15)) (some (T 20)) none⟩,
 ⟨(some 22), none, 8191, true, .append true 1 (T 9) (T 21)⟩,
 ⟨(some 4), none, 16383, false, .mv (T 22)⟩])
 .ret))), [.tmp 4]⟩
theorem ac32_ok : compFn Try.prog Try.f32 = some ac32 := by kernel_rfl
/-- (*winepress/arena.Arena).Has -/
def ac33 : AFn := ⟨(.seq (.region [
 D 3 (.box true (T 1)),
 D 4 (.mv (C (.bool false)))])
 (.seq (.drawn [
 ⟨(some 5), none, 0, false, .mv (T 0)⟩,
 ⟨(some 6), none, 1, false, .eqs true .ptr (T 5) (C (.pointer none))⟩,
 ⟨(some 7), none, 3, false, .mv (T 6)⟩,
 ⟨(some 8), (some (7, true)), 7, false, .faddr 0 (T 3)⟩,
 ⟨(some 9), (some (7, true)), 15, true, .load none (T 8)⟩,
 ⟨(some 10), (some (7, true)), 31, false, .bin .geq (T 9) (C (.int .i64 0))⟩,
 ⟨(some 11), none, 63, false, .pick (T 7) (T 10) (C (.bool false))⟩,
 ⟨(some 12), none, 127, false, .mv (T 11)⟩,
 ⟨(some 13), (some (12, true)), 255, false, .faddr 1 (T 3)⟩,
 ⟨(some 14), (some (12, true)), 511, true, .load none (T 13)⟩,
 ⟨(some 15), (some (12, true)), 1023, false, .bin .geq (T 14) (C (.int .i64 0))⟩,
 ⟨(some 16), none, 2047, false, .pick (T 12) (T 15) (C (.bool false))⟩,
 ⟨(some 17), none, 4095, false, .mv (T 16)⟩,
 ⟨(some 18), (some (17, true)), 8191, false, .faddr 0 (T 3)⟩,
 ⟨(some 19), (some (17, true)), 16383, false, .load none (T 18)⟩,
 ⟨(some 20), (some (17, true)), 8191, false, .mv (T 0)⟩,
 ⟨(some 21), (some (17, true)), 40959, false, .nilck (T 20)⟩,
 ⟨(some 22), (some (17, true)), 106495, false, .faddr 1 (T 21)⟩,
 ⟨(some 23), (some (17, true)), 237567, false, .load none (T 22)⟩,
 ⟨(some 24), (some (17, true)), 524287, false, .bin .leq (T 19) (T 23)⟩,
 ⟨(some 25), none, 1048575, false, .pick (T 17) (T 24) (C (.bool false))⟩,
 ⟨(some 26), none, 2097151, false, .mv (T 25)⟩,
 ⟨(some 27), (some (26, true)), 4194303, false, .faddr 1 (T 3)⟩,
 ⟨(some 28), (some (26, true)), 8388607, false, .load none (T 27)⟩,
 ⟨(some 29), (some (26, true)), 4194303, false, .mv (T 0)⟩,
 ⟨(some 30), (some (26, true)), 20971519, false, .nilck (T 29)⟩,
 ⟨(some 31), (some (26, true)), 54525951, false, .faddr 1 (T 30)⟩,
 ⟨(some 32), (some (26, true)), 121634815, false, .load none (T 31)⟩,
 ⟨(some 33), (some (26, true)), 4194303, false, .faddr 0 (T 3)⟩,
 ⟨(some 34), (some (26, true)), 272629759, false, .load none (T 33)⟩,
 ⟨(some 35), (some (26, true)), 1061158911, false, .bin .sub (T 32) (T 34)⟩,
 ⟨(some 36), (some (26, true)), 2147483647, false, .bin .leq (T 28) (T 35)⟩,
 ⟨(some 37), none, 4294967295, false, .pick (T 26) (T 36) (C (.bool false))⟩,
 ⟨(some 4), none, 8589934591, false, .mv (T 37)⟩])
 .ret)), [.tmp 4]⟩
theorem ac33_ok : compFn Try.prog Try.f33 = some ac33 := by kernel_rfl
/-- (*winepress/winepressref01.Arena).Has -/
def ac34 : AFn := ⟨(.seq (.region [
 D 3 (.box true (T 1)),
 D 4 (.mv (C (.bool false)))])
 (.seq (.drawn [
 ⟨(some 5), none, 0, false, .faddr 0 (T 3)⟩,
 ⟨(some 6), none, 1, true, .load none (T 5)⟩,
 ⟨(some 7), none, 3, false, .bin .geq (T 6) (C (.int .i64 0))⟩,
 ⟨(some 8), none, 7, false, .mv (T 7)⟩,
 ⟨(some 9), (some (8, true)), 15, false, .faddr 1 (T 3)⟩,
 ⟨(some 10), (some (8, true)), 31, true, .load none (T 9)⟩,
 ⟨(some 11), (some (8, true)), 63, false, .bin .geq (T 10) (C (.int .i64 0))⟩,
 ⟨(some 12), none, 127, false, .pick (T 8) (T 11) (C (.bool false))⟩,
 ⟨(some 13), none, 255, false, .mv (T 12)⟩,
 ⟨(some 14), (some (13, true)), 511, false, .faddr 0 (T 3)⟩,
 ⟨(some 15), (some (13, true)), 1023, false, .load none (T 14)⟩,
 ⟨(some 16), (some (13, true)), 511, false, .mv (T 0)⟩,
 ⟨(some 17), (some (13, true)), 2559, false, .nilck (T 16)⟩,
 ⟨(some 18), (some (13, true)), 6655, false, .faddr 1 (T 17)⟩,
 ⟨(some 19), (some (13, true)), 14847, false, .load none (T 18)⟩,
 ⟨(some 20), (some (13, true)), 32767, false, .bin .leq (T 15) (T 19)⟩,
 ⟨(some 21), none, 65535, false, .pick (T 13) (T 20) (C (.bool false))⟩,
 ⟨(some 22), none, 131071, false, .mv (T 21)⟩,
 ⟨(some 23), (some (22, true)), 262143, false, .faddr 1 (T 3)⟩,
 ⟨(some 24), (some (22, true)), 524287, false, .load none (T 23)⟩,
 ⟨(some 25), (some (22, true)), 262143, false, .mv (T 0)⟩,
 ⟨(some 26), (some (22, true)), 1310719, false, .nilck (T 25)⟩,
 ⟨(some 27), (some (22, true)), 3407871, false, .faddr 1 (T 26)⟩,
 ⟨(some 28), (some (22, true)), 7602175, false, .load none (T 27)⟩,
 ⟨(some 29), (some (22, true)), 262143, false, .faddr 0 (T 3)⟩,
 ⟨(some 30), (some (22, true)), 17039359, false, .load none (T 29)⟩,
 ⟨(some 31), (some (22, true)), 66322431, false, .bin .sub (T 28) (T 30)⟩,
 ⟨(some 32), (some (22, true)), 134217727, false, .bin .leq (T 24) (T 31)⟩,
 ⟨(some 33), none, 268435455, false, .pick (T 22) (T 32) (C (.bool false))⟩,
 ⟨(some 4), none, 536870911, false, .mv (T 33)⟩])
 .ret)), [.tmp 4]⟩
theorem ac34_ok : compFn Try.prog Try.f34 = some ac34 := by kernel_rfl
/-- (*winepress/arena.Arena).Left -/
def ac35 : AFn := ⟨(.seq (.region [
 D 2 (.mv (C (.int .i64 0)))])
 (.seq (.seq (.region [
 D 3 (.mv (T 0)),
 D 4 (.eqs false .ptr (T 3) (C (.pointer none)))])
 (.cond (T 4)
 (.seq (.region [
 D 2 (.mv (C (.int .i64 0)))])
 .ret)
 .skip))
 (.seq (.drawn [
 ⟨(some 5), none, 0, false, .mv (T 0)⟩,
 ⟨(some 6), none, 1, false, .nilck (T 5)⟩,
 ⟨(some 7), none, 3, false, .faddr 0 (T 6)⟩,
 ⟨(some 8), none, 7, false, .load none (T 7)⟩,
 ⟨(some 9), none, 15, false, .len (T 8)⟩,
 ⟨(some 10), none, 0, false, .mv (T 0)⟩,
 ⟨(some 11), none, 32, false, .nilck (T 10)⟩,
 ⟨(some 12), none, 96, false, .faddr 1 (T 11)⟩,
 ⟨(some 13), none, 224, false, .load none (T 12)⟩,
 ⟨(some 14), none, 511, false, .bin .sub (T 9) (T 13)⟩,
 ⟨(some 2), none, 1023, false, .mv (T 14)⟩])
 .ret))), [.tmp 2]⟩
theorem ac35_ok : compFn Try.prog Try.f35 = some ac35 := by kernel_rfl
/-- (*winepress/arena.Arena).SetByte -/
def ac36 : AFn := ⟨(.seq (.region [
 D 5 (.box true (T 1)),
 D 8 (.mv (C (.bool false)))])
 (.seq (.region [
 D 10 (.mv (T 0)),
 D 11 (.load (some 2) (T 5)),
 D 12 (.mv (T 2)),
 D 13 (.call 66 [(T 10), (T 11), (T 12), (C (.int .i64 1))]),
 D 9 (.mv (T 13))])
 (.seq (.seq (.region [
 D 14 (.mv (T 9)),
 D 15 (.eqs false .slice (T 14) (C (.slice none 0 0)))])
 (.cond (T 15)
 (.seq (.region [
 D 8 (.mv (C (.bool false)))])
 .ret)
 .skip))
 (.seq (.region [
 D 16 (.mv (T 9)),
 D 17 (.mv (T 3)),
 D 18 (.iaddr 1 (T 16) (C (.int .i64 0))),
 E (.store 1 (T 18) (T 17))])
 (.seq (.region [
 D 8 (.mv (C (.bool true)))])
 .ret))))), [.tmp 8]⟩
theorem ac36_ok : compFn Try.prog Try.f36 = some ac36 := by kernel_rfl
/-- winepress/winepresslaw20.wakes -/
def ac46 : AFn := ⟨(.seq (.region [
 D 0 (.mv (C (.bool false)))])
 (.seq (.region [
 D 21 (.bslice true 1 6 (List.replicate 6 (.int .u8 0)) [(0, 1, (C (.int .u8 97))), (1, 1, (C (.int .u8 110))), (2, 1, (C (.int .u8 110))), (3, 1, (C (.int .u8 98))), (4, 1, (C (.int .u8 97))), (5, 1, (C (.int .u8 97)))]),
 D 22 (.mark (T 21)),
 D 23 (.call 58 [(T 22), (C (.int .i64 4))]),
 D 20 (.mv (T 23)),
 D 24 (.ext (T 20) 0),
 D 25 (.ext (T 20) 1),
 D 26 (.ext (T 20) 2),
 D 2 (.alloc true [(.int .i64 0), (.int .i64 0)]),
 D 3 (.alloc true [(.int .i64 0), (.int .i64 0)]),
 D 1 (.mv (T 24)),
 E (.store 2 (T 2) (T 25)),
 E (.store 2 (T 3) (T 26))])
 (.seq (.seq (.region [
 D 27 (.mv (T 1)),
 D 28 (.eqs false .ptr (T 27) (C (.pointer none)))])
 (.cond (T 28)
 (.seq (.region [
 D 0 (.mv (C (.bool false)))])
 .ret)
 .skip))
 (.seq (.region [
 D 29 (.mv (T 1)),
 D 30 (.load (some 2) (T 2)),
 D 31 (.load (some 2) (T 3)),
 D 32 (.call 56 [(T 29), (T 30), (T 31), (C (.int .i64 4))]),
 D 4 (.mv (T 32))])
 (.seq (.region [
 D 34 (.mv (T 1)),
 D 35 (.load (some 2) (T 2)),
 D 36 (.load (some 2) (T 3)),
 D 37 (.call 48 [(T 34), (T 35), (T 36), (C (.int .i64 4)), (C (.int .u8 97)), (C (.int .i64 5))]),
 D 33 (.mv (T 37)),
 D 38 (.ext (T 33) 0),
 D 39 (.ext (T 33) 1),
 D 40 (.ext (T 33) 2),
 D 5 (.mv (T 38)),
 D 6 (.mv (T 39)),
 D 7 (.mv (T 40))])
 (.seq (.region [
 D 42 (.mv (T 1)),
 D 43 (.load (some 2) (T 2)),
 D 44 (.load (some 2) (T 3)),
 D 45 (.call 48 [(T 42), (T 43), (T 44), (C (.int .i64 4)), (C (.int .u8 97)), (C (.int .i64 4))]),
 D 41 (.mv (T 45)),
 D 46 (.ext (T 41) 0),
 D 47 (.ext (T 41) 1),
 D 48 (.ext (T 41) 2),
 D 8 (.mv (T 46)),
 D 9 (.mv (T 47)),
 D 10 (.mv (T 48))])
 (.seq (.region [
 D 50 (.mv (T 1)),
 D 51 (.load (some 2) (T 2)),
 D 52 (.load (some 2) (T 3)),
 D 53 (.call 48 [(T 50), (T 51), (T 52), (C (.int .i64 4)), (C (.int .u8 97)), (C (.int .i64 3))]),
 D 49 (.mv (T 53)),
 D 54 (.ext (T 49) 0),
 D 55 (.ext (T 49) 1),
 D 56 (.ext (T 49) 2),
 D 11 (.mv (T 54)),
 D 12 (.mv (T 55)),
 D 13 (.mv (T 56))])
 (.seq (.region [
 D 58 (.mv (T 1)),
 D 59 (.load (some 2) (T 2)),
 D 60 (.load (some 2) (T 3)),
 D 61 (.call 48 [(T 58), (T 59), (T 60), (C (.int .i64 4)), (C (.int .u8 97)), (C (.int .i64 7))]),
 D 57 (.mv (T 61)),
 D 62 (.ext (T 57) 0),
 D 63 (.ext (T 57) 1),
 D 64 (.ext (T 57) 2),
 D 14 (.mv (T 62)),
 D 15 (.mv (T 63)),
 D 16 (.mv (T 64))])
 (.seq (.region [
 D 65 (.mv (T 1)),
 D 66 (.load (some 2) (T 2)),
 D 67 (.call 54 [(T 65), (T 66)]),
 D 17 (.alloc true (List.replicate 256 (.int .i64 0))),
 E (.store 256 (T 17) (T 67))])
 (.seq (.region [
 D 69 (.mv (T 1)),
 D 70 (.load (some 2) (T 3)),
 D 71 (.call 20 [(T 69), (T 70), (C (.int .i64 110))]),
 D 68 (.mv (T 71)),
 D 72 (.ext (T 68) 0),
 D 73 (.ext (T 68) 1),
 D 18 (.mv (T 72)),
 D 19 (.mv (T 73))])
 (.seq (.region [
 D 74 (.mv (T 4)),
 D 75 (.bin .eql (T 74) (C (.int .i64 0))),
 D 76 (.mv (T 75)),
 ⟨(some 77), (some (76, true)), 0, true, .mv (T 18)⟩,
 ⟨(some 78), (some (76, true)), 0, true, .bin .eql (T 77) (C (.int .u32 2))⟩,
 D 79 (.pick (T 76) (T 78) (C (.bool false))),
 D 80 (.mv (T 79)),
 ⟨(some 81), (some (80, true)), 0, true, .mv (T 7)⟩,
 D 82 (.pick (T 80) (T 81) (C (.bool false))),
 D 83 (.mv (T 82)),
 ⟨(some 84), (some (83, true)), 0, true, .mv (T 5)⟩,
 ⟨(some 85), (some (83, true)), 0, true, .bin .eql (T 84) (C (.int .i64 2))⟩,
 D 86 (.pick (T 83) (T 85) (C (.bool false))),
 D 87 (.mv (T 86)),
 ⟨(some 88), (some (87, true)), 0, true, .mv (T 6)⟩,
 ⟨(some 89), (some (87, true)), 0, true, .bin .eql (T 88) (C (.int .i64 1))⟩,
 D 90 (.pick (T 87) (T 89) (C (.bool false))),
 D 91 (.mv (T 90)),
 ⟨(some 92), (some (91, true)), 0, true, .mv (T 10)⟩,
 D 93 (.pick (T 91) (T 92) (C (.bool false))),
 D 94 (.mv (T 93)),
 ⟨(some 95), (some (94, true)), 0, true, .mv (T 8)⟩,
 ⟨(some 96), (some (94, true)), 0, true, .bin .eql (T 95) (C (.int .i64 1))⟩,
 D 97 (.pick (T 94) (T 96) (C (.bool false))),
 D 98 (.mv (T 97)),
 ⟨(some 99), (some (98, true)), 0, true, .mv (T 9)⟩,
 ⟨(some 100), (some (98, true)), 0, true, .bin .eql (T 99) (C (.int .i64 0))⟩,
 D 101 (.pick (T 98) (T 100) (C (.bool false))),
 D 102 (.mv (T 101)),
 ⟨(some 103), (some (102, true)), 0, true, .mv (T 13)⟩,
 D 104 (.pick (T 102) (T 103) (C (.bool false))),
 D 105 (.mv (T 104)),
 ⟨(some 106), (some (105, true)), 0, true, .mv (T 11)⟩,
 ⟨(some 107), (some (105, true)), 0, true, .bin .eql (T 106) (C (.int .i64 1))⟩,
 D 108 (.pick (T 105) (T 107) (C (.bool false))),
 D 109 (.mv (T 108)),
 ⟨(some 110), (some (109, true)), 0, true, .mv (T 12)⟩,
 ⟨(some 111), (some (109, true)), 0, true, .bin .eql (T 110) (C (.int .i64 3))⟩,
 D 112 (.pick (T 109) (T 111) (C (.bool false))),
 D 113 (.mv (T 112)),
 ⟨(some 114), (some (113, true)), 0, true, .mv (T 16)⟩,
 ⟨(some 115), (some (113, true)), 0, true, .un .not (T 114)⟩,
 D 116 (.pick (T 113) (T 115) (C (.bool false))),
 D 117 (.mv (T 116)),
 ⟨(some 118), (some (117, true)), 0, true, .iaddra 1 256 (T 17) (C (.int .i64 97))⟩,
 ⟨(some 119), (some (117, true)), 0, true, .load none (T 118)⟩,
 ⟨(some 120), (some (117, true)), 0, true, .bin .eql (T 119) (C (.int .i64 0))⟩,
 D 121 (.pick (T 117) (T 120) (C (.bool false))),
 D 122 (.mv (T 121)),
 ⟨(some 123), (some (122, true)), 0, true, .iaddra 1 256 (T 17) (C (.int .i64 98))⟩,
 ⟨(some 124), (some (122, true)), 0, true, .load none (T 123)⟩,
 ⟨(some 125), (some (122, true)), 0, true, .bin .eql (T 124) (C (.int .i64 3))⟩,
 D 126 (.pick (T 122) (T 125) (C (.bool false))),
 D 127 (.mv (T 126)),
 ⟨(some 128), (some (127, true)), 0, true, .iaddra 1 256 (T 17) (C (.int .i64 110))⟩,
 ⟨(some 129), (some (127, true)), 0, true, .load none (T 128)⟩,
 ⟨(some 130), (some (127, true)), 0, true, .bin .eql (T 129) (C (.int .i64 4))⟩,
 D 131 (.pick (T 127) (T 130) (C (.bool false))),
 D 132 (.mv (T 131)),
 ⟨(some 133), (some (132, true)), 0, true, .iaddra 1 256 (T 17) (C (.int .i64 255))⟩,
 ⟨(some 134), (some (132, true)), 0, true, .load none (T 133)⟩,
 ⟨(some 135), (some (132, true)), 0, true, .bin .eql (T 134) (C (.int .i64 6))⟩,
 D 136 (.pick (T 132) (T 135) (C (.bool false))),
 D 137 (.mv (T 136)),
 ⟨(some 138), (some (137, true)), 0, true, .call 50 [(C (.int .i64 65536)), (C (.int .i64 8192))]⟩,
 ⟨(some 139), (some (137, true)), 0, true, .bin .eql (T 138) (C (.int .i64 8192))⟩,
 D 140 (.pick (T 137) (T 139) (C (.bool false))),
 D 141 (.mv (T 140)),
 ⟨(some 142), (some (141, true)), 0, true, .call 50 [(C (.int .i64 6)), (C (.int .i64 4))]⟩,
 ⟨(some 143), (some (141, true)), 0, true, .bin .eql (T 142) (C (.int .i64 1024))⟩,
 D 144 (.pick (T 141) (T 143) (C (.bool false))),
 D 145 (.mv (T 144)),
 ⟨(some 146), (some (145, true)), 0, true, .call 50 [(C (.int .i64 3)), (C (.int .i64 4))]⟩,
 ⟨(some 147), (some (145, true)), 0, true, .bin .eql (T 146) (C (.int .i64 0))⟩,
 D 148 (.pick (T 145) (T 147) (C (.bool false))),
 D 149 (.mv (T 148)),
 ⟨(some 150), (some (149, true)), 0, true, .call 50 [(C (.int .i64 (-1))), (C (.int .i64 4))]⟩,
 ⟨(some 151), (some (149, true)), 0, true, .bin .eql (T 150) (C (.int .i64 0))⟩,
 D 152 (.pick (T 149) (T 151) (C (.bool false))),
 D 153 (.mv (T 152)),
 ⟨(some 154), (some (153, true)), 0, true, .mv (T 1)⟩,
 ⟨(some 155), (some (153, true)), 0, true, .load (some 2) (T 2)⟩,
 ⟨(some 156), (some (153, true)), 0, true, .load (some 2) (T 3)⟩,
 ⟨(some 157), (some (153, true)), 0, true, .call 52 [(T 154), (T 155), (T 156), (C (.int .i64 4))]⟩,
 D 158 (.pick (T 153) (T 157) (C (.bool false))),
 D 159 (.mv (T 158)),
 ⟨(some 160), (some (159, true)), 0, true, .mv (T 1)⟩,
 ⟨(some 161), (some (159, true)), 0, true, .load (some 2) (T 2)⟩,
 ⟨(some 162), (some (159, true)), 0, true, .load (some 2) (T 2)⟩,
 ⟨(some 163), (some (159, true)), 0, true, .call 52 [(T 160), (T 161), (T 162), (C (.int .i64 4))]⟩,
 ⟨(some 164), (some (159, true)), 0, true, .un .not (T 163)⟩,
 D 165 (.pick (T 159) (T 164) (C (.bool false))),
 D 166 (.mv (T 165)),
 ⟨(some 167), (some (166, true)), 0, true, .load (some 2) (T 2)⟩,
 ⟨(some 168), (some (166, true)), 0, true, .load (some 2) (T 3)⟩,
 ⟨(some 169), (some (166, true)), 0, true, .call 52 [(C (.pointer none)), (T 167), (T 168), (C (.int .i64 4))]⟩,
 ⟨(some 170), (some (166, true)), 0, true, .un .not (T 169)⟩,
 D 171 (.pick (T 166) (T 170) (C (.bool false))),
 D 172 (.mv (T 171)),
 ⟨(some 173), (some (172, true)), 0, true, .load (some 2) (T 2)⟩,
 ⟨(some 174), (some (172, true)), 0, true, .load (some 2) (T 3)⟩,
 ⟨(some 175), (some (172, true)), 0, true, .call 56 [(C (.pointer none)), (T 173), (T 174), (C (.int .i64 4))]⟩,
 ⟨(some 176), (some (172, true)), 0, true, .bin .eql (T 175) (C (.int .i64 2))⟩,
 D 177 (.pick (T 172) (T 176) (C (.bool false))),
 D 0 (.mv (T 177))])
 .ret))))))))))), [.tmp 0]⟩
theorem ac46_ok : compFn Try.prog Try.f46 = some ac46 := by kernel_rfl
/-- winepress/winepresslaw20.both -/
def ac47 : AFn := ⟨(.seq (.region [
 D 2 (.mv (C (.pointer none))),
 D 3 (.mv (C (.pointer none)))])
 (.seq (.region [
 D 10 (.mv (T 0)),
 D 11 (.len (T 10)),
 D 12 (.call 16 [(T 11)]),
 D 9 (.mv (T 12)),
 D 13 (.ext (T 9) 0),
 D 14 (.ext (T 9) 1),
 D 4 (.mv (T 13)),
 D 5 (.mv (T 14))])
 (.seq (.seq (.region [
 D 15 (.mv (T 5)),
 D 16 (.bin .neq (T 15) (C (.int .i64 0))),
 D 17 (.mv (T 16)),
 ⟨(some 18), (some (17, false)), 0, true, .mv (T 4)⟩,
 ⟨(some 19), (some (17, false)), 0, true, .eqs false .ptr (T 18) (C (.pointer none))⟩,
 D 20 (.pick (T 17) (C (.bool true)) (T 19))])
 (.cond (T 20)
 (.seq (.region [
 D 2 (.mv (C (.pointer none))),
 D 3 (.mv (C (.pointer none)))])
 .ret)
 .skip))
 (.seq (.region [
 D 22 (.mv (T 4)),
 D 23 (.mv (T 0)),
 D 24 (.len (T 23)),
 D 25 (.call 17 [(T 22), (T 24)]),
 D 21 (.mv (T 25)),
 D 26 (.ext (T 21) 0),
 D 27 (.ext (T 21) 1),
 D 6 (.alloc true [(.int .i64 0), (.int .i64 0)]),
 E (.store 2 (T 6) (T 26)),
 D 7 (.mv (T 27))])
 (.seq (.region [
 D 28 (.mv (T 4)),
 D 29 (.load (some 2) (T 6)),
 D 30 (.mv (T 0)),
 D 31 (.call 18 [(T 28), (T 29), (C (.int .i64 0)), (T 30)])])
 (.seq (.region [
 D 32 (.mv (T 0)),
 D 33 (.len (T 32)),
 D 34 (.call 27 [(T 33)]),
 D 8 (.mv (T 34))])
 (.seq (.region [
 D 35 (.mv (T 8)),
 D 36 (.mv (T 0)),
 D 37 (.len (T 36)),
 D 38 (.nilck (T 35)),
 D 39 (.faddr 1 (T 38)),
 E (.store 1 (T 39) (T 37))])
 (.seq (.region [
 D 40 (.mv (T 8)),
 D 41 (.nilck (T 40)),
 D 42 (.faddr 0 (T 41)),
 D 43 (.load none (T 42)),
 D 44 (.mv (T 0)),
 D 45 (.copy 1 (T 43) (T 44))])
 (.seq (.region [
 D 46 (.mv (T 4)),
 D 47 (.mv (T 8)),
 D 2 (.mv (T 46)),
 D 3 (.mv (T 47))])
 .ret))))))))), [.tmp 2, .tmp 3]⟩
theorem ac47_ok : compFn Try.prog Try.f47 = some ac47 := by kernel_rfl
/-- a loop of winepress/rank.Rank; it keeps [12, 13, 18, 5, 0, 7, 4] -/
def lb48_0 : ACode := (.seq (.seq (.region [
 D 56 (.mv (T 18)),
 D 57 (.mv (T 5)),
 D 58 (.bin .lss (T 56) (T 57))])
 (.cond (T 58)
 .skip
 (.exit 0)))
 (.seq (.block 1 (.seq (.seq (.region [
 D 62 (.mv (T 0)),
 D 63 (.load (some 2) (T 7)),
 D 64 (.mv (T 18)),
 D 65 (.call 29 [(T 62), (T 63), (T 64)]),
 D 61 (.mv (T 65)),
 D 66 (.ext (T 61) 0),
 D 67 (.ext (T 61) 1),
 D 19 (.mv (T 66)),
 D 20 (.mv (T 67))])
 (.seq (.region [
 D 68 (.mv (T 19)),
 D 69 (.mv (T 4)),
 D 70 (.bin .eql (T 68) (T 69))])
 (.cond (T 70)
 (.region [
 D 71 (.mv (T 12)),
 D 72 (.bin .add (T 71) (C (.int .i64 1))),
 D 12 (.mv (T 72))])
 .skip)))
 (.region [
 D 73 (.mv (T 13)),
 D 74 (.bin .add (T 73) (C (.int .i64 1))),
 D 13 (.mv (T 74))])))
 (.region [
 D 59 (.mv (T 18)),
 D 60 (.bin .add (T 59) (C (.int .i64 1))),
 D 18 (.mv (T 60))])))
/-- winepress/rank.Rank -/
def ac48 : AFn := ⟨(.seq (.region [
 D 7 (.box true (T 1)),
 D 8 (.box true (T 2)),
 D 12 (.mv (C (.int .i64 0))),
 D 13 (.mv (C (.int .i64 0))),
 D 14 (.mv (C (.bool false)))])
 (.seq (.seq (.region [
 D 21 (.mv (T 0)),
 D 22 (.load (some 2) (T 7)),
 D 23 (.load (some 2) (T 8)),
 D 24 (.mv (T 3)),
 D 25 (.call 52 [(T 21), (T 22), (T 23), (T 24)]),
 D 26 (.un .not (T 25)),
 D 27 (.mv (T 26)),
 ⟨(some 28), (some (27, false)), 0, true, .mv (T 5)⟩,
 ⟨(some 29), (some (27, false)), 0, true, .faddr 1 (T 7)⟩,
 ⟨(some 30), (some (27, false)), 0, true, .load none (T 29)⟩,
 ⟨(some 31), (some (27, false)), 0, true, .call 72 [(T 28), (C (.int .i64 0)), (T 30)]⟩,
 ⟨(some 32), (some (27, false)), 0, true, .un .not (T 31)⟩,
 D 33 (.pick (T 27) (C (.bool true)) (T 32))])
 (.cond (T 33)
 (.seq (.region [
 D 12 (.mv (C (.int .i64 0))),
 D 13 (.mv (C (.int .i64 0))),
 D 14 (.mv (C (.bool false)))])
 .ret)
 .skip))
 (.seq (.region [
 D 34 (.mv (T 5)),
 D 35 (.mv (T 3)),
 D 36 (.bin .quo (T 34) (T 35)),
 D 15 (.mv (T 36))])
 (.seq (.seq (.region [
 D 37 (.mv (T 15)),
 D 38 (.bin .gtr (T 37) (C (.int .i64 0)))])
 (.cond (T 38)
 (.seq (.region [
 D 40 (.mv (T 0)),
 D 41 (.load (some 2) (T 8)),
 D 42 (.mv (T 15)),
 D 43 (.bin .sub (T 42) (C (.int .i64 1))),
 D 44 (.bin .mul (T 43) (C (.int .i64 256))),
 D 45 (.mv (T 4)),
 D 46 (.conv .i64 (T 45)),
 D 47 (.bin .add (T 44) (T 46)),
 D 48 (.call 20 [(T 40), (T 41), (T 47)]),
 D 39 (.mv (T 48)),
 D 49 (.ext (T 39) 0),
 D 50 (.ext (T 39) 1),
 D 16 (.mv (T 49)),
 D 17 (.mv (T 50))])
 (.region [
 D 51 (.mv (T 16)),
 D 52 (.conv .i64 (T 51)),
 D 12 (.mv (T 52))]))
 .skip))
 (.seq (.seq (.region [
 D 53 (.mv (T 15)),
 D 54 (.mv (T 3)),
 D 55 (.bin .mul (T 53) (T 54)),
 D 18 (.mv (T 55))])
 (.block 0 (.loop [12, 13, 18, 5, 0, 7, 4] lb48_0)))
 (.seq (.region [
 D 75 (.mv (T 12)),
 D 76 (.mv (T 13)),
 D 12 (.mv (T 75)),
 D 13 (.mv (T 76)),
 D 14 (.mv (C (.bool true)))])
 .ret)))))), [.tmp 12, .tmp 13, .tmp 14]⟩
theorem ac48_ok : compFn Try.prog Try.f48 = some ac48 := by kernel_rfl
/-- a loop of winepress/winepressref20.Rank; it keeps [15, 19, 5, 18, 0, 7, 4] -/
def lb49_0 : ACode := (.seq (.seq (.region [
 D 74 (.mv (T 19)),
 D 75 (.mv (T 5)),
 D 76 (.bin .lss (T 74) (T 75))])
 (.cond (T 76)
 .skip
 (.exit 2)))
 (.seq (.block 3 (.seq (.drawn [
 ⟨(some 79), none, 0, false, .mv (T 0)⟩,
 ⟨(some 80), none, 1, false, .nilck (T 79)⟩,
 ⟨(some 81), none, 3, false, .faddr 0 (T 80)⟩,
 ⟨(some 82), none, 7, false, .load none (T 81)⟩,
 ⟨(some 83), none, 0, false, .faddr 0 (T 7)⟩,
 ⟨(some 84), none, 16, false, .load none (T 83)⟩,
 ⟨(some 85), none, 0, false, .mv (T 19)⟩,
 ⟨(some 86), none, 112, false, .bin .add (T 84) (T 85)⟩,
 ⟨(some 87), none, 255, false, .iaddr 1 (T 82) (T 86)⟩,
 ⟨(some 88), none, 511, true, .load none (T 87)⟩,
 ⟨(some 89), none, 0, false, .mv (T 4)⟩,
 ⟨(some 90), none, 2047, false, .bin .eql (T 88) (T 89)⟩])
 (.cond (T 90)
 (.region [
 D 91 (.mv (T 15)),
 D 92 (.bin .add (T 91) (C (.int .i64 1))),
 D 15 (.mv (T 92))])
 .skip)))
 (.region [
 D 77 (.mv (T 19)),
 D 78 (.bin .add (T 77) (C (.int .i64 1))),
 D 19 (.mv (T 78))])))
/-- a loop of winepress/winepressref20.Rank; it keeps [15, 17, 4, 7, 5, 3, 0, 16] -/
def lb49_1 : ACode := (.seq (.seq (.region [
 D 51 (.mv (T 17)),
 D 52 (.bin .geq (T 51) (C (.int .i64 0)))])
 (.cond (T 52)
 .skip
 (.exit 0)))
 (.seq (.block 1 (.region [
 D 55 (.mv (T 15)),
 D 56 (.bin .mul (C (.int .i64 256)) (T 55)),
 D 57 (.mv (T 0)),
 D 58 (.nilck (T 57)),
 D 59 (.faddr 0 (T 58)),
 D 60 (.load none (T 59)),
 D 61 (.mv (T 16)),
 D 62 (.mv (T 17)),
 D 63 (.bin .add (T 61) (T 62)),
 D 64 (.iaddr 1 (T 60) (T 63)),
 D 65 (.load none (T 64)),
 D 66 (.conv .i64 (T 65)),
 D 67 (.bin .add (T 56) (T 66)),
 D 15 (.mv (T 67))]))
 (.region [
 D 53 (.mv (T 17)),
 D 54 (.bin .sub (T 53) (C (.int .i64 1))),
 D 17 (.mv (T 54))])))
/-- winepress/winepressref20.Rank -/
def ac49 : AFn := ⟨(.seq (.region [
 D 7 (.box true (T 1)),
 D 8 (.box true (T 2)),
 D 12 (.mv (C (.int .i64 0))),
 D 13 (.mv (C (.int .i64 0))),
 D 14 (.mv (C (.bool false)))])
 (.seq (.seq (.region [
 D 20 (.mv (T 0)),
 D 21 (.load (some 2) (T 7)),
 D 22 (.load (some 2) (T 8)),
 D 23 (.mv (T 3)),
 D 24 (.call 53 [(T 20), (T 21), (T 22), (T 23)]),
 D 25 (.un .not (T 24)),
 D 26 (.mv (T 25)),
 ⟨(some 27), (some (26, false)), 0, true, .mv (T 5)⟩,
 ⟨(some 28), (some (26, false)), 0, true, .bin .lss (T 27) (C (.int .i64 0))⟩,
 D 29 (.pick (T 26) (C (.bool true)) (T 28)),
 D 30 (.mv (T 29)),
 ⟨(some 31), (some (30, false)), 0, true, .mv (T 5)⟩,
 ⟨(some 32), (some (30, false)), 0, true, .faddr 1 (T 7)⟩,
 ⟨(some 33), (some (30, false)), 0, true, .load none (T 32)⟩,
 ⟨(some 34), (some (30, false)), 0, true, .bin .gtr (T 31) (T 33)⟩,
 D 35 (.pick (T 30) (C (.bool true)) (T 34))])
 (.cond (T 35)
 (.seq (.region [
 D 12 (.mv (C (.int .i64 0))),
 D 13 (.mv (C (.int .i64 0))),
 D 14 (.mv (C (.bool false)))])
 .ret)
 .skip))
 (.seq (.region [
 D 15 (.mv (C (.int .i64 0)))])
 (.seq (.seq (.region [
 D 36 (.mv (T 5)),
 D 37 (.mv (T 3)),
 D 38 (.bin .geq (T 36) (T 37))])
 (.cond (T 38)
 (.seq (.drawn [
 ⟨(some 39), none, 0, false, .faddr 0 (T 8)⟩,
 ⟨(some 40), none, 1, true, .load none (T 39)⟩,
 ⟨(some 41), none, 0, false, .mv (T 5)⟩,
 ⟨(some 42), none, 0, false, .mv (T 3)⟩,
 ⟨(some 43), none, 12, false, .bin .quo (T 41) (T 42)⟩,
 ⟨(some 44), none, 28, false, .bin .sub (T 43) (C (.int .i64 1))⟩,
 ⟨(some 45), none, 60, false, .bin .mul (C (.int .i64 1024)) (T 44)⟩,
 ⟨(some 46), none, 127, false, .bin .add (T 40) (T 45)⟩,
 ⟨(some 47), none, 0, false, .mv (T 4)⟩,
 ⟨(some 48), none, 256, false, .conv .i64 (T 47)⟩,
 ⟨(some 49), none, 768, false, .bin .mul (C (.int .i64 4)) (T 48)⟩,
 ⟨(some 50), none, 2047, false, .bin .add (T 46) (T 49)⟩,
 ⟨(some 16), none, 4095, false, .mv (T 50)⟩])
 (.seq (.region [
 D 17 (.mv (C (.int .i64 3)))])
 (.block 0 (.loop [15, 17, 4, 7, 5, 3, 0, 16] lb49_1))))
 .skip))
 (.seq (.region [
 D 68 (.mv (T 5)),
 D 69 (.mv (T 3)),
 D 70 (.bin .rem (T 68) (T 69)),
 D 18 (.mv (T 70))])
 (.seq (.seq (.region [
 D 71 (.mv (T 5)),
 D 72 (.mv (T 18)),
 D 73 (.bin .sub (T 71) (T 72)),
 D 19 (.mv (T 73))])
 (.block 2 (.loop [15, 19, 5, 18, 0, 7, 4] lb49_0)))
 (.seq (.region [
 D 93 (.mv (T 15)),
 D 94 (.mv (T 18)),
 D 12 (.mv (T 93)),
 D 13 (.mv (T 94)),
 D 14 (.mv (C (.bool true)))])
 .ret))))))), [.tmp 12, .tmp 13, .tmp 14]⟩
theorem ac49_ok : compFn Try.prog Try.f49 = some ac49 := by kernel_rfl
/-- winepress/rank.Size -/
def ac50 : AFn := ⟨(.seq (.region [
 D 4 (.mv (C (.int .i64 0)))])
 (.seq (.seq (.region [
 D 5 (.mv (T 0)),
 D 6 (.call 72 [(T 5), (C (.int .i64 0)), (C (.int .i64 65536))]),
 D 7 (.un .not (T 6)),
 D 8 (.mv (T 7)),
 ⟨(some 9), (some (8, false)), 0, true, .mv (T 1)⟩,
 ⟨(some 10), (some (8, false)), 0, true, .call 72 [(T 9), (C (.int .i64 1)), (C (.int .i64 65536))]⟩,
 ⟨(some 11), (some (8, false)), 0, true, .un .not (T 10)⟩,
 D 12 (.pick (T 8) (C (.bool true)) (T 11))])
 (.cond (T 12)
 (.seq (.region [
 D 4 (.mv (C (.int .i64 0)))])
 .ret)
 .skip))
 (.seq (.region [
 D 13 (.mv (T 0)),
 D 14 (.mv (T 1)),
 D 15 (.bin .quo (T 13) (T 14)),
 D 16 (.bin .mul (T 15) (C (.int .i64 1024))),
 D 4 (.mv (T 16))])
 .ret))), [.tmp 4]⟩
theorem ac50_ok : compFn Try.prog Try.f50 = some ac50 := by kernel_rfl
/-- winepress/winepressref20.Size -/
def ac51 : AFn := ⟨(.seq (.region [
 D 4 (.mv (C (.int .i64 0)))])
 (.seq (.seq (.region [
 D 5 (.mv (T 0)),
 D 6 (.bin .lss (T 5) (C (.int .i64 0))),
 D 7 (.mv (T 6)),
 ⟨(some 8), (some (7, false)), 0, true, .mv (T 0)⟩,
 ⟨(some 9), (some (7, false)), 0, true, .bin .gtr (T 8) (C (.int .i64 65536))⟩,
 D 10 (.pick (T 7) (C (.bool true)) (T 9)),
 D 11 (.mv (T 10)),
 ⟨(some 12), (some (11, false)), 0, true, .mv (T 1)⟩,
 ⟨(some 13), (some (11, false)), 0, true, .bin .lss (T 12) (C (.int .i64 1))⟩,
 D 14 (.pick (T 11) (C (.bool true)) (T 13)),
 D 15 (.mv (T 14)),
 ⟨(some 16), (some (15, false)), 0, true, .mv (T 1)⟩,
 ⟨(some 17), (some (15, false)), 0, true, .bin .gtr (T 16) (C (.int .i64 65536))⟩,
 D 18 (.pick (T 15) (C (.bool true)) (T 17))])
 (.cond (T 18)
 (.seq (.region [
 D 4 (.mv (C (.int .i64 0)))])
 .ret)
 .skip))
 (.seq (.region [
 D 19 (.mv (T 0)),
 D 20 (.mv (T 1)),
 D 21 (.bin .quo (T 19) (T 20)),
 D 22 (.bin .mul (C (.int .i64 1024)) (T 21)),
 D 4 (.mv (T 22))])
 .ret))), [.tmp 4]⟩
theorem ac51_ok : compFn Try.prog Try.f51 = some ac51 := by kernel_rfl
/-- winepress/rank.Valid -/
def ac52 : AFn := ⟨(.seq (.region [
 D 5 (.box true (T 1)),
 D 6 (.box true (T 2)),
 D 8 (.mv (C (.bool false)))])
 (.seq (.seq (.region [
 D 9 (.mv (T 0)),
 D 10 (.load (some 2) (T 5)),
 D 11 (.call 33 [(T 9), (T 10)]),
 D 12 (.un .not (T 11)),
 D 13 (.mv (T 12)),
 ⟨(some 14), (some (13, false)), 0, true, .mv (T 0)⟩,
 ⟨(some 15), (some (13, false)), 0, true, .load (some 2) (T 6)⟩,
 ⟨(some 16), (some (13, false)), 0, true, .call 33 [(T 14), (T 15)]⟩,
 ⟨(some 17), (some (13, false)), 0, true, .un .not (T 16)⟩,
 D 18 (.pick (T 13) (C (.bool true)) (T 17)),
 D 19 (.mv (T 18)),
 ⟨(some 20), (some (19, false)), 0, true, .faddr 1 (T 5)⟩,
 ⟨(some 21), (some (19, false)), 0, true, .load none (T 20)⟩,
 ⟨(some 22), (some (19, false)), 0, true, .call 72 [(T 21), (C (.int .i64 1)), (C (.int .i64 65536))]⟩,
 ⟨(some 23), (some (19, false)), 0, true, .un .not (T 22)⟩,
 D 24 (.pick (T 19) (C (.bool true)) (T 23)),
 D 25 (.mv (T 24)),
 ⟨(some 26), (some (25, false)), 0, true, .mv (T 3)⟩,
 ⟨(some 27), (some (25, false)), 0, true, .call 72 [(T 26), (C (.int .i64 1)), (C (.int .i64 65536))]⟩,
 ⟨(some 28), (some (25, false)), 0, true, .un .not (T 27)⟩,
 D 29 (.pick (T 25) (C (.bool true)) (T 28))])
 (.cond (T 29)
 (.seq (.region [
 D 8 (.mv (C (.bool false)))])
 .ret)
 .skip))
 (.seq (.drawn [
 ⟨(some 30), none, 0, false, .load (some 2) (T 5)⟩,
 ⟨(some 31), none, 0, false, .load (some 2) (T 6)⟩,
 ⟨(some 32), none, 3, true, .call 73 [(T 30), (T 31)]⟩,
 ⟨(some 33), none, 7, false, .mv (T 32)⟩,
 ⟨(some 34), (some (33, true)), 15, false, .faddr 1 (T 6)⟩,
 ⟨(some 35), (some (33, true)), 31, false, .load none (T 34)⟩,
 ⟨(some 36), (some (33, true)), 15, false, .faddr 1 (T 5)⟩,
 ⟨(some 37), (some (33, true)), 79, false, .load none (T 36)⟩,
 ⟨(some 38), (some (33, true)), 15, false, .mv (T 3)⟩,
 ⟨(some 39), (some (33, true)), 463, false, .call 50 [(T 37), (T 38)]⟩,
 ⟨(some 40), (some (33, true)), 1023, false, .bin .geq (T 35) (T 39)⟩,
 ⟨(some 41), none, 2047, false, .pick (T 33) (T 40) (C (.bool false))⟩,
 ⟨(some 8), none, 4095, false, .mv (T 41)⟩])
 .ret))), [.tmp 8]⟩
theorem ac52_ok : compFn Try.prog Try.f52 = some ac52 := by kernel_rfl
/-- a loop of winepress/winepressref20.Valid; it keeps [6, 5, 9] -/
def lb53_0 : ACode := (.seq (.seq (.region [
 D 49 (.mv (T 9)),
 D 50 (.faddr 0 (T 5)),
 D 51 (.load none (T 50)),
 D 52 (.faddr 1 (T 5)),
 D 53 (.load none (T 52)),
 D 54 (.bin .add (T 51) (T 53)),
 D 55 (.bin .lss (T 49) (T 54))])
 (.cond (T 55)
 .skip
 (.exit 0)))
 (.seq (.block 1 (.seq (.region [
 D 58 (.mv (T 9)),
 D 59 (.faddr 0 (T 6)),
 D 60 (.load none (T 59)),
 D 61 (.bin .geq (T 58) (T 60)),
 D 62 (.mv (T 61)),
 ⟨(some 63), (some (62, true)), 0, true, .mv (T 9)⟩,
 ⟨(some 64), (some (62, true)), 0, true, .faddr 0 (T 6)⟩,
 ⟨(some 65), (some (62, true)), 0, true, .load none (T 64)⟩,
 ⟨(some 66), (some (62, true)), 0, true, .faddr 1 (T 6)⟩,
 ⟨(some 67), (some (62, true)), 0, true, .load none (T 66)⟩,
 ⟨(some 68), (some (62, true)), 0, true, .bin .add (T 65) (T 67)⟩,
 ⟨(some 69), (some (62, true)), 0, true, .bin .lss (T 63) (T 68)⟩,
 D 70 (.pick (T 62) (T 69) (C (.bool false)))])
 (.cond (T 70)
 (.seq (.region [
 D 8 (.mv (C (.bool false)))])
 .ret)
 .skip)))
 (.region [
 D 56 (.mv (T 9)),
 D 57 (.bin .add (T 56) (C (.int .i64 1))),
 D 9 (.mv (T 57))])))
/-- winepress/winepressref20.Valid -/
def ac53 : AFn := ⟨(.seq (.region [
 D 5 (.box true (T 1)),
 D 6 (.box true (T 2)),
 D 8 (.mv (C (.bool false)))])
 (.seq (.seq (.drawn [
 ⟨(some 10), none, 0, false, .mv (T 0)⟩,
 D 11 (.load (some 2) (T 5)),
 ⟨(some 12), none, 3, true, .call 34 [(T 10), (T 11)]⟩,
 ⟨(some 13), none, 7, false, .un .not (T 12)⟩,
 ⟨(some 14), none, 15, false, .mv (T 13)⟩,
 ⟨(some 15), (some (14, false)), 31, false, .mv (T 0)⟩,
 ⟨(some 16), (some (14, false)), 31, true, .load (some 2) (T 6)⟩,
 ⟨(some 17), (some (14, false)), 127, true, .call 34 [(T 15), (T 16)]⟩,
 ⟨(some 18), (some (14, false)), 255, false, .un .not (T 17)⟩,
 ⟨(some 19), none, 511, false, .pick (T 14) (C (.bool true)) (T 18)⟩,
 ⟨(some 20), none, 1023, false, .mv (T 19)⟩,
 ⟨(some 21), (some (20, false)), 2047, false, .faddr 1 (T 5)⟩,
 ⟨(some 22), (some (20, false)), 4095, true, .load none (T 21)⟩,
 ⟨(some 23), (some (20, false)), 8191, false, .bin .lss (T 22) (C (.int .i64 1))⟩,
 ⟨(some 24), none, 16383, false, .pick (T 20) (C (.bool true)) (T 23)⟩,
 ⟨(some 25), none, 32767, false, .mv (T 24)⟩,
 ⟨(some 26), (some (25, false)), 65535, false, .faddr 1 (T 5)⟩,
 ⟨(some 27), (some (25, false)), 131071, true, .load none (T 26)⟩,
 ⟨(some 28), (some (25, false)), 262143, false, .bin .gtr (T 27) (C (.int .i64 65536))⟩,
 ⟨(some 29), none, 524287, false, .pick (T 25) (C (.bool true)) (T 28)⟩,
 ⟨(some 30), none, 1048575, false, .mv (T 29)⟩,
 ⟨(some 31), (some (30, false)), 2097151, false, .mv (T 3)⟩,
 ⟨(some 32), (some (30, false)), 4194303, false, .bin .lss (T 31) (C (.int .i64 1))⟩,
 ⟨(some 33), none, 8388607, false, .pick (T 30) (C (.bool true)) (T 32)⟩,
 ⟨(some 34), none, 16777215, false, .mv (T 33)⟩,
 ⟨(some 35), (some (34, false)), 33554431, false, .mv (T 3)⟩,
 ⟨(some 36), (some (34, false)), 67108863, false, .bin .gtr (T 35) (C (.int .i64 65536))⟩,
 ⟨(some 37), none, 134217727, false, .pick (T 34) (C (.bool true)) (T 36)⟩,
 ⟨(some 38), none, 268435455, false, .mv (T 37)⟩,
 ⟨(some 39), (some (38, false)), 536870911, false, .faddr 1 (T 6)⟩,
 ⟨(some 40), (some (38, false)), 1073741823, false, .load none (T 39)⟩,
 ⟨(some 41), (some (38, false)), 536870911, false, .faddr 1 (T 5)⟩,
 ⟨(some 42), (some (38, false)), 2684354559, false, .load none (T 41)⟩,
 ⟨(some 43), (some (38, false)), 536870911, false, .mv (T 3)⟩,
 ⟨(some 44), (some (38, false)), 15569256447, false, .call 51 [(T 42), (T 43)]⟩,
 ⟨(some 45), (some (38, false)), 34359738367, false, .bin .lss (T 40) (T 44)⟩,
 ⟨(some 46), none, 68719476735, false, .pick (T 38) (C (.bool true)) (T 45)⟩])
 (.cond (T 46)
 (.seq (.region [
 D 8 (.mv (C (.bool false)))])
 .ret)
 .skip))
 (.seq (.seq (.region [
 D 47 (.faddr 0 (T 5)),
 D 48 (.load none (T 47)),
 D 9 (.mv (T 48))])
 (.block 0 (.loop [6, 5, 9] lb53_0)))
 (.seq (.region [
 D 8 (.mv (C (.bool true)))])
 .ret)))), [.tmp 8]⟩
theorem ac53_ok : compFn Try.prog Try.f53 = some ac53 := by kernel_rfl
/-- a loop of winepress/rank.Less; it keeps [8, 24, 4, 5] -/
def lb54_0 : ACode := (.seq (.region [
 D 25 (.bin .lss (T 24) (C (.int .i64 256)))])
 (.seq (.cond (T 25)
 .skip
 (.exit 2))
 (.seq (.block 3 (.seq (.region [
 D 26 (.mv (T 24)),
 D 9 (.mv (T 26))])
 (.seq (.region [
 D 27 (.mv (T 9)),
 D 28 (.mv (T 8)),
 D 29 (.iaddra 1 256 (T 4) (T 27)),
 E (.store 1 (T 29) (T 28))])
 (.region [
 D 30 (.mv (T 8)),
 D 31 (.mv (T 9)),
 D 32 (.iaddra 1 256 (T 5) (T 31)),
 D 33 (.load none (T 32)),
 D 34 (.bin .add (T 30) (T 33)),
 D 8 (.mv (T 34))]))))
 (.region [
 D 35 (.bin .add (T 24) (C (.int .i64 1))),
 D 24 (.mv (T 35))]))))
/-- a loop of winepress/rank.Less; it keeps [14, 13, 4, 12, 5] -/
def lb54_1 : ACode := (.seq (.region [
 D 15 (.bin .lss (T 14) (T 13))])
 (.seq (.cond (T 15)
 .skip
 (.exit 0))
 (.seq (.block 1 (.seq (.region [
 D 16 (.iaddr 1 (T 12) (T 14)),
 D 17 (.load none (T 16)),
 D 7 (.mv (T 17))])
 (.region [
 D 18 (.mv (T 7)),
 D 19 (.iaddra 1 256 (T 5) (T 18)),
 D 20 (.load none (T 19)),
 D 21 (.bin .add (T 20) (C (.int .i64 1))),
 D 22 (.iaddra 1 256 (T 5) (T 18)),
 E (.store 1 (T 22) (T 21))])))
 (.region [
 D 23 (.bin .add (T 14) (C (.int .i64 1))),
 D 14 (.mv (T 23))]))))
/-- winepress/rank.Less -/
def ac54 : AFn := ⟨(.seq (.region [
 D 3 (.box true (T 1)),
 D 4 (.alloc true (List.replicate 256 (.int .i64 0)))])
 (.seq (.region [
 D 5 (.alloc true (List.replicate 256 (.int .i64 0)))])
 (.seq (.seq (.region [
 D 10 (.mv (T 0)),
 D 11 (.load (some 2) (T 3)),
 D 12 (.call 21 [(T 10), (T 11)]),
 D 13 (.len (T 12)),
 D 14 (.mv (C (.int .i64 0)))])
 (.block 0 (.loop [14, 13, 4, 12, 5] lb54_1)))
 (.seq (.region [
 D 8 (.mv (C (.int .i64 0)))])
 (.seq (.seq (.region [
 D 24 (.mv (C (.int .i64 0)))])
 (.block 2 (.loop [8, 24, 4, 5] lb54_0)))
 (.seq (.region [
 D 36 (.load (some 256) (T 4)),
 E (.store 256 (T 4) (T 36))])
 .ret)))))), [.cell 4 (some 256)]⟩
theorem ac54_ok : compFn Try.prog Try.f54 = some ac54 := by kernel_rfl
/-- a loop of winepress/winepressref20.Less; it keeps [7, 4, 3, 0, 6, 5] -/
def lb55_0 : ACode := (.seq (.seq (.region [
 D 19 (.mv (T 7)),
 D 20 (.faddr 0 (T 3)),
 D 21 (.load none (T 20)),
 D 22 (.faddr 1 (T 3)),
 D 23 (.load none (T 22)),
 D 24 (.bin .add (T 21) (T 23)),
 D 25 (.bin .lss (T 19) (T 24))])
 (.cond (T 25)
 .skip
 (.exit 2)))
 (.seq (.block 3 (.seq (.region [
 D 28 (.mv (T 0)),
 D 29 (.nilck (T 28)),
 D 30 (.faddr 0 (T 29)),
 D 31 (.load none (T 30)),
 D 32 (.mv (T 7)),
 D 33 (.iaddr 1 (T 31) (T 32)),
 D 34 (.load none (T 33)),
 D 35 (.conv .i64 (T 34)),
 D 36 (.mv (T 6)),
 D 37 (.bin .lss (T 35) (T 36))])
 (.cond (T 37)
 (.region [
 D 38 (.mv (T 6)),
 D 39 (.iaddra 1 256 (T 5) (T 38)),
 D 40 (.load none (T 39)),
 D 41 (.bin .add (T 40) (C (.int .i64 1))),
 D 42 (.iaddra 1 256 (T 5) (T 38)),
 E (.store 1 (T 42) (T 41))])
 .skip)))
 (.region [
 D 26 (.mv (T 7)),
 D 27 (.bin .add (T 26) (C (.int .i64 1))),
 D 7 (.mv (T 27))])))
/-- a loop of winepress/winepressref20.Less; it keeps [3, 4, 0, 6, 5] -/
def lb55_1 : ACode := (.seq (.seq (.region [
 D 8 (.mv (T 6)),
 D 9 (.bin .lss (T 8) (C (.int .i64 256))),
 D 10 (.mv (T 9)),
 ⟨(some 11), (some (10, true)), 0, true, .mv (T 0)⟩,
 ⟨(some 12), (some (10, true)), 0, true, .load (some 2) (T 3)⟩,
 ⟨(some 13), (some (10, true)), 0, true, .call 34 [(T 11), (T 12)]⟩,
 D 14 (.pick (T 10) (T 13) (C (.bool false)))])
 (.cond (T 14)
 .skip
 (.exit 0)))
 (.seq (.block 1 (.seq (.region [
 D 17 (.faddr 0 (T 3)),
 D 18 (.load none (T 17)),
 D 7 (.mv (T 18))])
 (.block 2 (.loop [7, 4, 3, 0, 6, 5] lb55_0))))
 (.region [
 D 15 (.mv (T 6)),
 D 16 (.bin .add (T 15) (C (.int .i64 1))),
 D 6 (.mv (T 16))])))
/-- winepress/winepressref20.Less -/
def ac55 : AFn := ⟨(.seq (.region [
 D 3 (.box true (T 1)),
 D 4 (.alloc true (List.replicate 256 (.int .i64 0)))])
 (.seq (.region [
 D 5 (.alloc true (List.replicate 256 (.int .i64 0)))])
 (.seq (.seq (.region [
 D 6 (.mv (C (.int .i64 0)))])
 (.block 0 (.loop [3, 4, 0, 6, 5] lb55_1)))
 (.seq (.region [
 D 43 (.load (some 256) (T 5)),
 E (.store 256 (T 4) (T 43))])
 .ret)))), [.cell 4 (some 256)]⟩
theorem ac55_ok : compFn Try.prog Try.f55 = some ac55 := by kernel_rfl
/-- a loop of winepress/rank.Make; it keeps [55, 3, 9, 5, 27, 28, 54, 0, 6, 13] -/
def lb56_0 : ACode := (.seq (.region [
 D 56 (.bin .lss (T 55) (C (.int .i64 256)))])
 (.seq (.cond (T 56)
 .skip
 (.exit 2))
 (.seq (.block 3 (.seq (.region [
 D 57 (.mv (T 55)),
 D 58 (.idx 1 256 none (T 54) (T 55)),
 D 14 (.mv (T 57)),
 D 15 (.mv (T 58))])
 (.region [
 D 59 (.mv (T 0)),
 D 60 (.load (some 2) (T 6)),
 D 61 (.mv (T 13)),
 D 62 (.mv (T 14)),
 D 63 (.bin .add (T 61) (T 62)),
 D 64 (.mv (T 15)),
 D 65 (.conv .u32 (T 64)),
 D 66 (.call 19 [(T 59), (T 60), (T 63), (T 65)])])))
 (.region [
 D 67 (.bin .add (T 55) (C (.int .i64 1))),
 D 55 (.mv (T 67))]))))
/-- a loop of winepress/rank.Make; it keeps [28, 27, 5, 6, 0, 9, 3] -/
def lb56_1 : ACode := (.seq (.region [
 D 29 (.bin .lss (T 28) (T 27))])
 (.seq (.cond (T 29)
 .skip
 (.exit 0))
 (.seq (.block 1 (.seq (.region [
 D 30 (.mv (T 28)),
 D 10 (.mv (T 30))])
 (.seq (.region [
 D 32 (.mv (T 0)),
 D 33 (.load (some 2) (T 5)),
 D 34 (.mv (T 10)),
 D 35 (.call 29 [(T 32), (T 33), (T 34)]),
 D 31 (.mv (T 35)),
 D 36 (.ext (T 31) 0),
 D 37 (.ext (T 31) 1),
 D 11 (.mv (T 36)),
 D 12 (.mv (T 37))])
 (.seq (.region [
 D 38 (.mv (T 11)),
 D 39 (.iaddra 1 256 (T 9) (T 38)),
 D 40 (.load none (T 39)),
 D 41 (.bin .add (T 40) (C (.int .i64 1))),
 D 42 (.iaddra 1 256 (T 9) (T 38)),
 E (.store 1 (T 42) (T 41))])
 (.seq (.seq (.region [
 D 43 (.mv (T 10)),
 D 44 (.bin .add (T 43) (C (.int .i64 1))),
 D 45 (.mv (T 3)),
 D 46 (.bin .rem (T 44) (T 45)),
 D 47 (.bin .neq (T 46) (C (.int .i64 0)))])
 (.cond (T 47)
 (.exit 1)
 .skip))
 (.seq (.region [
 D 48 (.mv (T 10)),
 D 49 (.bin .add (T 48) (C (.int .i64 1))),
 D 50 (.mv (T 3)),
 D 51 (.bin .quo (T 49) (T 50)),
 D 52 (.bin .sub (T 51) (C (.int .i64 1))),
 D 53 (.bin .mul (T 52) (C (.int .i64 256))),
 D 13 (.mv (T 53))])
 (.seq (.region [
 D 54 (.load (some 256) (T 9)),
 D 55 (.mv (C (.int .i64 0)))])
 (.block 2 (.loop [55, 3, 9, 5, 27, 28, 54, 0, 6, 13] lb56_0)))))))))
 (.region [
 D 68 (.bin .add (T 28) (C (.int .i64 1))),
 D 28 (.mv (T 68))]))))
/-- winepress/rank.Make -/
def ac56 : AFn := ⟨(.seq (.region [
 D 5 (.box true (T 1)),
 D 6 (.box true (T 2)),
 D 8 (.mv (C (.int .i64 0)))])
 (.seq (.seq (.region [
 D 16 (.mv (T 0)),
 D 17 (.load (some 2) (T 5)),
 D 18 (.load (some 2) (T 6)),
 D 19 (.mv (T 3)),
 D 20 (.call 52 [(T 16), (T 17), (T 18), (T 19)]),
 D 21 (.un .not (T 20))])
 (.cond (T 21)
 (.seq (.region [
 D 8 (.mv (C (.int .i64 2)))])
 .ret)
 .skip))
 (.seq (.region [
 D 9 (.alloc true (List.replicate 256 (.int .i64 0)))])
 (.seq (.seq (.region [
 D 22 (.faddr 1 (T 5)),
 D 23 (.load none (T 22)),
 D 24 (.mv (T 3)),
 D 25 (.bin .quo (T 23) (T 24)),
 D 26 (.mv (T 3)),
 D 27 (.bin .mul (T 25) (T 26)),
 D 28 (.mv (C (.int .i64 0)))])
 (.block 0 (.loop [28, 27, 5, 6, 0, 9, 3] lb56_1)))
 (.seq (.region [
 D 8 (.mv (C (.int .i64 0)))])
 .ret))))), [.tmp 8]⟩
theorem ac56_ok : compFn Try.prog Try.f56 = some ac56 := by kernel_rfl
/-- a loop of winepress/winepressref20.Make; it keeps [13, 10, 14, 3, 5, 9, 11, 12, 0] -/
def lb57_0 : ACode := (.seq (.seq (.region [
 D 54 (.mv (T 14)),
 D 55 (.bin .lss (T 54) (C (.int .i64 4)))])
 (.cond (T 55)
 .skip
 (.exit 4)))
 (.seq (.block 5 (.seq (.region [
 D 58 (.mv (T 0)),
 D 59 (.nilck (T 58)),
 D 60 (.faddr 0 (T 59)),
 D 61 (.load none (T 60)),
 D 62 (.mv (T 10)),
 D 63 (.mv (T 13)),
 D 64 (.bin .rem (T 63) (C (.int .i64 256))),
 D 65 (.conv .u8 (T 64)),
 D 66 (.iaddr 1 (T 61) (T 62)),
 E (.store 1 (T 66) (T 65))])
 (.seq (.region [
 D 67 (.mv (T 13)),
 D 68 (.bin .quo (T 67) (C (.int .i64 256))),
 D 13 (.mv (T 68))])
 (.region [
 D 69 (.mv (T 10)),
 D 70 (.bin .add (T 69) (C (.int .i64 1))),
 D 10 (.mv (T 70))]))))
 (.region [
 D 56 (.mv (T 14)),
 D 57 (.bin .add (T 56) (C (.int .i64 1))),
 D 14 (.mv (T 57))])))
/-- a loop of winepress/winepressref20.Make; it keeps [10, 11, 9, 5, 3, 12, 0] -/
def lb57_1 : ACode := (.seq (.seq (.region [
 D 45 (.mv (T 12)),
 D 46 (.bin .lss (T 45) (C (.int .i64 256)))])
 (.cond (T 46)
 .skip
 (.exit 2)))
 (.seq (.block 3 (.seq (.region [
 D 49 (.mv (T 9)),
 D 50 (.mv (T 12)),
 D 51 (.conv .u8 (T 50)),
 D 52 (.mv (T 11)),
 D 53 (.call 74 [(T 49), (T 51), (T 52)]),
 D 13 (.mv (T 53))])
 (.seq (.region [
 D 14 (.mv (C (.int .i64 0)))])
 (.block 4 (.loop [13, 10, 14, 3, 5, 9, 11, 12, 0] lb57_0)))))
 (.region [
 D 47 (.mv (T 12)),
 D 48 (.bin .add (T 47) (C (.int .i64 1))),
 D 12 (.mv (T 48))])))
/-- a loop of winepress/winepressref20.Make; it keeps [10, 11, 9, 5, 3, 0] -/
def lb57_2 : ACode := (.seq (.seq (.region [
 D 38 (.mv (T 11)),
 D 39 (.faddr 1 (T 5)),
 D 40 (.load none (T 39)),
 D 41 (.bin .leq (T 38) (T 40))])
 (.cond (T 41)
 .skip
 (.exit 0)))
 (.seq (.block 1 (.seq (.region [
 D 12 (.mv (C (.int .i64 0)))])
 (.block 2 (.loop [10, 11, 9, 5, 3, 12, 0] lb57_1))))
 (.region [
 D 42 (.mv (T 11)),
 D 43 (.mv (T 3)),
 D 44 (.bin .add (T 42) (T 43)),
 D 11 (.mv (T 44))])))
/-- winepress/winepressref20.Make -/
def ac57 : AFn := ⟨(.seq (.region [
 D 5 (.box true (T 1)),
 D 6 (.box true (T 2)),
 D 8 (.mv (C (.int .i64 0)))])
 (.seq (.seq (.region [
 D 15 (.mv (T 0)),
 D 16 (.load (some 2) (T 5)),
 D 17 (.load (some 2) (T 6)),
 D 18 (.mv (T 3)),
 D 19 (.call 53 [(T 15), (T 16), (T 17), (T 18)]),
 D 20 (.un .not (T 19))])
 (.cond (T 20)
 (.seq (.region [
 D 8 (.mv (C (.int .i64 2)))])
 .ret)
 .skip))
 (.seq (.drawn [
 ⟨(some 21), none, 0, false, .bslice true 1 0 [] []⟩,
 ⟨(some 22), none, 0, false, .mv (T 0)⟩,
 ⟨(some 23), none, 2, false, .nilck (T 22)⟩,
 ⟨(some 24), none, 6, false, .faddr 0 (T 23)⟩,
 ⟨(some 25), none, 14, false, .load none (T 24)⟩,
 ⟨(some 26), none, 0, false, .faddr 0 (T 5)⟩,
 ⟨(some 27), none, 32, false, .load none (T 26)⟩,
 ⟨(some 28), none, 0, false, .faddr 0 (T 5)⟩,
 ⟨(some 29), none, 128, false, .load none (T 28)⟩,
 ⟨(some 30), none, 0, false, .faddr 1 (T 5)⟩,
 ⟨(some 31), none, 512, false, .load none (T 30)⟩,
 ⟨(some 32), none, 1920, false, .bin .add (T 29) (T 31)⟩,
 ⟨(some 33), none, 4094, false, .slice 1 (T 25) (some (T 27)) (some (T 32)) none⟩,
 ⟨(some 34), none, 8191, true, .append true 1 (T 21) (T 33)⟩,
 ⟨(some 9), none, 16383, false, .mv (T 34)⟩])
 (.seq (.region [
 D 35 (.faddr 0 (T 6)),
 D 36 (.load none (T 35)),
 D 10 (.mv (T 36))])
 (.seq (.seq (.region [
 D 37 (.mv (T 3)),
 D 11 (.mv (T 37))])
 (.block 0 (.loop [10, 11, 9, 5, 3, 0] lb57_2)))
 (.seq (.region [
 D 8 (.mv (C (.int .i64 0)))])
 .ret)))))), [.tmp 8]⟩
theorem ac57_ok : compFn Try.prog Try.f57 = some ac57 := by kernel_rfl
/-- winepress/winepresslaw20.laid -/
def ac58 : AFn := ⟨(.seq (.region [
 D 4 (.mv (C (.pointer none))),
 D 5 (.alloc true [(.int .i64 0), (.int .i64 0)]),
 D 6 (.alloc true [(.int .i64 0), (.int .i64 0)])])
 (.seq (.region [
 D 14 (.mv (T 0)),
 D 15 (.len (T 14)),
 D 16 (.mv (T 1)),
 D 17 (.call 51 [(T 15), (T 16)]),
 D 7 (.mv (T 17))])
 (.seq (.region [
 D 19 (.mv (T 0)),
 D 20 (.len (T 19)),
 D 21 (.mv (T 7)),
 D 22 (.bin .add (T 20) (T 21)),
 D 23 (.bin .add (T 22) (C (.int .i64 1))),
 D 24 (.call 16 [(T 23)]),
 D 18 (.mv (T 24)),
 D 25 (.ext (T 18) 0),
 D 26 (.ext (T 18) 1),
 D 8 (.mv (T 25)),
 D 9 (.mv (T 26))])
 (.seq (.seq (.region [
 D 27 (.mv (T 9)),
 D 28 (.bin .neq (T 27) (C (.int .i64 0))),
 D 29 (.mv (T 28)),
 ⟨(some 30), (some (29, false)), 0, true, .mv (T 8)⟩,
 ⟨(some 31), (some (29, false)), 0, true, .eqs false .ptr (T 30) (C (.pointer none))⟩,
 D 32 (.pick (T 29) (C (.bool true)) (T 31))])
 (.cond (T 32)
 (.seq (.region [
 D 33 (.build [(.int .i64 0), (.int .i64 0)] []),
 D 34 (.build [(.int .i64 0), (.int .i64 0)] []),
 D 4 (.mv (C (.pointer none))),
 E (.store 2 (T 5) (T 33)),
 E (.store 2 (T 6) (T 34))])
 .ret)
 .skip))
 (.seq (.region [
 D 36 (.mv (T 8)),
 D 37 (.mv (T 0)),
 D 38 (.len (T 37)),
 D 39 (.call 17 [(T 36), (T 38)]),
 D 35 (.mv (T 39)),
 D 40 (.ext (T 35) 0),
 D 41 (.ext (T 35) 1),
 D 10 (.alloc true [(.int .i64 0), (.int .i64 0)]),
 E (.store 2 (T 10) (T 40)),
 D 11 (.mv (T 41))])
 (.seq (.region [
 D 43 (.mv (T 8)),
 D 44 (.mv (T 7)),
 D 45 (.call 17 [(T 43), (T 44)]),
 D 42 (.mv (T 45)),
 D 46 (.ext (T 42) 0),
 D 47 (.ext (T 42) 1),
 D 12 (.alloc true [(.int .i64 0), (.int .i64 0)]),
 E (.store 2 (T 12) (T 46)),
 D 13 (.mv (T 47))])
 (.seq (.region [
 D 48 (.mv (T 8)),
 D 49 (.call 17 [(T 48), (C (.int .i64 1))])])
 (.seq (.region [
 D 50 (.mv (T 8)),
 D 51 (.load (some 2) (T 10)),
 D 52 (.mv (T 0)),
 D 53 (.call 18 [(T 50), (T 51), (C (.int .i64 0)), (T 52)])])
 (.seq (.moves [] false [
 ⟨(some 54), none, 0, false, .mv (T 8)⟩,
 ⟨(some 55), none, 0, false, .load (some 2) (T 10)⟩,
 ⟨(some 56), none, 0, false, .load (some 2) (T 12)⟩,
 ⟨(some 4), none, 0, false, .mv (T 54)⟩,
 ⟨none, none, 0, false, .store 2 (T 5) (T 55)⟩,
 ⟨none, none, 0, false, .store 2 (T 6) (T 56)⟩])
 .ret))))))))), [.tmp 4, .cell 5 (some 2), .cell 6 (some 2)]⟩
theorem ac58_ok : compFn Try.prog Try.f58 = some ac58 := by kernel_rfl
/-- (*winepress/arena.Arena).word -/
def ac59 : AFn := ⟨(.seq (.region [
 D 4 (.box true (T 1)),
 D 6 (.mv (C (.slice none 0 0)))])
 (.seq (.seq (.region [
 D 7 (.mv (T 2)),
 D 8 (.bin .lss (T 7) (C (.int .i64 0))),
 D 9 (.mv (T 8)),
 ⟨(some 10), (some (9, false)), 0, true, .mv (T 2)⟩,
 ⟨(some 11), (some (9, false)), 0, true, .bin .gtr (T 10) (C (.int .i64 1048576))⟩,
 D 12 (.pick (T 9) (C (.bool true)) (T 11))])
 (.cond (T 12)
 (.seq (.region [
 D 6 (.mv (C (.slice none 0 0)))])
 .ret)
 .skip))
 (.seq (.region [
 D 13 (.mv (T 0)),
 D 14 (.load (some 2) (T 4)),
 D 15 (.mv (T 2)),
 D 16 (.bin .shl (T 15) (C (.int .u64 2))),
 D 17 (.call 66 [(T 13), (T 14), (T 16), (C (.int .i64 4))]),
 D 6 (.mv (T 17))])
 .ret))), [.tmp 6]⟩
theorem ac59_ok : compFn Try.prog Try.f59 = some ac59 := by kernel_rfl
/-- bytes.Clone -/
def ac60 : AFn := ⟨(.seq (.region [
 D 2 (.mv (C (.slice none 0 0)))])
 (.seq (.seq (.region [
 D 3 (.mv (T 0)),
 D 4 (.eqs false .slice (T 3) (C (.slice none 0 0)))])
 (.cond (T 4)
 (.seq (.region [
 D 2 (.mv (C (.slice none 0 0)))])
 .ret)
 .skip))
 (.seq (.region [
 D 5 (.bslice true 1 0 [] []),
 D 6 (.mv (T 0)),
 D 7 (.append true 1 (T 5) (T 6)),
 D 2 (.mv (T 7))])
 .ret))), [.tmp 2]⟩
theorem ac60_ok : compFn Try.prog Try.f60 = some ac60 := by kernel_rfl
/-- a loop of (*winepress/winepressref01.Arena).Take; it keeps [7, 4, 6, 1, 0] -/
def lb61_0 : ACode := (.seq (.seq (.region [
 D 30 (.mv (T 7)),
 D 31 (.mv (T 1)),
 D 32 (.bin .lss (T 30) (T 31))])
 (.cond (T 32)
 .skip
 (.exit 0)))
 (.seq (.block 1 (.drawn [
 ⟨(some 35), none, 0, false, .mv (T 0)⟩,
 ⟨(some 36), none, 1, false, .nilck (T 35)⟩,
 ⟨(some 37), none, 3, false, .faddr 0 (T 36)⟩,
 ⟨(some 38), none, 7, false, .load none (T 37)⟩,
 ⟨(some 39), none, 0, false, .mv (T 0)⟩,
 ⟨(some 40), none, 16, false, .nilck (T 39)⟩,
 ⟨(some 41), none, 48, false, .faddr 1 (T 40)⟩,
 ⟨(some 42), none, 112, false, .load none (T 41)⟩,
 ⟨(some 43), none, 0, false, .mv (T 7)⟩,
 ⟨(some 44), none, 496, false, .bin .add (T 42) (T 43)⟩,
 ⟨(some 45), none, 1023, false, .iaddr 1 (T 38) (T 44)⟩,
 ⟨none, none, 2047, true, .store 1 (T 45) (C (.int .u8 0))⟩]))
 (.region [
 D 33 (.mv (T 7)),
 D 34 (.bin .add (T 33) (C (.int .i64 1))),
 D 7 (.mv (T 34))])))
/-- (*winepress/winepressref01.Arena).Take -/
def ac61 : AFn := ⟨(.seq (.region [
 D 4 (.alloc true [(.int .i64 0), (.int .i64 0)]),
 D 5 (.mv (C (.int .i64 0)))])
 (.seq (.seq (.region [
 D 8 (.mv (T 1)),
 D 9 (.bin .lss (T 8) (C (.int .i64 0)))])
 (.cond (T 9)
 (.seq (.region [
 D 10 (.build [(.int .i64 0), (.int .i64 0)] []),
 E (.store 2 (T 4) (T 10)),
 D 5 (.mv (C (.int .i64 2)))])
 .ret)
 .skip))
 (.seq (.seq (.drawn [
 ⟨(some 11), none, 0, false, .mv (T 1)⟩,
 ⟨(some 12), none, 0, false, .mv (T 0)⟩,
 ⟨(some 13), none, 2, false, .nilck (T 12)⟩,
 ⟨(some 14), none, 6, false, .faddr 0 (T 13)⟩,
 ⟨(some 15), none, 14, false, .load none (T 14)⟩,
 ⟨(some 16), none, 30, false, .len (T 15)⟩,
 ⟨(some 17), none, 0, false, .mv (T 0)⟩,
 ⟨(some 18), none, 64, false, .nilck (T 17)⟩,
 ⟨(some 19), none, 192, false, .faddr 1 (T 18)⟩,
 ⟨(some 20), none, 448, false, .load none (T 19)⟩,
 ⟨(some 21), none, 1022, false, .bin .sub (T 16) (T 20)⟩,
 ⟨(some 22), none, 2047, false, .bin .gtr (T 11) (T 21)⟩])
 (.cond (T 22)
 (.seq (.region [
 D 23 (.build [(.int .i64 0), (.int .i64 0)] []),
 E (.store 2 (T 4) (T 23)),
 D 5 (.mv (C (.int .i64 10)))])
 .ret)
 .skip))
 (.seq (.region [
 D 24 (.mv (T 0)),
 D 25 (.nilck (T 24)),
 D 26 (.faddr 1 (T 25)),
 D 27 (.load none (T 26)),
 D 28 (.mv (T 1)),
 D 29 (.build [(.int .i64 0), (.int .i64 0)] [(0, 1, (T 27)), (1, 1, (T 28))]),
 D 6 (.alloc true [(.int .i64 0), (.int .i64 0)]),
 E (.store 2 (T 6) (T 29))])
 (.seq (.seq (.region [
 D 7 (.mv (C (.int .i64 0)))])
 (.block 0 (.loop [7, 4, 6, 1, 0] lb61_0)))
 (.seq (.region [
 D 46 (.mv (T 0)),
 D 47 (.mv (T 0)),
 D 48 (.nilck (T 47)),
 D 49 (.faddr 1 (T 48)),
 D 50 (.load none (T 49)),
 D 51 (.mv (T 1)),
 D 52 (.bin .add (T 50) (T 51)),
 D 53 (.nilck (T 46)),
 D 54 (.faddr 1 (T 53)),
 E (.store 1 (T 54) (T 52))])
 (.seq (.drawn [
 ⟨(some 55), none, 0, false, .mv (T 0)⟩,
 ⟨(some 56), none, 0, false, .mv (T 0)⟩,
 ⟨(some 57), none, 2, false, .nilck (T 56)⟩,
 ⟨(some 58), none, 6, false, .faddr 2 (T 57)⟩,
 ⟨(some 59), none, 14, false, .load none (T 58)⟩,
 ⟨(some 60), none, 0, false, .mv (T 0)⟩,
 ⟨(some 61), none, 32, false, .nilck (T 60)⟩,
 ⟨(some 62), none, 96, false, .faddr 1 (T 61)⟩,
 ⟨(some 63), none, 224, false, .load none (T 62)⟩,
 ⟨(some 64), none, 510, false, .mm true [(T 59), (T 63)]⟩,
 ⟨(some 65), none, 1023, false, .nilck (T 55)⟩,
 ⟨(some 66), none, 2047, false, .faddr 2 (T 65)⟩,
 ⟨none, none, 4095, true, .store 1 (T 66) (T 64)⟩])
 (.seq (.region [
 D 67 (.load (some 2) (T 6)),
 E (.store 2 (T 4) (T 67)),
 D 5 (.mv (C (.int .i64 0)))])
 .ret)))))))), [.cell 4 (some 2), .tmp 5]⟩
theorem ac61_ok : compFn Try.prog Try.f61 = some ac61 := by kernel_rfl
/-- (*winepress/winepressref01.Arena).Release -/
def ac62 : AFn := ⟨(.seq (.region [
 D 4 (.mv (C (.bool false)))])
 (.seq (.seq (.region [
 D 5 (.mv (T 1)),
 D 6 (.bin .lss (T 5) (C (.int .i64 0))),
 D 7 (.mv (T 6)),
 ⟨(some 8), (some (7, false)), 0, true, .mv (T 1)⟩,
 ⟨(some 9), (some (7, false)), 0, true, .mv (T 0)⟩,
 ⟨(some 10), (some (7, false)), 0, true, .nilck (T 9)⟩,
 ⟨(some 11), (some (7, false)), 0, true, .faddr 1 (T 10)⟩,
 ⟨(some 12), (some (7, false)), 0, true, .load none (T 11)⟩,
 ⟨(some 13), (some (7, false)), 0, true, .bin .gtr (T 8) (T 12)⟩,
 D 14 (.pick (T 7) (C (.bool true)) (T 13))])
 (.cond (T 14)
 (.seq (.region [
 D 4 (.mv (C (.bool false)))])
 .ret)
 .skip))
 (.seq (.region [
 D 15 (.mv (T 0)),
 D 16 (.mv (T 1)),
 D 17 (.nilck (T 15)),
 D 18 (.faddr 1 (T 17)),
 E (.store 1 (T 18) (T 16))])
 (.seq (.region [
 D 4 (.mv (C (.bool true)))])
 .ret)))), [.tmp 4]⟩
theorem ac62_ok : compFn Try.prog Try.f62 = some ac62 := by kernel_rfl
/-- (*winepress/winepressref01.Arena).SetByte -/
def ac63 : AFn := ⟨(.seq (.region [
 D 5 (.box true (T 1)),
 D 8 (.mv (C (.bool false)))])
 (.seq (.seq (.region [
 D 9 (.mv (T 0)),
 D 10 (.load (some 2) (T 5)),
 D 11 (.mv (T 2)),
 D 12 (.call 67 [(T 9), (T 10), (T 11), (C (.int .i64 1))]),
 D 13 (.un .not (T 12))])
 (.cond (T 13)
 (.seq (.region [
 D 8 (.mv (C (.bool false)))])
 .ret)
 .skip))
 (.seq (.drawn [
 ⟨(some 14), none, 0, false, .mv (T 0)⟩,
 ⟨(some 15), none, 1, false, .nilck (T 14)⟩,
 ⟨(some 16), none, 3, false, .faddr 0 (T 15)⟩,
 ⟨(some 17), none, 7, false, .load none (T 16)⟩,
 ⟨(some 18), none, 0, false, .faddr 0 (T 5)⟩,
 ⟨(some 19), none, 16, false, .load none (T 18)⟩,
 ⟨(some 20), none, 0, false, .mv (T 2)⟩,
 ⟨(some 21), none, 112, false, .bin .add (T 19) (T 20)⟩,
 ⟨(some 22), none, 0, false, .mv (T 3)⟩,
 ⟨(some 23), none, 511, false, .iaddr 1 (T 17) (T 21)⟩,
 ⟨none, none, 1023, true, .store 1 (T 23) (T 22)⟩])
 (.seq (.region [
 D 8 (.mv (C (.bool true)))])
 .ret)))), [.tmp 8]⟩
theorem ac63_ok : compFn Try.prog Try.f63 = some ac63 := by kernel_rfl
/-- (*winepress/winepressref01.Arena).SetWord -/
def ac64 : AFn := ⟨(.seq (.region [
 D 5 (.box true (T 1)),
 D 8 (.mv (C (.bool false)))])
 (.seq (.seq (.region [
 D 10 (.mv (T 0)),
 D 11 (.load (some 2) (T 5)),
 D 12 (.mv (T 2)),
 D 13 (.call 68 [(T 10), (T 11), (T 12)]),
 D 14 (.un .not (T 13))])
 (.cond (T 14)
 (.seq (.region [
 D 8 (.mv (C (.bool false)))])
 .ret)
 .skip))
 (.seq (.region [
 D 15 (.faddr 0 (T 5)),
 D 16 (.load none (T 15)),
 D 17 (.mv (T 2)),
 D 18 (.bin .mul (C (.int .i64 4)) (T 17)),
 D 19 (.bin .add (T 16) (T 18)),
 D 9 (.mv (T 19))])
 (.seq (.drawn [
 ⟨(some 20), none, 0, false, .mv (T 0)⟩,
 ⟨(some 21), none, 1, false, .nilck (T 20)⟩,
 ⟨(some 22), none, 3, false, .faddr 0 (T 21)⟩,
 ⟨(some 23), none, 7, false, .load none (T 22)⟩,
 ⟨(some 24), none, 0, false, .mv (T 9)⟩,
 ⟨(some 25), none, 0, false, .mv (T 0)⟩,
 ⟨(some 26), none, 32, false, .nilck (T 25)⟩,
 ⟨(some 27), none, 96, false, .faddr 0 (T 26)⟩,
 ⟨(some 28), none, 224, false, .load none (T 27)⟩,
 ⟨(some 29), none, 0, false, .mv (T 9)⟩,
 ⟨(some 30), none, 512, false, .bin .add (T 29) (C (.int .i64 1))⟩,
 ⟨(some 31), none, 0, false, .mv (T 0)⟩,
 ⟨(some 32), none, 2048, false, .nilck (T 31)⟩,
 ⟨(some 33), none, 6144, false, .faddr 0 (T 32)⟩,
 ⟨(some 34), none, 14336, false, .load none (T 33)⟩,
 ⟨(some 35), none, 0, false, .mv (T 9)⟩,
 ⟨(some 36), none, 32768, false, .bin .add (T 35) (C (.int .i64 2))⟩,
 ⟨(some 37), none, 0, false, .mv (T 0)⟩,
 ⟨(some 38), none, 131072, false, .nilck (T 37)⟩,
 ⟨(some 39), none, 393216, false, .faddr 0 (T 38)⟩,
 ⟨(some 40), none, 917504, false, .load none (T 39)⟩,
 ⟨(some 41), none, 0, false, .mv (T 9)⟩,
 ⟨(some 42), none, 2097152, false, .bin .add (T 41) (C (.int .i64 3))⟩,
 ⟨(some 43), none, 0, false, .mv (T 3)⟩,
 ⟨(some 44), none, 8388608, false, .bin .rem (T 43) (C (.int .u32 256))⟩,
 ⟨(some 45), none, 25165824, false, .conv .u8 (T 44)⟩,
 ⟨(some 46), none, 0, false, .mv (T 3)⟩,
 ⟨(some 47), none, 67108864, false, .bin .quo (T 46) (C (.int .u32 256))⟩,
 ⟨(some 48), none, 201326592, false, .bin .rem (T 47) (C (.int .u32 256))⟩,
 ⟨(some 49), none, 469762048, false, .conv .u8 (T 48)⟩,
 ⟨(some 50), none, 0, false, .mv (T 3)⟩,
 ⟨(some 51), none, 1073741824, false, .bin .quo (T 50) (C (.int .u32 65536))⟩,
 ⟨(some 52), none, 3221225472, false, .bin .rem (T 51) (C (.int .u32 256))⟩,
 ⟨(some 53), none, 7516192768, false, .conv .u8 (T 52)⟩,
 ⟨(some 54), none, 0, false, .mv (T 3)⟩,
 ⟨(some 55), none, 17179869184, false, .bin .quo (T 54) (C (.int .u32 16777216))⟩,
 ⟨(some 56), none, 51539607552, false, .conv .u8 (T 55)⟩,
 ⟨(some 57), none, 60717567, false, .iaddr 1 (T 23) (T 24)⟩,
 ⟨none, none, 137499671039, true, .store 1 (T 57) (T 45)⟩,
 ⟨(some 58), none, 413384212479, false, .iaddr 1 (T 28) (T 30)⟩,
 ⟨none, none, 963140026367, true, .store 1 (T 58) (T 49)⟩,
 ⟨(some 59), none, 2078757879807, false, .iaddr 1 (T 34) (T 36)⟩,
 ⟨none, none, 4277781135359, true, .store 1 (T 59) (T 53)⟩,
 ⟨(some 60), none, 8796093022207, false, .iaddr 1 (T 40) (T 42)⟩,
 ⟨none, none, 17592186044415, true, .store 1 (T 60) (T 56)⟩])
 (.seq (.region [
 D 8 (.mv (C (.bool true)))])
 .ret))))), [.tmp 8]⟩
theorem ac64_ok : compFn Try.prog Try.f64 = some ac64 := by kernel_rfl
/-- a loop of (*winepress/winepressref01.Arena).Store; it keeps [9, 0, 5, 2, 3] -/
def lb65_0 : ACode := (.seq (.seq (.region [
 D 17 (.mv (T 9)),
 D 18 (.mv (T 3)),
 D 19 (.len (T 18)),
 D 20 (.bin .lss (T 17) (T 19))])
 (.cond (T 20)
 .skip
 (.exit 0)))
 (.seq (.block 1 (.drawn [
 ⟨(some 23), none, 0, false, .mv (T 0)⟩,
 ⟨(some 24), none, 1, false, .nilck (T 23)⟩,
 ⟨(some 25), none, 3, false, .faddr 0 (T 24)⟩,
 ⟨(some 26), none, 7, false, .load none (T 25)⟩,
 ⟨(some 27), none, 0, false, .faddr 0 (T 5)⟩,
 ⟨(some 28), none, 16, false, .load none (T 27)⟩,
 ⟨(some 29), none, 0, false, .mv (T 2)⟩,
 ⟨(some 30), none, 112, false, .bin .add (T 28) (T 29)⟩,
 ⟨(some 31), none, 0, false, .mv (T 9)⟩,
 ⟨(some 32), none, 496, false, .bin .add (T 30) (T 31)⟩,
 ⟨(some 33), none, 0, false, .mv (T 3)⟩,
 ⟨(some 34), none, 0, false, .mv (T 9)⟩,
 ⟨(some 35), none, 3072, false, .iaddr 1 (T 33) (T 34)⟩,
 ⟨(some 36), none, 7168, false, .load none (T 35)⟩,
 ⟨(some 37), none, 16383, false, .iaddr 1 (T 26) (T 32)⟩,
 ⟨none, none, 32767, true, .store 1 (T 37) (T 36)⟩]))
 (.region [
 D 21 (.mv (T 9)),
 D 22 (.bin .add (T 21) (C (.int .i64 1))),
 D 9 (.mv (T 22))])))
/-- (*winepress/winepressref01.Arena).Store -/
def ac65 : AFn := ⟨(.seq (.region [
 D 5 (.box true (T 1)),
 D 8 (.mv (C (.bool false)))])
 (.seq (.seq (.region [
 D 10 (.mv (T 0)),
 D 11 (.load (some 2) (T 5)),
 D 12 (.mv (T 2)),
 D 13 (.mv (T 3)),
 D 14 (.len (T 13)),
 D 15 (.call 67 [(T 10), (T 11), (T 12), (T 14)]),
 D 16 (.un .not (T 15))])
 (.cond (T 16)
 (.seq (.region [
 D 8 (.mv (C (.bool false)))])
 .ret)
 .skip))
 (.seq (.seq (.region [
 D 9 (.mv (C (.int .i64 0)))])
 (.block 0 (.loop [9, 0, 5, 2, 3] lb65_0)))
 (.seq (.region [
 D 8 (.mv (C (.bool true)))])
 .ret)))), [.tmp 8]⟩
theorem ac65_ok : compFn Try.prog Try.f65 = some ac65 := by kernel_rfl
/-- (*winepress/arena.Arena).part -/
def ac66 : AFn := ⟨(.seq (.region [
 D 5 (.box true (T 1)),
 D 8 (.mv (C (.slice none 0 0)))])
 (.seq (.seq (.region [
 D 9 (.mv (T 0)),
 D 10 (.load (some 2) (T 5)),
 D 11 (.call 33 [(T 9), (T 10)]),
 D 12 (.un .not (T 11)),
 D 13 (.mv (T 12)),
 ⟨(some 14), (some (13, false)), 0, true, .mv (T 2)⟩,
 ⟨(some 15), (some (13, false)), 0, true, .bin .lss (T 14) (C (.int .i64 0))⟩,
 D 16 (.pick (T 13) (C (.bool true)) (T 15)),
 D 17 (.mv (T 16)),
 ⟨(some 18), (some (17, false)), 0, true, .mv (T 2)⟩,
 ⟨(some 19), (some (17, false)), 0, true, .faddr 1 (T 5)⟩,
 ⟨(some 20), (some (17, false)), 0, true, .load none (T 19)⟩,
 ⟨(some 21), (some (17, false)), 0, true, .mv (T 3)⟩,
 ⟨(some 22), (some (17, false)), 0, true, .bin .sub (T 20) (T 21)⟩,
 ⟨(some 23), (some (17, false)), 0, true, .bin .gtr (T 18) (T 22)⟩,
 D 24 (.pick (T 17) (C (.bool true)) (T 23))])
 (.cond (T 24)
 (.seq (.region [
 D 8 (.mv (C (.slice none 0 0)))])
 .ret)
 .skip))
 (.seq (.region [
 D 25 (.mv (T 2)),
 D 26 (.faddr 0 (T 5)),
 D 27 (.load none (T 26)),
 D 28 (.bin .add (T 25) (T 27)),
 D 2 (.mv (T 28))])
 (.seq (.region [
 D 29 (.mv (T 0)),
 D 30 (.nilck (T 29)),
 D 31 (.faddr 0 (T 30)),
 D 32 (.load none (T 31)),
 D 33 (.mv (T 2)),
 D 34 (.mv (T 2)),
 D 35 (.mv (T 3)),
 D 36 (.bin .add (T 34) (T 35)),
 D 37 (.mv (T 2)),
 D 38 (.mv (T 3)),
 D 39 (.bin .add (T 37) (T 38)),
 D 40 (.slice 1 (T 32) (some (T 33)) (some (T 36)) (some (T 39))),
 D 8 (.mv (T 40))])
 .ret)))), [.tmp 8]⟩
theorem ac66_ok : compFn Try.prog Try.f66 = some ac66 := by kernel_rfl
/-- (*winepress/winepressref01.Arena).in -/
def ac67 : AFn := ⟨(.seq (.region [
 D 5 (.box true (T 1)),
 D 8 (.mv (C (.bool false)))])
 (.seq (.region [
 D 9 (.mv (T 0)),
 D 10 (.load (some 2) (T 5)),
 D 11 (.call 34 [(T 9), (T 10)]),
 D 12 (.mv (T 11)),
 ⟨(some 13), (some (12, true)), 0, true, .mv (T 2)⟩,
 ⟨(some 14), (some (12, true)), 0, true, .bin .geq (T 13) (C (.int .i64 0))⟩,
 D 15 (.pick (T 12) (T 14) (C (.bool false))),
 D 16 (.mv (T 15)),
 ⟨(some 17), (some (16, true)), 0, true, .mv (T 2)⟩,
 ⟨(some 18), (some (16, true)), 0, true, .faddr 1 (T 5)⟩,
 ⟨(some 19), (some (16, true)), 0, true, .load none (T 18)⟩,
 ⟨(some 20), (some (16, true)), 0, true, .bin .leq (T 17) (T 19)⟩,
 D 21 (.pick (T 16) (T 20) (C (.bool false))),
 D 22 (.mv (T 21)),
 ⟨(some 23), (some (22, true)), 0, true, .mv (T 3)⟩,
 ⟨(some 24), (some (22, true)), 0, true, .faddr 1 (T 5)⟩,
 ⟨(some 25), (some (22, true)), 0, true, .load none (T 24)⟩,
 ⟨(some 26), (some (22, true)), 0, true, .mv (T 2)⟩,
 ⟨(some 27), (some (22, true)), 0, true, .bin .sub (T 25) (T 26)⟩,
 ⟨(some 28), (some (22, true)), 0, true, .bin .leq (T 23) (T 27)⟩,
 D 29 (.pick (T 22) (T 28) (C (.bool false))),
 D 8 (.mv (T 29))])
 .ret)), [.tmp 8]⟩
theorem ac67_ok : compFn Try.prog Try.f67 = some ac67 := by kernel_rfl
/-- (*winepress/winepressref01.Arena).word -/
def ac68 : AFn := ⟨(.seq (.region [
 D 4 (.box true (T 1)),
 D 6 (.mv (C (.bool false)))])
 (.seq (.region [
 D 7 (.mv (T 2)),
 D 8 (.bin .geq (T 7) (C (.int .i64 0))),
 D 9 (.mv (T 8)),
 ⟨(some 10), (some (9, true)), 0, true, .mv (T 2)⟩,
 ⟨(some 11), (some (9, true)), 0, true, .bin .leq (T 10) (C (.int .i64 1048576))⟩,
 D 12 (.pick (T 9) (T 11) (C (.bool false))),
 D 13 (.mv (T 12)),
 ⟨(some 14), (some (13, true)), 0, true, .mv (T 0)⟩,
 ⟨(some 15), (some (13, true)), 0, true, .load (some 2) (T 4)⟩,
 ⟨(some 16), (some (13, true)), 0, true, .mv (T 2)⟩,
 ⟨(some 17), (some (13, true)), 0, true, .bin .mul (C (.int .i64 4)) (T 16)⟩,
 ⟨(some 18), (some (13, true)), 0, true, .call 67 [(T 14), (T 15), (T 17), (C (.int .i64 4))]⟩,
 D 19 (.pick (T 13) (T 18) (C (.bool false))),
 D 6 (.mv (T 19))])
 .ret)), [.tmp 6]⟩
theorem ac68_ok : compFn Try.prog Try.f68 = some ac68 := by kernel_rfl
/-- winepress/rank.within -/
def ac72 : AFn := ⟨(.seq (.region [
 D 6 (.mv (C (.bool false)))])
 (.seq (.region [
 D 7 (.mv (T 0)),
 D 8 (.mv (T 1)),
 D 9 (.bin .geq (T 7) (T 8)),
 D 10 (.mv (T 9)),
 ⟨(some 11), (some (10, true)), 0, true, .mv (T 0)⟩,
 ⟨(some 12), (some (10, true)), 0, true, .mv (T 2)⟩,
 ⟨(some 13), (some (10, true)), 0, true, .bin .leq (T 11) (T 12)⟩,
 D 14 (.pick (T 10) (T 13) (C (.bool false))),
 D 6 (.mv (T 14))])
 .ret)), [.tmp 6]⟩
theorem ac72_ok : compFn Try.prog Try.f72 = some ac72 := by kernel_rfl
/-- winepress/rank.apart -/
def ac73 : AFn := ⟨(.seq (.region [
 D 2 (.box true (T 0)),
 D 3 (.box true (T 1)),
 D 4 (.mv (C (.bool false)))])
 (.seq (.region [
 D 5 (.faddr 1 (T 2)),
 D 6 (.load none (T 5)),
 D 7 (.bin .eql (T 6) (C (.int .i64 0))),
 D 8 (.mv (T 7)),
 ⟨(some 9), (some (8, false)), 0, true, .faddr 1 (T 3)⟩,
 ⟨(some 10), (some (8, false)), 0, true, .load none (T 9)⟩,
 ⟨(some 11), (some (8, false)), 0, true, .bin .eql (T 10) (C (.int .i64 0))⟩,
 D 12 (.pick (T 8) (C (.bool true)) (T 11)),
 D 13 (.mv (T 12)),
 ⟨(some 14), (some (13, false)), 0, true, .faddr 0 (T 2)⟩,
 ⟨(some 15), (some (13, false)), 0, true, .load none (T 14)⟩,
 ⟨(some 16), (some (13, false)), 0, true, .faddr 1 (T 2)⟩,
 ⟨(some 17), (some (13, false)), 0, true, .load none (T 16)⟩,
 ⟨(some 18), (some (13, false)), 0, true, .bin .add (T 15) (T 17)⟩,
 ⟨(some 19), (some (13, false)), 0, true, .faddr 0 (T 3)⟩,
 ⟨(some 20), (some (13, false)), 0, true, .load none (T 19)⟩,
 ⟨(some 21), (some (13, false)), 0, true, .bin .leq (T 18) (T 20)⟩,
 D 22 (.pick (T 13) (C (.bool true)) (T 21)),
 D 23 (.mv (T 22)),
 ⟨(some 24), (some (23, false)), 0, true, .faddr 0 (T 3)⟩,
 ⟨(some 25), (some (23, false)), 0, true, .load none (T 24)⟩,
 ⟨(some 26), (some (23, false)), 0, true, .faddr 1 (T 3)⟩,
 ⟨(some 27), (some (23, false)), 0, true, .load none (T 26)⟩,
 ⟨(some 28), (some (23, false)), 0, true, .bin .add (T 25) (T 27)⟩,
 ⟨(some 29), (some (23, false)), 0, true, .faddr 0 (T 2)⟩,
 ⟨(some 30), (some (23, false)), 0, true, .load none (T 29)⟩,
 ⟨(some 31), (some (23, false)), 0, true, .bin .leq (T 28) (T 30)⟩,
 D 32 (.pick (T 23) (C (.bool true)) (T 31)),
 D 4 (.mv (T 32))])
 .ret)), [.tmp 4]⟩
theorem ac73_ok : compFn Try.prog Try.f73 = some ac73 := by kernel_rfl
/-- a loop of winepress/winepressref20.Count; it keeps [7, 8, 2, 0, 1] -/
def lb74_0 : ACode := (.seq (.seq (.region [
 D 9 (.mv (T 8)),
 D 10 (.mv (T 2)),
 D 11 (.bin .lss (T 9) (T 10)),
 D 12 (.mv (T 11)),
 ⟨(some 13), (some (12, true)), 0, true, .mv (T 8)⟩,
 ⟨(some 14), (some (12, true)), 0, true, .mv (T 0)⟩,
 ⟨(some 15), (some (12, true)), 0, true, .len (T 14)⟩,
 ⟨(some 16), (some (12, true)), 0, true, .bin .lss (T 13) (T 15)⟩,
 D 17 (.pick (T 12) (T 16) (C (.bool false)))])
 (.cond (T 17)
 .skip
 (.exit 0)))
 (.seq (.block 1 (.seq (.region [
 D 20 (.mv (T 0)),
 D 21 (.mv (T 8)),
 D 22 (.iaddr 1 (T 20) (T 21)),
 D 23 (.load none (T 22)),
 D 24 (.mv (T 1)),
 D 25 (.bin .eql (T 23) (T 24))])
 (.cond (T 25)
 (.region [
 D 26 (.mv (T 7)),
 D 27 (.bin .add (T 26) (C (.int .i64 1))),
 D 7 (.mv (T 27))])
 .skip)))
 (.region [
 D 18 (.mv (T 8)),
 D 19 (.bin .add (T 18) (C (.int .i64 1))),
 D 8 (.mv (T 19))])))
/-- winepress/winepressref20.Count -/
def ac74 : AFn := ⟨(.seq (.region [
 D 6 (.mv (C (.int .i64 0)))])
 (.seq (.region [
 D 7 (.mv (C (.int .i64 0)))])
 (.seq (.seq (.region [
 D 8 (.mv (C (.int .i64 0)))])
 (.block 0 (.loop [7, 8, 2, 0, 1] lb74_0)))
 (.seq (.region [
 D 28 (.mv (T 7)),
 D 6 (.mv (T 28))])
 .ret)))), [.tmp 6]⟩
theorem ac74_ok : compFn Try.prog Try.f74 = some ac74 := by kernel_rfl
def env0L : List (Nat × AFn) := [(5, ac5), (11, ac11), (15, ac15), (16, ac16), (17, ac17), (18, ac18), (19, ac19), (20, ac20), (21, ac21), (22, ac22), (23, ac23), (24, ac24), (25, ac25), (26, ac26), (27, ac27), (28, ac28), (29, ac29), (30, ac30), (31, ac31), (32, ac32), (33, ac33), (34, ac34), (35, ac35), (36, ac36), (46, ac46), (47, ac47), (48, ac48), (49, ac49), (50, ac50), (51, ac51), (52, ac52), (53, ac53), (54, ac54), (55, ac55), (56, ac56), (57, ac57), (58, ac58), (59, ac59), (60, ac60), (61, ac61), (62, ac62), (63, ac63), (64, ac64), (65, ac65), (66, ac66), (67, ac67), (68, ac68), (72, ac72), (73, ac73), (74, ac74)]
def env0 : Env := .base env0L
theorem env0_ok : EnvOk Try.prog env0 :=
 EnvOk.cons Try.func5 ac5_ok (of_decide_eq_true (by kernel_rfl)) <|
 EnvOk.cons Try.func11 ac11_ok (of_decide_eq_true (by kernel_rfl)) <|
 EnvOk.cons Try.func15 ac15_ok (of_decide_eq_true (by kernel_rfl)) <|
 EnvOk.cons Try.func16 ac16_ok (of_decide_eq_true (by kernel_rfl)) <|
 EnvOk.cons Try.func17 ac17_ok (of_decide_eq_true (by kernel_rfl)) <|
 EnvOk.cons Try.func18 ac18_ok (of_decide_eq_true (by kernel_rfl)) <|
 EnvOk.cons Try.func19 ac19_ok (of_decide_eq_true (by kernel_rfl)) <|
 EnvOk.cons Try.func20 ac20_ok (of_decide_eq_true (by kernel_rfl)) <|
 EnvOk.cons Try.func21 ac21_ok (of_decide_eq_true (by kernel_rfl)) <|
 EnvOk.cons Try.func22 ac22_ok (of_decide_eq_true (by kernel_rfl)) <|
 EnvOk.cons Try.func23 ac23_ok (of_decide_eq_true (by kernel_rfl)) <|
 EnvOk.cons Try.func24 ac24_ok (of_decide_eq_true (by kernel_rfl)) <|
 EnvOk.cons Try.func25 ac25_ok (of_decide_eq_true (by kernel_rfl)) <|
 EnvOk.cons Try.func26 ac26_ok (of_decide_eq_true (by kernel_rfl)) <|
 EnvOk.cons Try.func27 ac27_ok (of_decide_eq_true (by kernel_rfl)) <|
 EnvOk.cons Try.func28 ac28_ok (of_decide_eq_true (by kernel_rfl)) <|
 EnvOk.cons Try.func29 ac29_ok (of_decide_eq_true (by kernel_rfl)) <|
 EnvOk.cons Try.func30 ac30_ok (of_decide_eq_true (by kernel_rfl)) <|
 EnvOk.cons Try.func31 ac31_ok (of_decide_eq_true (by kernel_rfl)) <|
 EnvOk.cons Try.func32 ac32_ok (of_decide_eq_true (by kernel_rfl)) <|
 EnvOk.cons Try.func33 ac33_ok (of_decide_eq_true (by kernel_rfl)) <|
 EnvOk.cons Try.func34 ac34_ok (of_decide_eq_true (by kernel_rfl)) <|
 EnvOk.cons Try.func35 ac35_ok (of_decide_eq_true (by kernel_rfl)) <|
 EnvOk.cons Try.func36 ac36_ok (of_decide_eq_true (by kernel_rfl)) <|
 EnvOk.cons Try.func46 ac46_ok (of_decide_eq_true (by kernel_rfl)) <|
 EnvOk.cons Try.func47 ac47_ok (of_decide_eq_true (by kernel_rfl)) <|
 EnvOk.cons Try.func48 ac48_ok (of_decide_eq_true (by kernel_rfl)) <|
 EnvOk.cons Try.func49 ac49_ok (of_decide_eq_true (by kernel_rfl)) <|
 EnvOk.cons Try.func50 ac50_ok (of_decide_eq_true (by kernel_rfl)) <|
 EnvOk.cons Try.func51 ac51_ok (of_decide_eq_true (by kernel_rfl)) <|
 EnvOk.cons Try.func52 ac52_ok (of_decide_eq_true (by kernel_rfl)) <|
 EnvOk.cons Try.func53 ac53_ok (of_decide_eq_true (by kernel_rfl)) <|
 EnvOk.cons Try.func54 ac54_ok (of_decide_eq_true (by kernel_rfl)) <|
 EnvOk.cons Try.func55 ac55_ok (of_decide_eq_true (by kernel_rfl)) <|
 EnvOk.cons Try.func56 ac56_ok (of_decide_eq_true (by kernel_rfl)) <|
 EnvOk.cons Try.func57 ac57_ok (of_decide_eq_true (by kernel_rfl)) <|
 EnvOk.cons Try.func58 ac58_ok (of_decide_eq_true (by kernel_rfl)) <|
 EnvOk.cons Try.func59 ac59_ok (of_decide_eq_true (by kernel_rfl)) <|
 EnvOk.cons Try.func60 ac60_ok (of_decide_eq_true (by kernel_rfl)) <|
 EnvOk.cons Try.func61 ac61_ok (of_decide_eq_true (by kernel_rfl)) <|
 EnvOk.cons Try.func62 ac62_ok (of_decide_eq_true (by kernel_rfl)) <|
 EnvOk.cons Try.func63 ac63_ok (of_decide_eq_true (by kernel_rfl)) <|
 EnvOk.cons Try.func64 ac64_ok (of_decide_eq_true (by kernel_rfl)) <|
 EnvOk.cons Try.func65 ac65_ok (of_decide_eq_true (by kernel_rfl)) <|
 EnvOk.cons Try.func66 ac66_ok (of_decide_eq_true (by kernel_rfl)) <|
 EnvOk.cons Try.func67 ac67_ok (of_decide_eq_true (by kernel_rfl)) <|
 EnvOk.cons Try.func68 ac68_ok (of_decide_eq_true (by kernel_rfl)) <|
 EnvOk.cons Try.func72 ac72_ok (of_decide_eq_true (by kernel_rfl)) <|
 EnvOk.cons Try.func73 ac73_ok (of_decide_eq_true (by kernel_rfl)) <|
 EnvOk.cons Try.func74 ac74_ok (of_decide_eq_true (by kernel_rfl)) <|
 EnvOk.nil
theorem mixed : Try.prog.follows .mixedOrders = true := by kernel_rfl
theorem wakes15 : isTrue (run env0 20000 (.func 15) [] ⟨[], 0, [], []⟩) = true := by kernel_rfl
def env : Env := .base ((15, constFn (.bool true)) :: env0L)
theorem env_or : EnvOr Try.prog env :=
 EnvOr.cons Try.func15 (of_decide_eq_true (by kernel_rfl)) (by kernel_rfl) (constTrue_ok env0_ok mixed wakes15) <|
 EnvOr.of env0_ok
theorem fn5 : env.fn 5 = some ac5 := rfl
theorem fn11 : env.fn 11 = some ac11 := rfl
theorem fn15 : env.fn 15 = some (constFn (.bool true)) := rfl
theorem fn16 : env.fn 16 = some ac16 := rfl
theorem fn17 : env.fn 17 = some ac17 := rfl
theorem fn18 : env.fn 18 = some ac18 := rfl
theorem fn19 : env.fn 19 = some ac19 := rfl
theorem fn20 : env.fn 20 = some ac20 := rfl
theorem fn21 : env.fn 21 = some ac21 := rfl
theorem fn22 : env.fn 22 = some ac22 := rfl
theorem fn23 : env.fn 23 = some ac23 := rfl
theorem fn24 : env.fn 24 = some ac24 := rfl
theorem fn25 : env.fn 25 = some ac25 := rfl
theorem fn26 : env.fn 26 = some ac26 := rfl
theorem fn27 : env.fn 27 = some ac27 := rfl
theorem fn28 : env.fn 28 = some ac28 := rfl
theorem fn29 : env.fn 29 = some ac29 := rfl
theorem fn30 : env.fn 30 = some ac30 := rfl
theorem fn31 : env.fn 31 = some ac31 := rfl
theorem fn32 : env.fn 32 = some ac32 := rfl
theorem fn33 : env.fn 33 = some ac33 := rfl
theorem fn34 : env.fn 34 = some ac34 := rfl
theorem fn35 : env.fn 35 = some ac35 := rfl
theorem fn36 : env.fn 36 = some ac36 := rfl
theorem fn46 : env.fn 46 = some ac46 := rfl
theorem fn47 : env.fn 47 = some ac47 := rfl
theorem fn48 : env.fn 48 = some ac48 := rfl
theorem fn49 : env.fn 49 = some ac49 := rfl
theorem fn50 : env.fn 50 = some ac50 := rfl
theorem fn51 : env.fn 51 = some ac51 := rfl
theorem fn52 : env.fn 52 = some ac52 := rfl
theorem fn53 : env.fn 53 = some ac53 := rfl
theorem fn54 : env.fn 54 = some ac54 := rfl
theorem fn55 : env.fn 55 = some ac55 := rfl
theorem fn56 : env.fn 56 = some ac56 := rfl
theorem fn57 : env.fn 57 = some ac57 := rfl
theorem fn58 : env.fn 58 = some ac58 := rfl
theorem fn59 : env.fn 59 = some ac59 := rfl
theorem fn60 : env.fn 60 = some ac60 := rfl
theorem fn61 : env.fn 61 = some ac61 := rfl
theorem fn62 : env.fn 62 = some ac62 := rfl
theorem fn63 : env.fn 63 = some ac63 := rfl
theorem fn64 : env.fn 64 = some ac64 := rfl
theorem fn65 : env.fn 65 = some ac65 := rfl
theorem fn66 : env.fn 66 = some ac66 := rfl
theorem fn67 : env.fn 67 = some ac67 := rfl
theorem fn68 : env.fn 68 = some ac68 := rfl
theorem fn72 : env.fn 72 = some ac72 := rfl
theorem fn73 : env.fn 73 = some ac73 := rfl
theorem fn74 : env.fn 74 = some ac74 := rfl
end ArEnv
end Go.Proofs.Ytfefeikkjebfoaa
