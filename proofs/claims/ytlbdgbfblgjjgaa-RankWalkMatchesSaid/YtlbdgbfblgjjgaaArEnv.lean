/-
 THE TRANSLATED FUNCTIONS, printed by a program, and that they are the program's functions. Conditions: none.
-/
import Derived.Test.YtlbdgbfblgjjgaaProg
import Derived.Test.YtlbdgbfblgjjgaaAOr
import Derived.KernelRfl
namespace Go.Proofs.Ytlbdgbfblgjjgaa
namespace ArEnv
open Go AM
abbrev T (n : Nat) : Operand := .tmp n
abbrev C (v : Value) : Operand := .const v
abbrev D (d : Nat) (o : AOp) : AOper := ⟨some d, none, 0, true, o⟩
abbrev E (o : AOp) : AOper := ⟨none, none, 0, true, o⟩
/-- a loop of winepress/winepresslaw21.RankWalkBack; it keeps [0, 10, 1, 12, 13] -/
def lb6_0 : ACode := (.seq (.seq (.region [
 D 74 (.mv (T 13)),
 D 75 (.bin .geq (T 74) (C (.int .i64 0)))])
 (.cond (T 75)
 .skip
 (.exit 0)))
 (.seq (.block 1 (.seq (.region [
 D 79 (.mv (T 10)),
 D 80 (.call 37 [(T 79)]),
 D 78 (.mv (T 80)),
 D 81 (.ext (T 78) 0),
 D 82 (.ext (T 78) 1),
 D 14 (.mv (T 81)),
 D 15 (.mv (T 82))])
 (.seq (.region [
 D 83 (.mv (T 15)),
 D 84 (.un .not (T 83)),
 D 85 (.mv (T 84)),
 ⟨(some 86), (some (85, false)), 0, true, .mv (T 14)⟩,
 ⟨(some 87), (some (85, false)), 0, true, .mv (T 0)⟩,
 ⟨(some 88), (some (85, false)), 0, true, .mv (T 13)⟩,
 ⟨(some 89), (some (85, false)), 0, true, .iaddr 1 (T 87) (T 88)⟩,
 ⟨(some 90), (some (85, false)), 0, true, .load none (T 89)⟩,
 ⟨(some 91), (some (85, false)), 0, true, .bin .neq (T 86) (T 90)⟩,
 D 92 (.pick (T 85) (C (.bool true)) (T 91))])
 (.cond (T 92)
 (.seq (.region [
 D 4 (.mv (C (.bool false)))])
 .ret)
 .skip))))
 (.region [
 D 76 (.mv (T 13)),
 D 77 (.bin .sub (T 76) (C (.int .i64 1))),
 D 13 (.mv (T 77))])))
/-- winepress/winepresslaw21.RankWalkBack -/
def ac6 : AFn := ⟨(.seq (.region [
 D 4 (.mv (C (.bool false)))])
 (.seq (.seq (.region [
 D 18 (.mv (T 0)),
 D 19 (.len (T 18)),
 D 20 (.bin .eql (T 19) (C (.int .i64 0))),
 D 21 (.mv (T 20)),
 ⟨(some 22), (some (21, false)), 0, true, .mv (T 0)⟩,
 ⟨(some 23), (some (21, false)), 0, true, .len (T 22)⟩,
 ⟨(some 24), (some (21, false)), 0, true, .bin .gtr (T 23) (C (.int .i64 80))⟩,
 D 25 (.pick (T 21) (C (.bool true)) (T 24)),
 D 26 (.mv (T 25)),
 ⟨(some 27), (some (26, false)), 0, true, .mv (T 1)⟩,
 ⟨(some 28), (some (26, false)), 0, true, .bin .lss (T 27) (C (.int .i64 1))⟩,
 D 29 (.pick (T 26) (C (.bool true)) (T 28)),
 D 30 (.mv (T 29)),
 ⟨(some 31), (some (30, false)), 0, true, .mv (T 1)⟩,
 ⟨(some 32), (some (30, false)), 0, true, .bin .gtr (T 31) (C (.int .i64 100))⟩,
 D 33 (.pick (T 30) (C (.bool true)) (T 32))])
 (.cond (T 33)
 (.seq (.region [
 D 34 (.call 32 []),
 D 4 (.mv (T 34))])
 .ret)
 .skip))
 (.seq (.region [
 D 36 (.mv (T 0)),
 D 37 (.call 24 [(T 36)]),
 D 35 (.mv (T 37)),
 D 38 (.ext (T 35) 0),
 D 39 (.ext (T 35) 1),
 D 5 (.mv (T 38)),
 D 6 (.mv (T 39))])
 (.seq (.region [
 D 41 (.mv (T 5)),
 D 42 (.mv (T 1)),
 D 43 (.call 33 [(T 41), (T 42), (C (.int .i64 1))]),
 D 40 (.mv (T 43)),
 D 44 (.ext (T 40) 0),
 D 45 (.ext (T 40) 1),
 D 46 (.ext (T 40) 2),
 D 8 (.alloc true [(.int .i64 0), (.int .i64 0)]),
 D 9 (.alloc true [(.int .i64 0), (.int .i64 0)]),
 D 7 (.mv (T 44)),
 E (.store 2 (T 8) (T 45)),
 E (.store 2 (T 9) (T 46))])
 (.seq (.seq (.region [
 D 47 (.mv (T 7)),
 D 48 (.eqs false .ptr (T 47) (C (.pointer none)))])
 (.cond (T 48)
 (.seq (.region [
 D 4 (.mv (C (.bool false)))])
 .ret)
 .skip))
 (.seq (.region [
 D 50 (.mv (T 7)),
 D 51 (.load (some 2) (T 8)),
 D 52 (.mv (T 6)),
 D 53 (.load (some 2) (T 9)),
 D 54 (.mv (T 1)),
 D 55 (.call 34 [(T 50), (T 51), (T 52), (T 53), (T 54)]),
 D 49 (.mv (T 55)),
 D 56 (.ext (T 49) 0),
 D 57 (.ext (T 49) 1),
 D 10 (.mv (T 56)),
 D 11 (.mv (T 57))])
 (.seq (.seq (.region [
 D 58 (.mv (T 11)),
 D 59 (.bin .neq (T 58) (C (.int .i64 0))),
 D 60 (.mv (T 59)),
 ⟨(some 61), (some (60, false)), 0, true, .mv (T 10)⟩,
 ⟨(some 62), (some (60, false)), 0, true, .eqs false .ptr (T 61) (C (.pointer none))⟩,
 D 63 (.pick (T 60) (C (.bool true)) (T 62)),
 D 64 (.mv (T 63)),
 ⟨(some 65), (some (64, false)), 0, true, .mv (T 10)⟩,
 ⟨(some 66), (some (64, false)), 0, true, .call 35 [(T 65)]⟩,
 ⟨(some 67), (some (64, false)), 0, true, .un .not (T 66)⟩,
 D 68 (.pick (T 64) (C (.bool true)) (T 67))])
 (.cond (T 68)
 (.seq (.region [
 D 4 (.mv (C (.bool false)))])
 .ret)
 .skip))
 (.seq (.region [
 D 69 (.mv (T 10)),
 D 70 (.call 36 [(T 69)]),
 D 12 (.mv (T 70))])
 (.seq (.seq (.region [
 D 71 (.mv (T 0)),
 D 72 (.len (T 71)),
 D 73 (.bin .sub (T 72) (C (.int .i64 1))),
 D 13 (.mv (T 73))])
 (.block 0 (.loop [0, 10, 1, 12, 13] lb6_0)))
 (.seq (.region [
 D 94 (.mv (T 10)),
 D 95 (.call 37 [(T 94)]),
 D 93 (.mv (T 95)),
 D 96 (.ext (T 93) 0),
 D 97 (.ext (T 93) 1),
 D 16 (.mv (T 96)),
 D 17 (.mv (T 97))])
 (.seq (.region [
 D 98 (.mv (T 17)),
 D 99 (.un .not (T 98)),
 D 100 (.mv (T 99)),
 ⟨(some 101), (some (100, true)), 0, true, .mv (T 12)⟩,
 ⟨(some 102), (some (100, true)), 0, true, .mv (T 0)⟩,
 ⟨(some 103), (some (100, true)), 0, true, .len (T 102)⟩,
 ⟨(some 104), (some (100, true)), 0, true, .bin .geq (T 101) (T 103)⟩,
 D 105 (.pick (T 100) (T 104) (C (.bool false))),
 D 106 (.mv (T 105)),
 ⟨(some 107), (some (106, true)), 0, true, .mv (T 12)⟩,
 ⟨(some 108), (some (106, true)), 0, true, .mv (T 0)⟩,
 ⟨(some 109), (some (106, true)), 0, true, .len (T 108)⟩,
 ⟨(some 110), (some (106, true)), 0, true, .mv (T 1)⟩,
 ⟨(some 111), (some (106, true)), 0, true, .bin .mul (T 109) (T 110)⟩,
 ⟨(some 112), (some (106, true)), 0, true, .bin .leq (T 107) (T 111)⟩,
 D 113 (.pick (T 106) (T 112) (C (.bool false))),
 D 114 (.mv (T 113)),
 ⟨(some 115), (some (114, true)), 0, true, .mv (T 10)⟩,
 ⟨(some 116), (some (114, true)), 0, true, .call 36 [(T 115)]⟩,
 ⟨(some 117), (some (114, true)), 0, true, .mv (T 12)⟩,
 ⟨(some 118), (some (114, true)), 0, true, .bin .mul (C (.int .i64 2)) (T 117)⟩,
 ⟨(some 119), (some (114, true)), 0, true, .bin .eql (T 116) (T 118)⟩,
 D 120 (.pick (T 114) (T 119) (C (.bool false))),
 D 121 (.mv (T 120)),
 ⟨(some 122), (some (121, true)), 0, true, .call 32 []⟩,
 D 123 (.pick (T 121) (T 122) (C (.bool false))),
 D 4 (.mv (T 123))])
 .ret))))))))))), [.tmp 4]⟩
theorem ac6_ok : compFn Try.prog Try.f6 = some ac6 := by kernel_rfl
/-- a loop of winepress/winepresslaw21.RankWalkRight; it keeps [13, 10, 1, 0, 12] -/
def lb7_0 : ACode := (.seq (.seq (.region [
 D 80 (.mv (T 12)),
 D 81 (.mv (T 0)),
 D 82 (.len (T 81)),
 D 83 (.bin .lss (T 80) (T 82)),
 D 84 (.mv (T 83)),
 ⟨(some 85), (some (84, true)), 0, true, .mv (T 13)⟩,
 ⟨(some 86), (some (84, true)), 0, true, .mv (T 1)⟩,
 ⟨(some 87), (some (84, true)), 0, true, .bin .neq (T 85) (T 86)⟩,
 D 88 (.pick (T 84) (T 87) (C (.bool false)))])
 (.cond (T 88)
 .skip
 (.exit 0)))
 (.block 1 (.seq (.region [
 D 90 (.mv (T 0)),
 D 91 (.mv (T 1)),
 D 92 (.mv (T 13)),
 D 93 (.call 31 [(T 90), (T 91), (T 92)]),
 D 89 (.mv (T 93)),
 D 94 (.ext (T 89) 0),
 D 95 (.ext (T 89) 1),
 D 96 (.ext (T 89) 2),
 D 14 (.mv (T 94)),
 D 15 (.mv (T 95)),
 D 16 (.mv (T 96))])
 (.seq (.region [
 D 98 (.mv (T 10)),
 D 99 (.call 37 [(T 98)]),
 D 97 (.mv (T 99)),
 D 100 (.ext (T 97) 0),
 D 101 (.ext (T 97) 1),
 D 17 (.mv (T 100)),
 D 18 (.mv (T 101))])
 (.seq (.seq (.region [
 D 102 (.mv (T 18)),
 D 103 (.un .not (T 102)),
 D 104 (.mv (T 103)),
 ⟨(some 105), (some (104, false)), 0, true, .mv (T 15)⟩,
 ⟨(some 106), (some (104, false)), 0, true, .mv (T 17)⟩,
 ⟨(some 107), (some (104, false)), 0, true, .bin .neq (T 105) (T 106)⟩,
 D 108 (.pick (T 104) (C (.bool true)) (T 107))])
 (.cond (T 108)
 (.seq (.region [
 D 6 (.mv (C (.bool false)))])
 .ret)
 .skip))
 (.seq (.region [
 D 109 (.mv (T 14)),
 D 13 (.mv (T 109))])
 (.region [
 D 110 (.mv (T 12)),
 D 111 (.bin .add (T 110) (C (.int .i64 1))),
 D 12 (.mv (T 111))])))))))
/-- winepress/winepresslaw21.RankWalkRight -/
def ac7 : AFn := ⟨(.seq (.region [
 D 6 (.mv (C (.bool false)))])
 (.seq (.seq (.region [
 D 21 (.mv (T 0)),
 D 22 (.len (T 21)),
 D 23 (.bin .eql (T 22) (C (.int .i64 0))),
 D 24 (.mv (T 23)),
 ⟨(some 25), (some (24, false)), 0, true, .mv (T 0)⟩,
 ⟨(some 26), (some (24, false)), 0, true, .len (T 25)⟩,
 ⟨(some 27), (some (24, false)), 0, true, .bin .gtr (T 26) (C (.int .i64 60))⟩,
 D 28 (.pick (T 24) (C (.bool true)) (T 27)),
 D 29 (.mv (T 28)),
 ⟨(some 30), (some (29, false)), 0, true, .mv (T 1)⟩,
 ⟨(some 31), (some (29, false)), 0, true, .bin .lss (T 30) (C (.int .i64 1))⟩,
 D 32 (.pick (T 29) (C (.bool true)) (T 31)),
 D 33 (.mv (T 32)),
 ⟨(some 34), (some (33, false)), 0, true, .mv (T 1)⟩,
 ⟨(some 35), (some (33, false)), 0, true, .mv (T 0)⟩,
 ⟨(some 36), (some (33, false)), 0, true, .len (T 35)⟩,
 ⟨(some 37), (some (33, false)), 0, true, .bin .gtr (T 34) (T 36)⟩,
 D 38 (.pick (T 33) (C (.bool true)) (T 37)),
 D 39 (.mv (T 38)),
 ⟨(some 40), (some (39, false)), 0, true, .mv (T 2)⟩,
 ⟨(some 41), (some (39, false)), 0, true, .bin .lss (T 40) (C (.int .i64 1))⟩,
 D 42 (.pick (T 39) (C (.bool true)) (T 41)),
 D 43 (.mv (T 42)),
 ⟨(some 44), (some (43, false)), 0, true, .mv (T 2)⟩,
 ⟨(some 45), (some (43, false)), 0, true, .bin .gtr (T 44) (C (.int .i64 100))⟩,
 D 46 (.pick (T 43) (C (.bool true)) (T 45))])
 (.cond (T 46)
 (.seq (.region [
 D 47 (.call 32 []),
 D 6 (.mv (T 47))])
 .ret)
 .skip))
 (.seq (.region [
 D 49 (.mv (T 0)),
 D 50 (.mv (T 2)),
 D 51 (.call 33 [(T 49), (T 50), (C (.int .i64 1))]),
 D 48 (.mv (T 51)),
 D 52 (.ext (T 48) 0),
 D 53 (.ext (T 48) 1),
 D 54 (.ext (T 48) 2),
 D 8 (.alloc true [(.int .i64 0), (.int .i64 0)]),
 D 9 (.alloc true [(.int .i64 0), (.int .i64 0)]),
 D 7 (.mv (T 52)),
 E (.store 2 (T 8) (T 53)),
 E (.store 2 (T 9) (T 54))])
 (.seq (.seq (.region [
 D 55 (.mv (T 7)),
 D 56 (.eqs false .ptr (T 55) (C (.pointer none)))])
 (.cond (T 56)
 (.seq (.region [
 D 6 (.mv (C (.bool false)))])
 .ret)
 .skip))
 (.seq (.region [
 D 58 (.mv (T 7)),
 D 59 (.load (some 2) (T 8)),
 D 60 (.mv (T 1)),
 D 61 (.load (some 2) (T 9)),
 D 62 (.mv (T 2)),
 D 63 (.call 34 [(T 58), (T 59), (T 60), (T 61), (T 62)]),
 D 57 (.mv (T 63)),
 D 64 (.ext (T 57) 0),
 D 65 (.ext (T 57) 1),
 D 10 (.mv (T 64)),
 D 11 (.mv (T 65))])
 (.seq (.seq (.region [
 D 66 (.mv (T 11)),
 D 67 (.bin .neq (T 66) (C (.int .i64 0))),
 D 68 (.mv (T 67)),
 ⟨(some 69), (some (68, false)), 0, true, .mv (T 10)⟩,
 ⟨(some 70), (some (68, false)), 0, true, .eqs false .ptr (T 69) (C (.pointer none))⟩,
 D 71 (.pick (T 68) (C (.bool true)) (T 70)),
 D 72 (.mv (T 71)),
 ⟨(some 73), (some (72, false)), 0, true, .mv (T 10)⟩,
 ⟨(some 74), (some (72, false)), 0, true, .call 35 [(T 73)]⟩,
 ⟨(some 75), (some (72, false)), 0, true, .mv (T 0)⟩,
 ⟨(some 76), (some (72, false)), 0, true, .mv (T 1)⟩,
 ⟨(some 77), (some (72, false)), 0, true, .call 30 [(T 75), (T 76)]⟩,
 ⟨(some 78), (some (72, false)), 0, true, .eqs true .bool (T 74) (T 77)⟩,
 D 79 (.pick (T 72) (C (.bool true)) (T 78))])
 (.cond (T 79)
 (.seq (.region [
 D 6 (.mv (C (.bool false)))])
 .ret)
 .skip))
 (.seq (.region [
 D 12 (.mv (C (.int .i64 0))),
 D 13 (.mv (C (.int .i64 0)))])
 (.seq (.block 0 (.loop [13, 10, 1, 0, 12] lb7_0))
 (.seq (.region [
 D 113 (.mv (T 10)),
 D 114 (.call 37 [(T 113)]),
 D 112 (.mv (T 114)),
 D 115 (.ext (T 112) 0),
 D 116 (.ext (T 112) 1),
 D 19 (.mv (T 115)),
 D 20 (.mv (T 116))])
 (.seq (.region [
 D 117 (.mv (T 20)),
 D 118 (.un .not (T 117)),
 D 119 (.mv (T 118)),
 ⟨(some 120), (some (119, true)), 0, true, .mv (T 10)⟩,
 ⟨(some 121), (some (119, true)), 0, true, .call 38 [(T 120)]⟩,
 ⟨(some 122), (some (119, true)), 0, true, .mv (T 12)⟩,
 ⟨(some 123), (some (119, true)), 0, true, .bin .eql (T 121) (T 122)⟩,
 D 124 (.pick (T 119) (T 123) (C (.bool false))),
 D 125 (.mv (T 124)),
 ⟨(some 126), (some (125, true)), 0, true, .call 32 []⟩,
 D 127 (.pick (T 125) (T 126) (C (.bool false))),
 D 6 (.mv (T 127))])
 .ret)))))))))), [.tmp 6]⟩
theorem ac7_ok : compFn Try.prog Try.f7 = some ac7 := by kernel_rfl
/-- winepress/winepresslaw21.RankWalkBad -/
def ac8 : AFn := ⟨(.seq (.region [
 D 8 (.mv (C (.bool false)))])
 (.seq (.seq (.region [
 D 18 (.mv (T 0)),
 D 19 (.len (T 18)),
 D 20 (.bin .eql (T 19) (C (.int .i64 0))),
 D 21 (.mv (T 20)),
 ⟨(some 22), (some (21, false)), 0, true, .mv (T 0)⟩,
 ⟨(some 23), (some (21, false)), 0, true, .len (T 22)⟩,
 ⟨(some 24), (some (21, false)), 0, true, .bin .gtr (T 23) (C (.int .i64 60))⟩,
 D 25 (.pick (T 21) (C (.bool true)) (T 24)),
 D 26 (.mv (T 25)),
 ⟨(some 27), (some (26, false)), 0, true, .mv (T 1)⟩,
 ⟨(some 28), (some (26, false)), 0, true, .bin .lss (T 27) (C (.int .i64 0))⟩,
 D 29 (.pick (T 26) (C (.bool true)) (T 28)),
 D 30 (.mv (T 29)),
 ⟨(some 31), (some (30, false)), 0, true, .mv (T 3)⟩,
 ⟨(some 32), (some (30, false)), 0, true, .bin .gtr (T 31) (C (.int .i64 100))⟩,
 D 33 (.pick (T 30) (C (.bool true)) (T 32))])
 (.cond (T 33)
 (.seq (.region [
 D 34 (.call 32 []),
 D 8 (.mv (T 34))])
 .ret)
 .skip))
 (.seq (.region [
 D 36 (.mv (T 0)),
 D 37 (.mv (T 3)),
 D 38 (.call 33 [(T 36), (T 37), (C (.int .i64 10))]),
 D 35 (.mv (T 38)),
 D 39 (.ext (T 35) 0),
 D 40 (.ext (T 35) 1),
 D 41 (.ext (T 35) 2),
 D 10 (.alloc true [(.int .i64 0), (.int .i64 0)]),
 D 11 (.alloc true [(.int .i64 0), (.int .i64 0)]),
 D 9 (.mv (T 39)),
 E (.store 2 (T 10) (T 40)),
 E (.store 2 (T 11) (T 41))])
 (.seq (.seq (.region [
 D 42 (.mv (T 9)),
 D 43 (.eqs false .ptr (T 42) (C (.pointer none)))])
 (.cond (T 43)
 (.seq (.region [
 D 8 (.mv (C (.bool false)))])
 .ret)
 .skip))
 (.seq (.region [
 D 44 (.mv (T 3)),
 D 45 (.bin .geq (T 44) (C (.int .i64 1))),
 D 46 (.mv (T 45)),
 ⟨(some 47), (some (46, true)), 0, true, .mv (T 1)⟩,
 ⟨(some 48), (some (46, true)), 0, true, .bin .eql (T 47) (C (.int .i64 0))⟩,
 D 49 (.pick (T 46) (T 48) (C (.bool false))),
 D 12 (.mv (T 49))])
 (.seq (.region [
 D 50 (.faddr 1 (T 11)),
 D 51 (.load none (T 50)),
 D 52 (.mv (T 1)),
 D 53 (.bin .sub (T 51) (T 52)),
 D 54 (.faddr 1 (T 11)),
 E (.store 1 (T 54) (T 53))])
 (.seq (.region [
 D 56 (.mv (T 9)),
 D 57 (.load (some 2) (T 10)),
 D 58 (.mv (T 2)),
 D 59 (.load (some 2) (T 11)),
 D 60 (.mv (T 3)),
 D 61 (.call 34 [(T 56), (T 57), (T 58), (T 59), (T 60)]),
 D 55 (.mv (T 61)),
 D 62 (.ext (T 55) 0),
 D 63 (.ext (T 55) 1),
 D 13 (.mv (T 62)),
 D 14 (.mv (T 63))])
 (.seq (.region [
 D 65 (.mv (T 9)),
 D 66 (.faddr 0 (T 10)),
 D 67 (.load none (T 66)),
 D 68 (.build [(.int .i64 0), (.int .i64 0)] [(0, 1, (T 67))]),
 D 69 (.mv (T 2)),
 D 70 (.load (some 2) (T 11)),
 D 71 (.mv (T 3)),
 D 72 (.call 34 [(T 65), (T 68), (T 69), (T 70), (T 71)]),
 D 64 (.mv (T 72)),
 D 73 (.ext (T 64) 0),
 D 74 (.ext (T 64) 1),
 D 15 (.mv (T 73)),
 D 16 (.mv (T 74))])
 (.seq (.region [
 D 17 (.mv (C (.int .i64 0)))])
 (.seq (.seq (.region [
 D 75 (.mv (T 12)),
 D 76 (.un .not (T 75))])
 (.cond (T 76)
 (.region [
 D 17 (.mv (C (.int .i64 2)))])
 (.seq (.region [
 D 77 (.mv (T 2)),
 D 78 (.bin .lss (T 77) (C (.int .i64 1))),
 D 79 (.mv (T 78)),
 ⟨(some 80), (some (79, false)), 0, true, .mv (T 2)⟩,
 ⟨(some 81), (some (79, false)), 0, true, .mv (T 0)⟩,
 ⟨(some 82), (some (79, false)), 0, true, .len (T 81)⟩,
 ⟨(some 83), (some (79, false)), 0, true, .bin .gtr (T 80) (T 82)⟩,
 D 84 (.pick (T 79) (C (.bool true)) (T 83))])
 (.cond (T 84)
 (.region [
 D 17 (.mv (C (.int .i64 170)))])
 .skip))))
 (.seq (.drawn [
 ⟨(some 85), none, 0, false, .mv (T 14)⟩,
 ⟨(some 86), none, 0, false, .mv (T 17)⟩,
 ⟨(some 87), none, 3, false, .bin .eql (T 85) (T 86)⟩,
 ⟨(some 88), none, 7, false, .mv (T 87)⟩,
 ⟨(some 89), (some (88, true)), 15, false, .mv (T 13)⟩,
 ⟨(some 90), (some (88, true)), 31, false, .eqs true .ptr (T 89) (C (.pointer none))⟩,
 ⟨(some 91), (some (88, true)), 15, false, .mv (T 14)⟩,
 ⟨(some 92), (some (88, true)), 79, false, .bin .eql (T 91) (C (.int .i64 0))⟩,
 ⟨(some 93), (some (88, true)), 255, false, .eqs false .bool (T 90) (T 92)⟩,
 ⟨(some 94), none, 511, false, .pick (T 88) (T 93) (C (.bool false))⟩,
 ⟨(some 95), none, 1023, false, .mv (T 94)⟩,
 ⟨(some 96), (some (95, true)), 2047, false, .mv (T 15)⟩,
 ⟨(some 97), (some (95, true)), 4095, false, .eqs false .ptr (T 96) (C (.pointer none))⟩,
 ⟨(some 98), none, 8191, false, .pick (T 95) (T 97) (C (.bool false))⟩,
 ⟨(some 99), none, 16383, false, .mv (T 98)⟩,
 ⟨(some 100), (some (99, true)), 32767, false, .mv (T 16)⟩,
 ⟨(some 101), (some (99, true)), 65535, false, .bin .eql (T 100) (C (.int .i64 2))⟩,
 ⟨(some 102), none, 131071, false, .pick (T 99) (T 101) (C (.bool false))⟩,
 ⟨(some 103), none, 262143, false, .mv (T 102)⟩,
 ⟨(some 104), (some (103, true)), 524287, false, .mv (T 9)⟩,
 ⟨(some 105), (some (103, true)), 524287, false, .load (some 2) (T 10)⟩,
 ⟨(some 106), (some (103, true)), 2097151, false, .call 20 [(T 104), (T 105)]⟩,
 ⟨(some 107), (some (103, true)), 4194303, false, .bstr (T 106)⟩,
 ⟨(some 108), (some (103, true)), 524287, false, .mv (T 0)⟩,
 ⟨(some 109), (some (103, true)), 8912895, false, .bstr (T 108)⟩,
 ⟨(some 110), (some (103, true)), 33554431, false, .bin .eql (T 107) (T 109)⟩,
 ⟨(some 111), none, 67108863, false, .pick (T 103) (T 110) (C (.bool false))⟩,
 ⟨(some 112), none, 134217727, false, .mv (T 111)⟩,
 ⟨(some 113), (some (112, true)), 268435455, true, .call 32 []⟩,
 ⟨(some 114), none, 536870911, false, .pick (T 112) (T 113) (C (.bool false))⟩,
 ⟨(some 8), none, 1073741823, false, .mv (T 114)⟩])
 .ret))))))))))), [.tmp 8]⟩
theorem ac8_ok : compFn Try.prog Try.f8 = some ac8 := by kernel_rfl
/-- a loop of winepress/winepresslaw21.RankWalkMatches; it keeps [14, 12, 3, 10, 9, 0, 2, 15] -/
def lb9_0 : ACode := (.seq (.seq (.region [
 D 89 (.mv (T 15)),
 D 90 (.mv (T 3)),
 D 91 (.len (T 90)),
 D 92 (.bin .lss (T 89) (T 91))])
 (.cond (T 92)
 .skip
 (.exit 0)))
 (.seq (.block 1 (.seq (.region [
 D 16 (.mv (C (.bool true)))])
 (.seq (.seq (.region [
 D 95 (.mv (T 3)),
 D 96 (.mv (T 15)),
 D 97 (.iaddr 1 (T 95) (T 96)),
 D 98 (.load none (T 97))])
 (.block 2 (.seq (.region [
 D 108 (.bin .eql (T 98) (C (.int .i64 0))),
 D 107 (.mv (T 108))])
 (.cond (T 107)
 (.seq (.region [
 D 110 (.mv (T 12)),
 D 111 (.call 37 [(T 110)]),
 D 109 (.mv (T 111)),
 D 112 (.ext (T 109) 0),
 D 113 (.ext (T 109) 1),
 D 17 (.mv (T 112)),
 D 18 (.mv (T 113))])
 (.seq (.region [
 D 115 (.mv (T 14)),
 D 116 (.call 39 [(T 115)]),
 D 114 (.mv (T 116)),
 D 117 (.ext (T 114) 0),
 D 118 (.ext (T 114) 1),
 D 19 (.mv (T 117)),
 D 20 (.mv (T 118))])
 (.region [
 D 119 (.mv (T 17)),
 D 120 (.mv (T 19)),
 D 121 (.bin .eql (T 119) (T 120)),
 D 122 (.mv (T 121)),
 ⟨(some 123), (some (122, true)), 0, true, .mv (T 18)⟩,
 ⟨(some 124), (some (122, true)), 0, true, .mv (T 20)⟩,
 ⟨(some 125), (some (122, true)), 0, true, .eqs false .bool (T 123) (T 124)⟩,
 D 126 (.pick (T 122) (T 125) (C (.bool false))),
 D 16 (.mv (T 126))])))
 (.seq (.region [
 D 128 (.bin .eql (T 98) (C (.int .i64 1))),
 D 127 (.mv (T 128))])
 (.cond (T 127)
 (.region [
 D 129 (.mv (T 12)),
 D 130 (.call 35 [(T 129)]),
 D 131 (.mv (T 14)),
 D 132 (.call 40 [(T 131)]),
 D 133 (.eqs false .bool (T 130) (T 132)),
 D 16 (.mv (T 133))])
 (.seq (.region [
 D 99 (.mv (T 12)),
 D 100 (.call 41 [(T 99)])])
 (.region [
 D 101 (.mv (T 14)),
 D 102 (.mv (T 14)),
 D 103 (.nilck (T 101)),
 D 104 (.faddr 3 (T 103)),
 E (.store 1 (T 104) (C (.int .i64 0))),
 D 105 (.nilck (T 102)),
 D 106 (.faddr 4 (T 105)),
 E (.store 1 (T 106) (C (.int .i64 0)))]))))))))
 (.seq (.drawn [
 ⟨(some 134), none, 0, false, .mv (T 16)⟩,
 ⟨(some 135), none, 1, false, .un .not (T 134)⟩,
 ⟨(some 136), none, 3, false, .mv (T 135)⟩,
 ⟨(some 137), (some (136, false)), 7, false, .mv (T 12)⟩,
 ⟨(some 138), (some (136, false)), 15, false, .call 36 [(T 137)]⟩,
 ⟨(some 139), (some (136, false)), 7, false, .mv (T 14)⟩,
 ⟨(some 140), (some (136, false)), 39, false, .nilck (T 139)⟩,
 ⟨(some 141), (some (136, false)), 103, false, .faddr 5 (T 140)⟩,
 ⟨(some 142), (some (136, false)), 231, false, .load none (T 141)⟩,
 ⟨(some 143), (some (136, false)), 511, false, .bin .neq (T 138) (T 142)⟩,
 ⟨(some 144), none, 1023, false, .pick (T 136) (C (.bool true)) (T 143)⟩,
 ⟨(some 145), none, 2047, false, .mv (T 144)⟩,
 ⟨(some 146), (some (145, false)), 4095, false, .mv (T 12)⟩,
 ⟨(some 147), (some (145, false)), 8191, false, .call 38 [(T 146)]⟩,
 ⟨(some 148), (some (145, false)), 4095, false, .mv (T 14)⟩,
 ⟨(some 149), (some (145, false)), 20479, false, .nilck (T 148)⟩,
 ⟨(some 150), (some (145, false)), 53247, false, .faddr 4 (T 149)⟩,
 ⟨(some 151), (some (145, false)), 118783, false, .load none (T 150)⟩,
 ⟨(some 152), (some (145, false)), 262143, false, .bin .neq (T 147) (T 151)⟩,
 ⟨(some 153), none, 524287, false, .pick (T 145) (C (.bool true)) (T 152)⟩])
 (.cond (T 153)
 (.seq (.region [
 D 8 (.mv (C (.bool false)))])
 .ret)
 .skip)))))
 (.region [
 D 93 (.mv (T 15)),
 D 94 (.bin .add (T 93) (C (.int .i64 1))),
 D 15 (.mv (T 94))])))
/-- winepress/winepresslaw21.RankWalkMatches -/
def ac9 : AFn := ⟨(.seq (.region [
 D 8 (.mv (C (.bool false)))])
 (.seq (.seq (.region [
 D 21 (.mv (T 0)),
 D 22 (.len (T 21)),
 D 23 (.bin .eql (T 22) (C (.int .i64 0))),
 D 24 (.mv (T 23)),
 ⟨(some 25), (some (24, false)), 0, true, .mv (T 0)⟩,
 ⟨(some 26), (some (24, false)), 0, true, .len (T 25)⟩,
 ⟨(some 27), (some (24, false)), 0, true, .bin .gtr (T 26) (C (.int .i64 60))⟩,
 D 28 (.pick (T 24) (C (.bool true)) (T 27)),
 D 29 (.mv (T 28)),
 ⟨(some 30), (some (29, false)), 0, true, .mv (T 2)⟩,
 ⟨(some 31), (some (29, false)), 0, true, .bin .lss (T 30) (C (.int .i64 1))⟩,
 D 32 (.pick (T 29) (C (.bool true)) (T 31)),
 D 33 (.mv (T 32)),
 ⟨(some 34), (some (33, false)), 0, true, .mv (T 2)⟩,
 ⟨(some 35), (some (33, false)), 0, true, .bin .gtr (T 34) (C (.int .i64 100))⟩,
 D 36 (.pick (T 33) (C (.bool true)) (T 35)),
 D 37 (.mv (T 36)),
 ⟨(some 38), (some (37, false)), 0, true, .mv (T 3)⟩,
 ⟨(some 39), (some (37, false)), 0, true, .len (T 38)⟩,
 ⟨(some 40), (some (37, false)), 0, true, .bin .gtr (T 39) (C (.int .i64 100))⟩,
 D 41 (.pick (T 37) (C (.bool true)) (T 40))])
 (.cond (T 41)
 (.seq (.region [
 D 42 (.call 32 []),
 D 8 (.mv (T 42))])
 .ret)
 .skip))
 (.seq (.region [
 D 44 (.mv (T 0)),
 D 45 (.mv (T 2)),
 D 46 (.call 33 [(T 44), (T 45), (C (.int .i64 1))]),
 D 43 (.mv (T 46)),
 D 47 (.ext (T 43) 0),
 D 48 (.ext (T 43) 1),
 D 49 (.ext (T 43) 2),
 D 10 (.alloc true [(.int .i64 0), (.int .i64 0)]),
 D 11 (.alloc true [(.int .i64 0), (.int .i64 0)]),
 D 9 (.mv (T 47)),
 E (.store 2 (T 10) (T 48)),
 E (.store 2 (T 11) (T 49))])
 (.seq (.seq (.region [
 D 50 (.mv (T 9)),
 D 51 (.eqs false .ptr (T 50) (C (.pointer none)))])
 (.cond (T 51)
 (.seq (.region [
 D 8 (.mv (C (.bool false)))])
 .ret)
 .skip))
 (.seq (.region [
 D 53 (.mv (T 9)),
 D 54 (.load (some 2) (T 10)),
 D 55 (.mv (T 1)),
 D 56 (.load (some 2) (T 11)),
 D 57 (.mv (T 2)),
 D 58 (.call 34 [(T 53), (T 54), (T 55), (T 56), (T 57)]),
 D 52 (.mv (T 58)),
 D 59 (.ext (T 52) 0),
 D 60 (.ext (T 52) 1),
 D 12 (.mv (T 59)),
 D 13 (.mv (T 60))])
 (.seq (.seq (.region [
 D 61 (.mv (T 1)),
 D 62 (.bin .lss (T 61) (C (.int .i64 1))),
 D 63 (.mv (T 62)),
 ⟨(some 64), (some (63, false)), 0, true, .mv (T 1)⟩,
 ⟨(some 65), (some (63, false)), 0, true, .mv (T 0)⟩,
 ⟨(some 66), (some (63, false)), 0, true, .len (T 65)⟩,
 ⟨(some 67), (some (63, false)), 0, true, .bin .gtr (T 64) (T 66)⟩,
 D 68 (.pick (T 63) (C (.bool true)) (T 67))])
 (.cond (T 68)
 (.seq (.region [
 D 69 (.mv (T 13)),
 D 70 (.bin .eql (T 69) (C (.int .i64 170))),
 D 71 (.mv (T 70)),
 ⟨(some 72), (some (71, true)), 0, true, .mv (T 12)⟩,
 ⟨(some 73), (some (71, true)), 0, true, .eqs false .ptr (T 72) (C (.pointer none))⟩,
 D 74 (.pick (T 71) (T 73) (C (.bool false))),
 D 75 (.mv (T 74)),
 ⟨(some 76), (some (75, true)), 0, true, .call 32 []⟩,
 D 77 (.pick (T 75) (T 76) (C (.bool false))),
 D 8 (.mv (T 77))])
 .ret)
 .skip))
 (.seq (.seq (.region [
 D 78 (.mv (T 13)),
 D 79 (.bin .neq (T 78) (C (.int .i64 0))),
 D 80 (.mv (T 79)),
 ⟨(some 81), (some (80, false)), 0, true, .mv (T 12)⟩,
 ⟨(some 82), (some (80, false)), 0, true, .eqs false .ptr (T 81) (C (.pointer none))⟩,
 D 83 (.pick (T 80) (C (.bool true)) (T 82))])
 (.cond (T 83)
 (.seq (.region [
 D 8 (.mv (C (.bool false)))])
 .ret)
 .skip))
 (.seq (.region [
 D 84 (.mv (T 0)),
 D 85 (.mv (T 1)),
 D 86 (.mv (T 2)),
 D 87 (.build [(.slice none 0 0), (.int .i64 0), (.int .i64 0), (.int .i64 0), (.int .i64 0), (.int .i64 0)] [(0, 1, (T 84)), (1, 1, (T 85)), (2, 1, (T 86))]),
 D 88 (.box false (T 87)),
 D 14 (.mv (T 88))])
 (.seq (.seq (.region [
 D 15 (.mv (C (.int .i64 0)))])
 (.block 0 (.loop [14, 12, 3, 10, 9, 0, 2, 15] lb9_0)))
 (.seq (.drawn [
 ⟨(some 154), none, 0, false, .mv (T 9)⟩,
 ⟨(some 155), none, 0, false, .load (some 2) (T 10)⟩,
 ⟨(some 156), none, 3, false, .call 20 [(T 154), (T 155)]⟩,
 ⟨(some 157), none, 7, false, .bstr (T 156)⟩,
 ⟨(some 158), none, 0, false, .mv (T 0)⟩,
 ⟨(some 159), none, 16, false, .bstr (T 158)⟩,
 ⟨(some 160), none, 63, false, .bin .eql (T 157) (T 159)⟩,
 ⟨(some 161), none, 127, false, .mv (T 160)⟩,
 ⟨(some 162), (some (161, true)), 255, false, .mv (T 9)⟩,
 ⟨(some 163), (some (161, true)), 511, true, .call 42 [(T 162)]⟩,
 ⟨(some 164), (some (161, true)), 255, false, .mv (T 0)⟩,
 ⟨(some 165), (some (161, true)), 1279, false, .len (T 164)⟩,
 ⟨(some 166), (some (161, true)), 255, false, .mv (T 0)⟩,
 ⟨(some 167), (some (161, true)), 4351, false, .len (T 166)⟩,
 ⟨(some 168), (some (161, true)), 255, false, .mv (T 2)⟩,
 ⟨(some 169), (some (161, true)), 28927, false, .bin .quo (T 167) (T 168)⟩,
 ⟨(some 170), (some (161, true)), 61695, false, .bin .mul (C (.int .i64 1024)) (T 169)⟩,
 ⟨(some 171), (some (161, true)), 130303, false, .bin .add (T 165) (T 170)⟩,
 ⟨(some 172), (some (161, true)), 261375, false, .bin .add (T 171) (C (.int .i64 1))⟩,
 ⟨(some 173), (some (161, true)), 524287, false, .bin .eql (T 163) (T 172)⟩,
 ⟨(some 174), none, 1048575, false, .pick (T 161) (T 173) (C (.bool false))⟩,
 ⟨(some 175), none, 2097151, false, .mv (T 174)⟩,
 ⟨(some 176), (some (175, true)), 4194303, true, .call 32 []⟩,
 ⟨(some 177), none, 8388607, false, .pick (T 175) (T 176) (C (.bool false))⟩,
 ⟨(some 8), none, 16777215, false, .mv (T 177)⟩])
 .ret)))))))))), [.tmp 8]⟩
theorem ac9_ok : compFn Try.prog Try.f9 = some ac9 := by kernel_rfl
/-- winepress/arena.New -/
def ac12 : AFn := ⟨(.seq (.region [
 D 2 (.mv (C (.pointer none))),
 D 3 (.mv (C (.int .i64 0)))])
 (.seq (.seq (.region [
 D 4 (.mv (T 0)),
 D 5 (.bin .lss (T 4) (C (.int .i64 1))),
 D 6 (.mv (T 5)),
 ⟨(some 7), (some (6, false)), 0, true, .mv (T 0)⟩,
 ⟨(some 8), (some (6, false)), 0, true, .bin .gtr (T 7) (C (.int .i64 1048576))⟩,
 D 9 (.pick (T 6) (C (.bool true)) (T 8))])
 (.cond (T 9)
 (.seq (.region [
 D 2 (.mv (C (.pointer none))),
 D 3 (.mv (C (.int .i64 2)))])
 .ret)
 .skip))
 (.seq (.region [
 D 10 (.mv (T 0)),
 D 11 (.mkslice true 1 [(.int .u8 0)] (T 10) (T 10)),
 D 12 (.build [(.slice none 0 0), (.int .i64 0), (.int .i64 0)] [(0, 1, (T 11))]),
 D 13 (.box false (T 12)),
 D 2 (.mv (T 13)),
 D 3 (.mv (C (.int .i64 0)))])
 .ret))), [.tmp 2, .tmp 3]⟩
theorem ac12_ok : compFn Try.prog Try.f12 = some ac12 := by kernel_rfl
/-- (*winepress/arena.Arena).Take -/
def ac14 : AFn := ⟨(.seq (.region [
 D 4 (.alloc true [(.int .i64 0), (.int .i64 0)]),
 D 5 (.mv (C (.int .i64 0)))])
 (.seq (.block 0 (.seq (.region [
 D 8 (.mv (T 0)),
 D 9 (.eqs false .ptr (T 8) (C (.pointer none))),
 D 10 (.mv (T 9)),
 ⟨(some 11), (some (10, false)), 0, true, .mv (T 1)⟩,
 ⟨(some 12), (some (10, false)), 0, true, .bin .lss (T 11) (C (.int .i64 0))⟩,
 D 13 (.pick (T 10) (C (.bool true)) (T 12)),
 D 7 (.mv (T 13))])
 (.cond (T 7)
 (.seq (.region [
 D 14 (.build [(.int .i64 0), (.int .i64 0)] []),
 E (.store 2 (T 4) (T 14)),
 D 5 (.mv (C (.int .i64 2)))])
 .ret)
 (.seq (.drawn [
 ⟨(some 16), none, 0, false, .mv (T 1)⟩,
 ⟨(some 17), none, 0, false, .mv (T 0)⟩,
 ⟨(some 18), none, 2, false, .nilck (T 17)⟩,
 ⟨(some 19), none, 6, false, .faddr 0 (T 18)⟩,
 ⟨(some 20), none, 14, false, .load none (T 19)⟩,
 ⟨(some 21), none, 30, false, .len (T 20)⟩,
 ⟨(some 22), none, 0, false, .mv (T 0)⟩,
 ⟨(some 23), none, 64, false, .nilck (T 22)⟩,
 ⟨(some 24), none, 192, false, .faddr 1 (T 23)⟩,
 ⟨(some 25), none, 448, false, .load none (T 24)⟩,
 ⟨(some 26), none, 1022, false, .bin .sub (T 21) (T 25)⟩,
 ⟨(some 27), none, 2047, false, .bin .gtr (T 16) (T 26)⟩,
 ⟨(some 15), none, 4095, false, .mv (T 27)⟩])
 (.cond (T 15)
 (.seq (.region [
 D 28 (.build [(.int .i64 0), (.int .i64 0)] []),
 E (.store 2 (T 4) (T 28)),
 D 5 (.mv (C (.int .i64 10)))])
 .ret)
 .skip)))))
 (.seq (.region [
 D 29 (.mv (T 0)),
 D 30 (.nilck (T 29)),
 D 31 (.faddr 1 (T 30)),
 D 32 (.load none (T 31)),
 D 33 (.mv (T 1)),
 D 34 (.build [(.int .i64 0), (.int .i64 0)] [(0, 1, (T 32)), (1, 1, (T 33))]),
 D 6 (.alloc true [(.int .i64 0), (.int .i64 0)]),
 E (.store 2 (T 6) (T 34))])
 (.seq (.drawn [
 ⟨(some 35), none, 0, false, .mv (T 0)⟩,
 ⟨(some 36), none, 1, false, .nilck (T 35)⟩,
 ⟨(some 37), none, 3, false, .faddr 0 (T 36)⟩,
 ⟨(some 38), none, 7, false, .load none (T 37)⟩,
 ⟨(some 39), none, 0, false, .faddr 0 (T 6)⟩,
 ⟨(some 40), none, 16, false, .load none (T 39)⟩,
 ⟨(some 41), none, 0, false, .faddr 0 (T 6)⟩,
 ⟨(some 42), none, 64, false, .load none (T 41)⟩,
 ⟨(some 43), none, 0, false, .mv (T 1)⟩,
 ⟨(some 44), none, 448, false, .bin .add (T 42) (T 43)⟩,
 ⟨(some 45), none, 1023, false, .slice 1 (T 38) (some (T 40)) (some (T 44)) none⟩,
 ⟨none, none, 2047, true, .clear 1 [(.int .u8 0)] (T 45)⟩])
 (.seq (.region [
 D 46 (.mv (T 0)),
 D 47 (.nilck (T 46)),
 D 48 (.faddr 1 (T 47)),
 D 49 (.load none (T 48)),
 D 50 (.mv (T 1)),
 D 51 (.bin .add (T 49) (T 50)),
 D 52 (.nilck (T 46)),
 D 53 (.faddr 1 (T 52)),
 E (.store 1 (T 53) (T 51))])
 (.seq (.drawn [
 ⟨(some 54), none, 0, false, .mv (T 0)⟩,
 ⟨(some 55), none, 0, false, .mv (T 0)⟩,
 ⟨(some 56), none, 2, false, .nilck (T 55)⟩,
 ⟨(some 57), none, 6, false, .faddr 2 (T 56)⟩,
 ⟨(some 58), none, 14, false, .load none (T 57)⟩,
 ⟨(some 59), none, 0, false, .mv (T 0)⟩,
 ⟨(some 60), none, 32, false, .nilck (T 59)⟩,
 ⟨(some 61), none, 96, false, .faddr 1 (T 60)⟩,
 ⟨(some 62), none, 224, false, .load none (T 61)⟩,
 ⟨(some 63), none, 510, false, .mm true [(T 58), (T 62)]⟩,
 ⟨(some 64), none, 1023, false, .nilck (T 54)⟩,
 ⟨(some 65), none, 2047, false, .faddr 2 (T 64)⟩,
 ⟨none, none, 4095, true, .store 1 (T 65) (T 63)⟩])
 (.seq (.region [
 D 66 (.load (some 2) (T 6)),
 E (.store 2 (T 4) (T 66)),
 D 5 (.mv (C (.int .i64 0)))])
 .ret))))))), [.cell 4 (some 2), .tmp 5]⟩
theorem ac14_ok : compFn Try.prog Try.f14 = some ac14 := by kernel_rfl
/-- (*winepress/arena.Arena).Store -/
def ac16 : AFn := ⟨(.seq (.region [
 D 5 (.box true (T 1)),
 D 8 (.mv (C (.bool false)))])
 (.seq (.seq (.region [
 D 9 (.mv (T 0)),
 D 10 (.load (some 2) (T 5)),
 D 11 (.call 44 [(T 9), (T 10)]),
 D 12 (.un .not (T 11)),
 D 13 (.mv (T 12)),
 ⟨(some 14), (some (13, false)), 0, true, .mv (T 2)⟩,
 ⟨(some 15), (some (13, false)), 0, true, .bin .lss (T 14) (C (.int .i64 0))⟩,
 D 16 (.pick (T 13) (C (.bool true)) (T 15)),
 D 17 (.mv (T 16)),
 ⟨(some 18), (some (17, false)), 0, true, .mv (T 2)⟩,
 ⟨(some 19), (some (17, false)), 0, true, .faddr 1 (T 5)⟩,
 ⟨(some 20), (some (17, false)), 0, true, .load none (T 19)⟩,
 ⟨(some 21), (some (17, false)), 0, true, .mv (T 3)⟩,
 ⟨(some 22), (some (17, false)), 0, true, .len (T 21)⟩,
 ⟨(some 23), (some (17, false)), 0, true, .bin .sub (T 20) (T 22)⟩,
 ⟨(some 24), (some (17, false)), 0, true, .bin .gtr (T 18) (T 23)⟩,
 D 25 (.pick (T 17) (C (.bool true)) (T 24))])
 (.cond (T 25)
 (.seq (.region [
 D 8 (.mv (C (.bool false)))])
 .ret)
 .skip))
 (.seq (.drawn [
 ⟨(some 26), none, 0, false, .mv (T 0)⟩,
 ⟨(some 27), none, 1, false, .nilck (T 26)⟩,
 ⟨(some 28), none, 3, false, .faddr 0 (T 27)⟩,
 ⟨(some 29), none, 7, false, .load none (T 28)⟩,
 ⟨(some 30), none, 0, false, .faddr 0 (T 5)⟩,
 ⟨(some 31), none, 16, false, .load none (T 30)⟩,
 ⟨(some 32), none, 0, false, .mv (T 2)⟩,
 ⟨(some 33), none, 112, false, .bin .add (T 31) (T 32)⟩,
 ⟨(some 34), none, 255, false, .slice 1 (T 29) (some (T 33)) none none⟩,
 ⟨(some 35), none, 0, false, .mv (T 3)⟩,
 ⟨(some 36), none, 1023, true, .copy 1 (T 34) (T 35)⟩])
 (.seq (.region [
 D 8 (.mv (C (.bool true)))])
 .ret)))), [.tmp 8]⟩
theorem ac16_ok : compFn Try.prog Try.f16 = some ac16 := by kernel_rfl
/-- (*winepress/arena.Arena).Load -/
def ac20 : AFn := ⟨(.seq (.region [
 D 3 (.box true (T 1)),
 D 4 (.mv (C (.slice none 0 0)))])
 (.seq (.seq (.region [
 D 5 (.mv (T 0)),
 D 6 (.load (some 2) (T 3)),
 D 7 (.call 44 [(T 5), (T 6)]),
 D 8 (.un .not (T 7))])
 (.cond (T 8)
 (.seq (.region [
 D 4 (.mv (C (.slice none 0 0)))])
 .ret)
 .skip))
 (.seq (.drawn [
 ⟨(some 9), none, 0, false, .mv (T 0)⟩,
 ⟨(some 10), none, 1, false, .nilck (T 9)⟩,
 ⟨(some 11), none, 3, false, .faddr 0 (T 10)⟩,
 ⟨(some 12), none, 7, false, .load none (T 11)⟩,
 ⟨(some 13), none, 0, false, .faddr 0 (T 3)⟩,
 ⟨(some 14), none, 16, false, .load none (T 13)⟩,
 ⟨(some 15), none, 0, false, .faddr 0 (T 3)⟩,
 ⟨(some 16), none, 64, false, .load none (T 15)⟩,
 ⟨(some 17), none, 0, false, .faddr 1 (T 3)⟩,
 ⟨(some 18), none, 256, false, .load none (T 17)⟩,
 ⟨(some 19), none, 960, false, .bin .add (T 16) (T 18)⟩,
 ⟨(some 20), none, 2047, false, .slice 1 (T 12) (some (T 14)) (some (T 19)) none⟩,
 ⟨(some 21), none, 4095, true, .call 50 [(T 20)]⟩,
 ⟨(some 4), none, 8191, false, .mv (T 21)⟩])
 .ret))), [.tmp 4]⟩
theorem ac20_ok : compFn Try.prog Try.f20 = some ac20 := by kernel_rfl
/-- a loop of (*winepress/arena.Arena).Word; it keeps [6, 17, 16, 8, 15] -/
def lb22_0 : ACode := (.seq (.region [
 D 18 (.bin .lss (T 17) (T 16))])
 (.seq (.cond (T 18)
 .skip
 (.exit 0))
 (.seq (.block 1 (.seq (.region [
 D 19 (.mv (T 17)),
 D 20 (.iaddr 1 (T 15) (T 17)),
 D 21 (.load none (T 20)),
 D 9 (.mv (T 19)),
 D 10 (.mv (T 21))])
 (.region [
 D 22 (.mv (T 6)),
 D 23 (.mv (T 10)),
 D 24 (.conv .u32 (T 23)),
 D 25 (.mv (T 9)),
 D 26 (.bin .mul (C (.int .i64 8)) (T 25)),
 D 27 (.bin .shl (T 24) (T 26)),
 D 28 (.bin .or (T 22) (T 27)),
 D 6 (.mv (T 28))])))
 (.region [
 D 29 (.bin .add (T 17) (C (.int .i64 1))),
 D 17 (.mv (T 29))]))))
/-- (*winepress/arena.Arena).Word -/
def ac22 : AFn := ⟨(.seq (.region [
 D 4 (.box true (T 1)),
 D 6 (.mv (C (.int .u32 0))),
 D 7 (.mv (C (.bool false)))])
 (.seq (.region [
 D 11 (.mv (T 0)),
 D 12 (.load (some 2) (T 4)),
 D 13 (.mv (T 2)),
 D 14 (.call 51 [(T 11), (T 12), (T 13)]),
 D 8 (.mv (T 14))])
 (.seq (.seq (.region [
 D 15 (.mv (T 8)),
 D 16 (.len (T 15)),
 D 17 (.mv (C (.int .i64 0)))])
 (.block 0 (.loop [6, 17, 16, 8, 15] lb22_0)))
 (.seq (.region [
 D 30 (.mv (T 6)),
 D 31 (.mv (T 8)),
 D 32 (.eqs true .slice (T 31) (C (.slice none 0 0))),
 D 6 (.mv (T 30)),
 D 7 (.mv (T 32))])
 .ret)))), [.tmp 6, .tmp 7]⟩
theorem ac22_ok : compFn Try.prog Try.f22 = some ac22 := by kernel_rfl
/-- a loop of winepress/winepressref17.Turn; it keeps [5, 7, 6, 0, 4] -/
def lb24_0 : ACode := (.seq (.seq (.region [
 D 10 (.mv (T 7)),
 D 11 (.mv (T 6)),
 D 12 (.len (T 11)),
 D 13 (.bin .lss (T 10) (T 12))])
 (.cond (T 13)
 .skip
 (.exit 0)))
 (.seq (.block 1 (.seq (.region [
 D 16 (.mv (T 6)),
 D 17 (.mv (T 7)),
 D 18 (.iaddr 1 (T 16) (T 17)),
 D 19 (.load none (T 18)),
 D 20 (.bin .eql (T 19) (C (.int .i64 0)))])
 (.cond (T 20)
 (.region [
 D 21 (.mv (T 7)),
 D 5 (.mv (T 21))])
 (.region [
 D 22 (.mv (T 4)),
 D 23 (.mv (T 0)),
 D 24 (.mv (T 6)),
 D 25 (.mv (T 7)),
 D 26 (.iaddr 1 (T 24) (T 25)),
 D 27 (.load none (T 26)),
 D 28 (.bin .sub (T 27) (C (.int .i64 1))),
 D 29 (.iaddr 1 (T 23) (T 28)),
 D 30 (.load none (T 29)),
 D 31 (.bslice true 1 1 [(.int .u8 0)] [(0, 1, (T 30))]),
 D 32 (.append true 1 (T 22) (T 31)),
 D 4 (.mv (T 32))]))))
 (.region [
 D 14 (.mv (T 7)),
 D 15 (.bin .add (T 14) (C (.int .i64 1))),
 D 7 (.mv (T 15))])))
/-- winepress/winepressref17.Turn -/
def ac24 : AFn := ⟨(.seq (.region [
 D 2 (.mv (C (.slice none 0 0))),
 D 3 (.mv (C (.int .i64 0)))])
 (.seq (.region [
 D 4 (.mv (C (.slice none 0 0)))])
 (.seq (.region [
 D 5 (.mv (C (.int .i64 0)))])
 (.seq (.region [
 D 8 (.mv (T 0)),
 D 9 (.call 54 [(T 8)]),
 D 6 (.mv (T 9))])
 (.seq (.seq (.region [
 D 7 (.mv (C (.int .i64 0)))])
 (.block 0 (.loop [5, 7, 6, 0, 4] lb24_0)))
 (.seq (.region [
 D 33 (.mv (T 4)),
 D 34 (.mv (T 5)),
 D 2 (.mv (T 33)),
 D 3 (.mv (T 34))])
 .ret)))))), [.tmp 2, .tmp 3]⟩
theorem ac24_ok : compFn Try.prog Try.f24 = some ac24 := by kernel_rfl
/-- winepress/winepressref17.Valid -/
def ac30 : AFn := ⟨(.seq (.region [
 D 4 (.mv (C (.bool false)))])
 (.seq (.region [
 D 8 (.mv (T 0)),
 D 9 (.mv (T 1)),
 D 10 (.call 56 [(T 8), (T 9)]),
 D 7 (.mv (T 10)),
 D 11 (.ext (T 7) 0),
 D 12 (.ext (T 7) 1),
 D 5 (.mv (T 11)),
 D 6 (.mv (T 12))])
 (.seq (.region [
 D 13 (.mv (T 6)),
 D 14 (.bin .eql (T 13) (C (.int .i64 0))),
 D 4 (.mv (T 14))])
 .ret))), [.tmp 4]⟩
theorem ac30_ok : compFn Try.prog Try.f30 = some ac30 := by kernel_rfl
/-- a loop of winepress/winepressref17.Next; it keeps [10, 11, 0, 9] -/
def lb31_0 : ACode := (.seq (.seq (.region [
 D 41 (.mv (T 11)),
 D 42 (.mv (T 0)),
 D 43 (.len (T 42)),
 D 44 (.bin .lss (T 41) (T 43))])
 (.cond (T 44)
 .skip
 (.exit 0)))
 (.seq (.block 1 (.seq (.drawn [
 ⟨(some 47), none, 0, false, .mv (T 0)⟩,
 ⟨(some 48), none, 0, false, .mv (T 11)⟩,
 ⟨(some 49), none, 3, false, .iaddr 1 (T 47) (T 48)⟩,
 ⟨(some 50), none, 7, false, .load none (T 49)⟩,
 ⟨(some 51), none, 0, false, .mv (T 0)⟩,
 ⟨(some 52), none, 0, false, .mv (T 9)⟩,
 ⟨(some 53), none, 48, false, .iaddr 1 (T 51) (T 52)⟩,
 ⟨(some 54), none, 112, false, .load none (T 53)⟩,
 ⟨(some 55), none, 255, false, .bin .lss (T 50) (T 54)⟩,
 ⟨(some 56), none, 511, false, .mv (T 55)⟩,
 ⟨(some 57), (some (56, false)), 1023, false, .mv (T 0)⟩,
 ⟨(some 58), (some (56, false)), 1023, false, .mv (T 11)⟩,
 ⟨(some 59), (some (56, false)), 4095, false, .iaddr 1 (T 57) (T 58)⟩,
 ⟨(some 60), (some (56, false)), 8191, false, .load none (T 59)⟩,
 ⟨(some 61), (some (56, false)), 1023, false, .mv (T 0)⟩,
 ⟨(some 62), (some (56, false)), 1023, false, .mv (T 9)⟩,
 ⟨(some 63), (some (56, false)), 50175, false, .iaddr 1 (T 61) (T 62)⟩,
 ⟨(some 64), (some (56, false)), 115711, false, .load none (T 63)⟩,
 ⟨(some 65), (some (56, false)), 262143, false, .bin .eql (T 60) (T 64)⟩,
 ⟨(some 66), (some (56, false)), 524287, false, .mv (T 65)⟩,
 ⟨(some 67), (some (66, true)), 1048575, false, .mv (T 11)⟩,
 ⟨(some 68), (some (66, true)), 1048575, false, .mv (T 9)⟩,
 ⟨(some 69), (some (66, true)), 4194303, false, .bin .lss (T 67) (T 68)⟩,
 ⟨(some 70), (some (56, false)), 8388607, false, .pick (T 66) (T 69) (C (.bool false))⟩,
 ⟨(some 71), none, 16777215, false, .pick (T 56) (C (.bool true)) (T 70)⟩])
 (.cond (T 71)
 (.region [
 D 72 (.mv (T 10)),
 D 73 (.bin .add (T 72) (C (.int .i64 1))),
 D 10 (.mv (T 73))])
 .skip)))
 (.region [
 D 45 (.mv (T 11)),
 D 46 (.bin .add (T 45) (C (.int .i64 1))),
 D 11 (.mv (T 46))])))
/-- winepress/winepressref17.Next -/
def ac31 : AFn := ⟨(.seq (.region [
 D 6 (.mv (C (.int .i64 0))),
 D 7 (.mv (C (.int .u8 0))),
 D 8 (.mv (C (.bool false)))])
 (.seq (.seq (.region [
 D 12 (.mv (T 1)),
 D 13 (.bin .lss (T 12) (C (.int .i64 0))),
 D 14 (.mv (T 13)),
 ⟨(some 15), (some (14, false)), 0, true, .mv (T 1)⟩,
 ⟨(some 16), (some (14, false)), 0, true, .mv (T 0)⟩,
 ⟨(some 17), (some (14, false)), 0, true, .len (T 16)⟩,
 ⟨(some 18), (some (14, false)), 0, true, .bin .gtr (T 15) (T 17)⟩,
 D 19 (.pick (T 14) (C (.bool true)) (T 18)),
 D 20 (.mv (T 19)),
 ⟨(some 21), (some (20, false)), 0, true, .mv (T 2)⟩,
 ⟨(some 22), (some (20, false)), 0, true, .bin .lss (T 21) (C (.int .i64 0))⟩,
 D 23 (.pick (T 20) (C (.bool true)) (T 22)),
 D 24 (.mv (T 23)),
 ⟨(some 25), (some (24, false)), 0, true, .mv (T 2)⟩,
 ⟨(some 26), (some (24, false)), 0, true, .mv (T 0)⟩,
 ⟨(some 27), (some (24, false)), 0, true, .len (T 26)⟩,
 ⟨(some 28), (some (24, false)), 0, true, .bin .gtr (T 25) (T 27)⟩,
 D 29 (.pick (T 24) (C (.bool true)) (T 28)),
 D 30 (.mv (T 29)),
 ⟨(some 31), (some (30, false)), 0, true, .mv (T 2)⟩,
 ⟨(some 32), (some (30, false)), 0, true, .mv (T 1)⟩,
 ⟨(some 33), (some (30, false)), 0, true, .bin .eql (T 31) (T 32)⟩,
 D 34 (.pick (T 30) (C (.bool true)) (T 33))])
 (.cond (T 34)
 (.seq (.region [
 D 6 (.mv (C (.int .i64 0))),
 D 7 (.mv (C (.int .u8 0))),
 D 8 (.mv (C (.bool false)))])
 .ret)
 .skip))
 (.seq (.region [
 D 35 (.mv (T 2)),
 D 9 (.mv (T 35))])
 (.seq (.seq (.region [
 D 36 (.mv (T 2)),
 D 37 (.mv (T 1)),
 D 38 (.bin .gtr (T 36) (T 37))])
 (.cond (T 38)
 (.region [
 D 39 (.mv (T 2)),
 D 40 (.bin .sub (T 39) (C (.int .i64 1))),
 D 9 (.mv (T 40))])
 .skip))
 (.seq (.region [
 D 10 (.mv (C (.int .i64 1)))])
 (.seq (.seq (.region [
 D 11 (.mv (C (.int .i64 0)))])
 (.block 0 (.loop [10, 11, 0, 9] lb31_0)))
 (.seq (.drawn [
 ⟨(some 74), none, 0, false, .mv (T 10)⟩,
 ⟨(some 75), none, 0, false, .mv (T 0)⟩,
 ⟨(some 76), none, 0, false, .mv (T 9)⟩,
 ⟨(some 77), none, 6, false, .iaddr 1 (T 75) (T 76)⟩,
 ⟨(some 78), none, 14, true, .load none (T 77)⟩,
 ⟨(some 6), none, 1, false, .mv (T 74)⟩,
 ⟨(some 7), none, 63, false, .mv (T 78)⟩,
 ⟨(some 8), none, 127, false, .mv (C (.bool true))⟩])
 .ret))))))), [.tmp 6, .tmp 7, .tmp 8]⟩
theorem ac31_ok : compFn Try.prog Try.f31 = some ac31 := by kernel_rfl
/-- a loop of winepress/winepresslaw21.wakes; it keeps [4, 7, 9, 11, 13, 14, 17, 16] -/
def lb32_0 : ACode := (.seq (.seq (.region [
 D 93 (.mv (T 17)),
 D 94 (.bin .lss (T 93) (C (.int .i64 7)))])
 (.cond (T 94)
 .skip
 (.exit 0)))
 (.seq (.block 1 (.seq (.region [
 D 98 (.mv (T 4)),
 D 99 (.call 37 [(T 98)]),
 D 97 (.mv (T 99)),
 D 100 (.ext (T 97) 0),
 D 101 (.ext (T 97) 1),
 D 18 (.mv (T 100)),
 D 19 (.mv (T 101))])
 (.seq (.seq (.region [
 D 102 (.mv (T 19)),
 D 103 (.mv (T 17)),
 D 104 (.bin .lss (T 103) (C (.int .i64 6))),
 D 105 (.eqs true .bool (T 102) (T 104))])
 (.cond (T 105)
 (.seq (.region [
 D 0 (.mv (C (.bool false)))])
 .ret)
 .skip))
 (.seq (.region [
 D 106 (.mv (T 19))])
 (.cond (T 106)
 (.region [
 D 107 (.mv (T 16)),
 D 108 (.mv (T 18)),
 D 109 (.bslice true 1 1 [(.int .u8 0)] [(0, 1, (T 108))]),
 D 110 (.append true 1 (T 107) (T 109)),
 D 16 (.mv (T 110))])
 .skip)))))
 (.region [
 D 95 (.mv (T 17)),
 D 96 (.bin .add (T 95) (C (.int .i64 1))),
 D 17 (.mv (T 96))])))
/-- winepress/winepresslaw21.wakes -/
def ac32 : AFn := ⟨(.seq (.region [
 D 0 (.mv (C (.bool false)))])
 (.seq (.region [
 D 30 (.bslice true 1 6 (List.replicate 6 (.int .u8 0)) [(0, 1, (C (.int .u8 97))), (1, 1, (C (.int .u8 110))), (2, 1, (C (.int .u8 110))), (3, 1, (C (.int .u8 98))), (4, 1, (C (.int .u8 97))), (5, 1, (C (.int .u8 97)))]),
 D 31 (.mark (T 30)),
 D 32 (.call 33 [(T 31), (C (.int .i64 2)), (C (.int .i64 1))]),
 D 29 (.mv (T 32)),
 D 33 (.ext (T 29) 0),
 D 34 (.ext (T 29) 1),
 D 35 (.ext (T 29) 2),
 D 2 (.alloc true [(.int .i64 0), (.int .i64 0)]),
 D 3 (.alloc true [(.int .i64 0), (.int .i64 0)]),
 D 1 (.mv (T 33)),
 E (.store 2 (T 2) (T 34)),
 E (.store 2 (T 3) (T 35))])
 (.seq (.seq (.region [
 D 36 (.mv (T 1)),
 D 37 (.eqs false .ptr (T 36) (C (.pointer none)))])
 (.cond (T 37)
 (.seq (.region [
 D 0 (.mv (C (.bool false)))])
 .ret)
 .skip))
 (.seq (.region [
 D 39 (.mv (T 1)),
 D 40 (.load (some 2) (T 2)),
 D 41 (.load (some 2) (T 3)),
 D 42 (.call 34 [(T 39), (T 40), (C (.int .i64 4)), (T 41), (C (.int .i64 2))]),
 D 38 (.mv (T 42)),
 D 43 (.ext (T 38) 0),
 D 44 (.ext (T 38) 1),
 D 4 (.mv (T 43)),
 D 5 (.mv (T 44))])
 (.seq (.region [
 D 46 (.mv (T 1)),
 D 47 (.load (some 2) (T 2)),
 D 48 (.load (some 2) (T 3)),
 D 49 (.call 34 [(T 46), (T 47), (C (.int .i64 0)), (T 48), (C (.int .i64 2))]),
 D 45 (.mv (T 49)),
 D 50 (.ext (T 45) 0),
 D 51 (.ext (T 45) 1),
 D 6 (.mv (T 50)),
 D 7 (.mv (T 51))])
 (.seq (.region [
 D 53 (.mv (T 1)),
 D 54 (.load (some 2) (T 2)),
 D 55 (.load (some 2) (T 3)),
 D 56 (.call 34 [(T 53), (T 54), (C (.int .i64 7)), (T 55), (C (.int .i64 2))]),
 D 52 (.mv (T 56)),
 D 57 (.ext (T 52) 0),
 D 58 (.ext (T 52) 1),
 D 8 (.mv (T 57)),
 D 9 (.mv (T 58))])
 (.seq (.region [
 D 60 (.mv (T 1)),
 D 61 (.load (some 2) (T 2)),
 D 62 (.load (some 2) (T 3)),
 D 63 (.call 34 [(T 60), (T 61), (C (.int .i64 4)), (T 62), (C (.int .i64 0))]),
 D 59 (.mv (T 63)),
 D 64 (.ext (T 59) 0),
 D 65 (.ext (T 59) 1),
 D 10 (.mv (T 64)),
 D 11 (.mv (T 65))])
 (.seq (.region [
 D 67 (.load (some 2) (T 2)),
 D 68 (.load (some 2) (T 3)),
 D 69 (.call 34 [(C (.pointer none)), (T 67), (C (.int .i64 4)), (T 68), (C (.int .i64 2))]),
 D 66 (.mv (T 69)),
 D 70 (.ext (T 66) 0),
 D 71 (.ext (T 66) 1),
 D 12 (.mv (T 70)),
 D 13 (.mv (T 71))])
 (.seq (.region [
 D 73 (.mv (T 1)),
 D 74 (.load (some 2) (T 2)),
 D 75 (.load (some 2) (T 3)),
 D 76 (.call 34 [(T 73), (T 74), (C (.int .i64 3)), (T 75), (C (.int .i64 2))]),
 D 72 (.mv (T 76)),
 D 77 (.ext (T 72) 0),
 D 78 (.ext (T 72) 1),
 D 14 (.mv (T 77)),
 D 15 (.mv (T 78))])
 (.seq (.seq (.region [
 D 79 (.mv (T 5)),
 D 80 (.bin .neq (T 79) (C (.int .i64 0))),
 D 81 (.mv (T 80)),
 ⟨(some 82), (some (81, false)), 0, true, .mv (T 4)⟩,
 ⟨(some 83), (some (81, false)), 0, true, .eqs false .ptr (T 82) (C (.pointer none))⟩,
 D 84 (.pick (T 81) (C (.bool true)) (T 83)),
 D 85 (.mv (T 84)),
 ⟨(some 86), (some (85, false)), 0, true, .mv (T 15)⟩,
 ⟨(some 87), (some (85, false)), 0, true, .bin .neq (T 86) (C (.int .i64 0))⟩,
 D 88 (.pick (T 85) (C (.bool true)) (T 87)),
 D 89 (.mv (T 88)),
 ⟨(some 90), (some (89, false)), 0, true, .mv (T 14)⟩,
 ⟨(some 91), (some (89, false)), 0, true, .eqs false .ptr (T 90) (C (.pointer none))⟩,
 D 92 (.pick (T 89) (C (.bool true)) (T 91))])
 (.cond (T 92)
 (.seq (.region [
 D 0 (.mv (C (.bool false)))])
 .ret)
 .skip))
 (.seq (.region [
 D 16 (.mv (C (.slice none 0 0)))])
 (.seq (.seq (.region [
 D 17 (.mv (C (.int .i64 0)))])
 (.block 0 (.loop [4, 7, 9, 11, 13, 14, 17, 16] lb32_0)))
 (.seq (.region [
 D 111 (.mv (T 4)),
 D 112 (.call 36 [(T 111)]),
 D 113 (.mv (T 4)),
 D 114 (.call 38 [(T 113)]),
 D 20 (.mv (T 112)),
 D 21 (.mv (T 114))])
 (.seq (.region [
 D 115 (.mv (T 4)),
 D 116 (.call 35 [(T 115)]),
 D 22 (.mv (T 116))])
 (.seq (.region [
 D 117 (.mv (T 4)),
 D 118 (.call 36 [(T 117)]),
 D 23 (.mv (T 118))])
 (.seq (.region [
 D 119 (.mv (T 4)),
 D 120 (.call 41 [(T 119)])])
 (.seq (.region [
 D 122 (.mv (T 4)),
 D 123 (.call 37 [(T 122)]),
 D 121 (.mv (T 123)),
 D 124 (.ext (T 121) 0),
 D 125 (.ext (T 121) 1),
 D 24 (.mv (T 124)),
 D 25 (.mv (T 125))])
 (.seq (.region [
 D 26 (.mv (C (.pointer none)))])
 (.seq (.region [
 D 126 (.mv (T 26)),
 D 127 (.call 41 [(T 126)])])
 (.seq (.region [
 D 129 (.mv (T 26)),
 D 130 (.call 37 [(T 129)]),
 D 128 (.mv (T 130)),
 D 131 (.ext (T 128) 0),
 D 132 (.ext (T 128) 1),
 D 27 (.mv (T 131)),
 D 28 (.mv (T 132))])
 (.seq (.region [
 D 133 (.mv (T 7)),
 D 134 (.bin .eql (T 133) (C (.int .i64 170))),
 D 135 (.mv (T 134)),
 ⟨(some 136), (some (135, true)), 0, true, .mv (T 9)⟩,
 ⟨(some 137), (some (135, true)), 0, true, .bin .eql (T 136) (C (.int .i64 170))⟩,
 D 138 (.pick (T 135) (T 137) (C (.bool false))),
 D 139 (.mv (T 138)),
 ⟨(some 140), (some (139, true)), 0, true, .mv (T 11)⟩,
 ⟨(some 141), (some (139, true)), 0, true, .bin .eql (T 140) (C (.int .i64 2))⟩,
 D 142 (.pick (T 139) (T 141) (C (.bool false))),
 D 143 (.mv (T 142)),
 ⟨(some 144), (some (143, true)), 0, true, .mv (T 13)⟩,
 ⟨(some 145), (some (143, true)), 0, true, .bin .eql (T 144) (C (.int .i64 2))⟩,
 D 146 (.pick (T 143) (T 145) (C (.bool false))),
 D 147 (.mv (T 146)),
 ⟨(some 148), (some (147, true)), 0, true, .mv (T 16)⟩,
 ⟨(some 149), (some (147, true)), 0, true, .bstr (T 148)⟩,
 ⟨(some 150), (some (147, true)), 0, true, .bin .eql (T 149) (C (.string ⟨#[97, 110, 97, 110, 97, 98]⟩))⟩,
 D 151 (.pick (T 147) (T 150) (C (.bool false))),
 D 152 (.mv (T 151)),
 ⟨(some 153), (some (152, true)), 0, true, .mv (T 20)⟩,
 ⟨(some 154), (some (152, true)), 0, true, .bin .eql (T 153) (C (.int .i64 9))⟩,
 D 155 (.pick (T 152) (T 154) (C (.bool false))),
 D 156 (.mv (T 155)),
 ⟨(some 157), (some (156, true)), 0, true, .mv (T 21)⟩,
 ⟨(some 158), (some (156, true)), 0, true, .bin .eql (T 157) (C (.int .i64 6))⟩,
 D 159 (.pick (T 156) (T 158) (C (.bool false))),
 D 160 (.mv (T 159)),
 ⟨(some 161), (some (160, true)), 0, true, .mv (T 22)⟩,
 D 162 (.pick (T 160) (T 161) (C (.bool false))),
 D 163 (.mv (T 162)),
 ⟨(some 164), (some (163, true)), 0, true, .mv (T 23)⟩,
 ⟨(some 165), (some (163, true)), 0, true, .bin .eql (T 164) (C (.int .i64 18))⟩,
 D 166 (.pick (T 163) (T 165) (C (.bool false))),
 D 167 (.mv (T 166)),
 ⟨(some 168), (some (167, true)), 0, true, .mv (T 24)⟩,
 ⟨(some 169), (some (167, true)), 0, true, .bin .eql (T 168) (C (.int .u8 97))⟩,
 D 170 (.pick (T 167) (T 169) (C (.bool false))),
 D 171 (.mv (T 170)),
 ⟨(some 172), (some (171, true)), 0, true, .mv (T 4)⟩,
 ⟨(some 173), (some (171, true)), 0, true, .call 38 [(T 172)]⟩,
 ⟨(some 174), (some (171, true)), 0, true, .bin .eql (T 173) (C (.int .i64 1))⟩,
 D 175 (.pick (T 171) (T 174) (C (.bool false))),
 D 176 (.mv (T 175)),
 ⟨(some 177), (some (176, true)), 0, true, .mv (T 14)⟩,
 ⟨(some 178), (some (176, true)), 0, true, .call 35 [(T 177)]⟩,
 ⟨(some 179), (some (176, true)), 0, true, .un .not (T 178)⟩,
 D 180 (.pick (T 176) (T 179) (C (.bool false))),
 D 181 (.mv (T 180)),
 ⟨(some 182), (some (181, true)), 0, true, .mv (T 28)⟩,
 ⟨(some 183), (some (181, true)), 0, true, .un .not (T 182)⟩,
 D 184 (.pick (T 181) (T 183) (C (.bool false))),
 D 185 (.mv (T 184)),
 ⟨(some 186), (some (185, true)), 0, true, .mv (T 26)⟩,
 ⟨(some 187), (some (185, true)), 0, true, .call 35 [(T 186)]⟩,
 ⟨(some 188), (some (185, true)), 0, true, .un .not (T 187)⟩,
 D 189 (.pick (T 185) (T 188) (C (.bool false))),
 D 190 (.mv (T 189)),
 ⟨(some 191), (some (190, true)), 0, true, .mv (T 26)⟩,
 ⟨(some 192), (some (190, true)), 0, true, .call 36 [(T 191)]⟩,
 ⟨(some 193), (some (190, true)), 0, true, .bin .eql (T 192) (C (.int .i64 0))⟩,
 D 194 (.pick (T 190) (T 193) (C (.bool false))),
 D 0 (.mv (T 194))])
 .ret))))))))))))))))))))), [.tmp 0]⟩
theorem ac32_ok : compFn Try.prog Try.f32 = some ac32 := by kernel_rfl
/-- winepress/winepresslaw21.laid -/
def ac33 : AFn := ⟨(.seq (.region [
 D 6 (.mv (C (.pointer none))),
 D 7 (.alloc true [(.int .i64 0), (.int .i64 0)]),
 D 8 (.alloc true [(.int .i64 0), (.int .i64 0)])])
 (.seq (.region [
 D 9 (.mv (C (.int .i64 0)))])
 (.seq (.seq (.region [
 D 18 (.mv (T 1)),
 D 19 (.bin .gtr (T 18) (C (.int .i64 0)))])
 (.cond (T 19)
 (.region [
 D 20 (.mv (T 0)),
 D 21 (.len (T 20)),
 D 22 (.mv (T 1)),
 D 23 (.bin .quo (T 21) (T 22)),
 D 24 (.bin .mul (C (.int .i64 1024)) (T 23)),
 D 9 (.mv (T 24))])
 .skip))
 (.seq (.region [
 D 26 (.mv (T 0)),
 D 27 (.len (T 26)),
 D 28 (.mv (T 9)),
 D 29 (.bin .add (T 27) (T 28)),
 D 30 (.mv (T 2)),
 D 31 (.bin .add (T 29) (T 30)),
 D 32 (.call 12 [(T 31)]),
 D 25 (.mv (T 32)),
 D 33 (.ext (T 25) 0),
 D 34 (.ext (T 25) 1),
 D 10 (.mv (T 33)),
 D 11 (.mv (T 34))])
 (.seq (.seq (.region [
 D 35 (.mv (T 11)),
 D 36 (.bin .neq (T 35) (C (.int .i64 0))),
 D 37 (.mv (T 36)),
 ⟨(some 38), (some (37, false)), 0, true, .mv (T 10)⟩,
 ⟨(some 39), (some (37, false)), 0, true, .eqs false .ptr (T 38) (C (.pointer none))⟩,
 D 40 (.pick (T 37) (C (.bool true)) (T 39))])
 (.cond (T 40)
 (.seq (.region [
 D 41 (.build [(.int .i64 0), (.int .i64 0)] []),
 D 42 (.build [(.int .i64 0), (.int .i64 0)] []),
 D 6 (.mv (C (.pointer none))),
 E (.store 2 (T 7) (T 41)),
 E (.store 2 (T 8) (T 42))])
 .ret)
 .skip))
 (.seq (.region [
 D 44 (.mv (T 10)),
 D 45 (.mv (T 0)),
 D 46 (.len (T 45)),
 D 47 (.call 14 [(T 44), (T 46)]),
 D 43 (.mv (T 47)),
 D 48 (.ext (T 43) 0),
 D 49 (.ext (T 43) 1),
 D 12 (.alloc true [(.int .i64 0), (.int .i64 0)]),
 E (.store 2 (T 12) (T 48)),
 D 13 (.mv (T 49))])
 (.seq (.region [
 D 51 (.mv (T 10)),
 D 52 (.mv (T 9)),
 D 53 (.call 14 [(T 51), (T 52)]),
 D 50 (.mv (T 53)),
 D 54 (.ext (T 50) 0),
 D 55 (.ext (T 50) 1),
 D 14 (.alloc true [(.int .i64 0), (.int .i64 0)]),
 E (.store 2 (T 14) (T 54)),
 D 15 (.mv (T 55))])
 (.seq (.region [
 D 57 (.mv (T 10)),
 D 58 (.mv (T 2)),
 D 59 (.call 14 [(T 57), (T 58)]),
 D 56 (.mv (T 59)),
 D 60 (.ext (T 56) 0),
 D 61 (.ext (T 56) 1),
 D 16 (.alloc true [(.int .i64 0), (.int .i64 0)]),
 E (.store 2 (T 16) (T 60)),
 D 17 (.mv (T 61))])
 (.seq (.seq (.region [
 D 62 (.mv (T 13)),
 D 63 (.bin .neq (T 62) (C (.int .i64 0))),
 D 64 (.mv (T 63)),
 ⟨(some 65), (some (64, false)), 0, true, .mv (T 15)⟩,
 ⟨(some 66), (some (64, false)), 0, true, .bin .neq (T 65) (C (.int .i64 0))⟩,
 D 67 (.pick (T 64) (C (.bool true)) (T 66)),
 D 68 (.mv (T 67)),
 ⟨(some 69), (some (68, false)), 0, true, .mv (T 17)⟩,
 ⟨(some 70), (some (68, false)), 0, true, .bin .neq (T 69) (C (.int .i64 0))⟩,
 D 71 (.pick (T 68) (C (.bool true)) (T 70)),
 D 72 (.mv (T 71)),
 ⟨(some 73), (some (72, false)), 0, true, .mv (T 10)⟩,
 ⟨(some 74), (some (72, false)), 0, true, .load (some 2) (T 12)⟩,
 ⟨(some 75), (some (72, false)), 0, true, .mv (T 0)⟩,
 ⟨(some 76), (some (72, false)), 0, true, .call 16 [(T 73), (T 74), (C (.int .i64 0)), (T 75)]⟩,
 ⟨(some 77), (some (72, false)), 0, true, .un .not (T 76)⟩,
 D 78 (.pick (T 72) (C (.bool true)) (T 77))])
 (.cond (T 78)
 (.seq (.moves [
 D 79 (.load (some 2) (T 12)),
 D 80 (.load (some 2) (T 14)),
 D 6 (.mv (C (.pointer none))),
 E (.store 2 (T 7) (T 79)),
 E (.store 2 (T 8) (T 80))])
 .ret)
 .skip))
 (.seq (.moves [
 D 81 (.mv (T 10)),
 D 82 (.load (some 2) (T 12)),
 D 83 (.load (some 2) (T 14)),
 D 6 (.mv (T 81)),
 E (.store 2 (T 7) (T 82)),
 E (.store 2 (T 8) (T 83))])
 .ret)))))))))), [.tmp 6, .cell 7 (some 2), .cell 8 (some 2)]⟩
theorem ac33_ok : compFn Try.prog Try.f33 = some ac33 := by kernel_rfl
/-- a loop of winepress/rankwalk.New; it keeps [14, 42, 13, 0, 8, 4, 6] -/
def lb34_0 : ACode := (.seq (.region [
 D 43 (.bin .lss (T 42) (C (.int .i64 256)))])
 (.seq (.cond (T 43)
 .skip
 (.exit 0))
 (.seq (.block 1 (.seq (.region [
 D 44 (.mv (T 42)),
 D 15 (.mv (T 44))])
 (.seq (.region [
 D 45 (.mv (T 13)),
 D 46 (.mv (T 15)),
 D 47 (.mv (T 14)),
 D 48 (.nilck (T 45)),
 D 49 (.faddr 7 (T 48)),
 D 50 (.iaddra 1 256 (T 49) (T 46)),
 E (.store 1 (T 50) (T 47))])
 (.seq (.region [
 D 52 (.mv (T 0)),
 D 53 (.load (some 2) (T 6)),
 D 54 (.load (some 2) (T 8)),
 D 55 (.mv (T 4)),
 D 56 (.mv (T 15)),
 D 57 (.conv .u8 (T 56)),
 D 58 (.faddr 1 (T 6)),
 D 59 (.load none (T 58)),
 D 60 (.call 58 [(T 52), (T 53), (T 54), (T 55), (T 57), (T 59)]),
 D 51 (.mv (T 60)),
 D 61 (.ext (T 51) 0),
 D 62 (.ext (T 51) 1),
 D 63 (.ext (T 51) 2),
 D 16 (.mv (T 61)),
 D 17 (.mv (T 62)),
 D 18 (.mv (T 63))])
 (.region [
 D 64 (.mv (T 14)),
 D 65 (.mv (T 16)),
 D 66 (.bin .add (T 64) (T 65)),
 D 14 (.mv (T 66))])))))
 (.region [
 D 67 (.bin .add (T 42) (C (.int .i64 1))),
 D 42 (.mv (T 67))]))))
/-- winepress/rankwalk.New -/
def ac34 : AFn := ⟨(.seq (.region [
 D 6 (.box true (T 1)),
 D 8 (.box true (T 3)),
 D 10 (.mv (C (.pointer none))),
 D 11 (.mv (C (.int .i64 0)))])
 (.seq (.seq (.region [
 D 19 (.mv (T 0)),
 D 20 (.load (some 2) (T 6)),
 D 21 (.load (some 2) (T 8)),
 D 22 (.mv (T 4)),
 D 23 (.call 57 [(T 19), (T 20), (T 21), (T 22)]),
 D 12 (.mv (T 23))])
 (.seq (.region [
 D 24 (.mv (T 12)),
 D 25 (.bin .neq (T 24) (C (.int .i64 0)))])
 (.cond (T 25)
 (.seq (.region [
 D 26 (.mv (T 12)),
 D 10 (.mv (C (.pointer none))),
 D 11 (.mv (T 26))])
 .ret)
 .skip)))
 (.seq (.seq (.region [
 D 27 (.mv (T 2)),
 D 28 (.bin .lss (T 27) (C (.int .i64 1))),
 D 29 (.mv (T 28)),
 ⟨(some 30), (some (29, false)), 0, true, .mv (T 2)⟩,
 ⟨(some 31), (some (29, false)), 0, true, .faddr 1 (T 6)⟩,
 ⟨(some 32), (some (29, false)), 0, true, .load none (T 31)⟩,
 ⟨(some 33), (some (29, false)), 0, true, .bin .gtr (T 30) (T 32)⟩,
 D 34 (.pick (T 29) (C (.bool true)) (T 33))])
 (.cond (T 34)
 (.seq (.region [
 D 10 (.mv (C (.pointer none))),
 D 11 (.mv (C (.int .i64 170)))])
 .ret)
 .skip))
 (.seq (.region [
 D 35 (.mv (T 0)),
 D 36 (.load (some 2) (T 6)),
 D 37 (.load (some 2) (T 8)),
 D 38 (.mv (T 2)),
 D 39 (.mv (T 4)),
 D 40 (.build [(.pointer none), (.int .i64 0), (.int .i64 0), (.int .i64 0), (.int .i64 0), (.int .i64 0), (.int .i64 0), (.int .i64 0), (.int .i64 0), (.int .i64 0), (.int .i64 0), (.int .i64 0), (.int .i64 0), (.int .i64 0), (.int .i64 0), (.int .i64 0), (.int .i64 0), (.int .i64 0), (.int .i64 0), (.int .i64 0), (.int .i64 0), (.int .i64 0), (.int .i64 0), (.int .i64 0), (.int .i64 0), (.int .i64 0), (.int .i64 0), (.int .i64 0), (.int .i64 0), (.int .i64 0), (.int .i64 0), (.int .i64 0), (.int .i64 0), (.int .i64 0), (.int .i64 0), (.int .i64 0), (.int .i64 0), (.int .i64 0), (.int .i64 0), (.int .i64 0), (.int .i64 0), (.int .i64 0), (.int .i64 0), (.int .i64 0), (.int .i64 0), (.int .i64 0), (.int .i64 0), (.int .i64 0), (.int .i64 0), (.int .i64 0), (.int .i64 0), (.int .i64 0), (.int .i64 0), (.int .i64 0), (.int .i64 0), (.int .i64 0), (.int .i64 0), (.int .i64 0), (.int .i64 0), (.int .i64 0), (.int .i64 0), (.int .i64 0), (.int .i64 0), (.int .i64 0), (.int .i64 0), (.int .i64 0), (.int .i64 0), (.int .i64 0), (.int .i64 0), (.int .i64 0), (.int .i64 0), (.int .i64 0), (.int .i64 0), (.int .i64 0), (.int .i64 0), (.int .i64 0), (.int .i64 0), (.int .i64 0), (.int .i64 0), (.int .i64 0), (.int .i64 0), (.int .i64 0), (.int .i64 0), (.int .i64 0), (.int .i64 0), (.int .i64 0), (.int .i64 0), (.int .i64 0), (.int .i64 0), (.int .i64 0), (.int .i64 0), (.int .i64 0), (.int .i64 0), (.int .i64 0), (.int .i64 0), (.int .i64 0), (.int .i64 0), (.int .i64 0), (.int .i64 0), (.int .i64 0), (.int .i64 0), (.int .i64 0), (.int .i64 0), (.int .i64 0), (.int .i64 0), (.int .i64 0), (.int .i64 0), (.int .i64 0), (.int .i64 0), (.int .i64 0), (.int .i64 0), (.int .i64 0), (.int .i64 0), (.int .i64 0), (.int .i64 0), (.int .i64 0), (.int .i64 0), (.int .i64 0), (.int .i64 0), (.int .i64 0), (.int .i64 0), (.int .i64 0), (.int .i64 0), (.int .i64 0), (.int .i64 0), (.int .i64 0), (.int .i64 0), (.int .i64 0), (.int .i64 0), (.int .i64 0), (.int .i64 0), (.int .i64 0), (.int .i64 0), (.int .i64 0), (.int .i64 0), (.int .i64 0), (.int .i64 0), (.int .i64 0), (.int .i64 0), (.int .i64 0), (.int .i64 0), (.int .i64 0), (.int .i64 0), (.int .i64 0), (.int .i64 0), (.int .i64 0), (.int .i64 0), (.int .i64 0), (.int .i64 0), (.int .i64 0), (.int .i64 0), (.int .i64 0), (.int .i64 0), (.int .i64 0), (.int .i64 0), (.int .i64 0), (.int .i64 0), (.int .i64 0), (.int .i64 0), (.int .i64 0), (.int .i64 0), (.int .i64 0), (.int .i64 0), (.int .i64 0), (.int .i64 0), (.int .i64 0), (.int .i64 0), (.int .i64 0), (.int .i64 0), (.int .i64 0), (.int .i64 0), (.int .i64 0), (.int .i64 0), (.int .i64 0), (.int .i64 0), (.int .i64 0), (.int .i64 0), (.int .i64 0), (.int .i64 0), (.int .i64 0), (.int .i64 0), (.int .i64 0), (.int .i64 0), (.int .i64 0), (.int .i64 0), (.int .i64 0), (.int .i64 0), (.int .i64 0), (.int .i64 0), (.int .i64 0), (.int .i64 0), (.int .i64 0), (.int .i64 0), (.int .i64 0), (.int .i64 0), (.int .i64 0), (.int .i64 0), (.int .i64 0), (.int .i64 0), (.int .i64 0), (.int .i64 0), (.int .i64 0), (.int .i64 0), (.int .i64 0), (.int .i64 0), (.int .i64 0), (.int .i64 0), (.int .i64 0), (.int .i64 0), (.int .i64 0), (.int .i64 0), (.int .i64 0), (.int .i64 0), (.int .i64 0), (.int .i64 0), (.int .i64 0), (.int .i64 0), (.int .i64 0), (.int .i64 0), (.int .i64 0), (.int .i64 0), (.int .i64 0), (.int .i64 0), (.int .i64 0), (.int .i64 0), (.int .i64 0), (.int .i64 0), (.int .i64 0), (.int .i64 0), (.int .i64 0), (.int .i64 0), (.int .i64 0), (.int .i64 0), (.int .i64 0), (.int .i64 0), (.int .i64 0), (.int .i64 0), (.int .i64 0), (.int .i64 0), (.int .i64 0), (.int .i64 0), (.int .i64 0), (.int .i64 0), (.int .i64 0), (.int .i64 0), (.int .i64 0), (.int .i64 0), (.int .i64 0), (.int .i64 0), (.int .i64 0), (.int .i64 0), (.int .i64 0), (.int .i64 0), (.int .i64 0), (.int .i64 0), (.int .i64 0), (.int .i64 0), (.int .i64 0), (.int .i64 0), (.int .i64 0), (.int .i64 0), (.int .i64 0), (.int .i64 0), (.int .i64 0), (.int .i64 0), (.int .i64 0)] [(0, 1, (T 35)), (1, 2, (T 36)), (3, 2, (T 37)), (5, 1, (T 38)), (6, 1, (T 39))]),
 D 41 (.box false (T 40)),
 D 13 (.mv (T 41))])
 (.seq (.region [
 D 14 (.mv (C (.int .i64 0)))])
 (.seq (.seq (.region [
 D 42 (.mv (C (.int .i64 0)))])
 (.block 0 (.loop [14, 42, 13, 0, 8, 4, 6] lb34_0)))
 (.seq (.region [
 D 68 (.mv (T 13)),
 D 10 (.mv (T 68)),
 D 11 (.mv (C (.int .i64 0)))])
 .ret))))))), [.tmp 10, .tmp 11]⟩
theorem ac34_ok : compFn Try.prog Try.f34 = some ac34 := by kernel_rfl
/-- a loop of (*winepress/rankwalk.Walk).Valid; it keeps [3, 4, 0, 16, 17] -/
def lb35_0 : ACode := (.seq (.region [
 D 18 (.bin .lss (T 17) (T 16))])
 (.seq (.cond (T 18)
 .skip
 (.exit 0))
 (.seq (.block 1 (.seq (.region [
 D 20 (.mv (T 4)),
 D 21 (.mv (T 3)),
 D 22 (.callv (T 20) [(T 21)]),
 D 19 (.mv (T 22)),
 D 23 (.ext (T 19) 0),
 D 24 (.ext (T 19) 1),
 D 25 (.ext (T 19) 2),
 D 5 (.mv (T 23)),
 D 6 (.mv (T 24)),
 D 7 (.mv (T 25))])
 (.seq (.seq (.region [
 D 26 (.mv (T 7)),
 D 27 (.un .not (T 26))])
 (.cond (T 27)
 (.seq (.region [
 D 2 (.mv (C (.bool false)))])
 .ret)
 .skip))
 (.region [
 D 28 (.mv (T 5)),
 D 3 (.mv (T 28))]))))
 (.region [
 D 29 (.bin .add (T 17) (C (.int .i64 1))),
 D 17 (.mv (T 29))]))))
/-- (*winepress/rankwalk.Walk).Valid -/
def ac35 : AFn := ⟨(.seq (.region [
 D 2 (.mv (C (.bool false)))])
 (.seq (.seq (.region [
 D 8 (.mv (T 0)),
 D 9 (.eqs false .ptr (T 8) (C (.pointer none)))])
 (.cond (T 9)
 (.seq (.region [
 D 2 (.mv (C (.bool false)))])
 .ret)
 .skip))
 (.seq (.region [
 D 10 (.mv (T 0)),
 D 11 (.mkfn 59 [(T 10)] []),
 D 3 (.mv (C (.int .i64 0))),
 D 4 (.mv (T 11))])
 (.seq (.seq (.region [
 D 12 (.mv (T 0)),
 D 13 (.nilck (T 12)),
 D 14 (.faddr 1 (T 13)),
 D 15 (.faddr 1 (T 14)),
 D 16 (.load none (T 15)),
 D 17 (.mv (C (.int .i64 0)))])
 (.block 0 (.loop [3, 4, 0, 16, 17] lb35_0)))
 (.seq (.region [
 D 30 (.mv (T 3)),
 D 31 (.mv (T 0)),
 D 32 (.nilck (T 31)),
 D 33 (.faddr 5 (T 32)),
 D 34 (.load none (T 33)),
 D 35 (.bin .eql (T 30) (T 34)),
 D 2 (.mv (T 35))])
 .ret))))), [.tmp 2]⟩
theorem ac35_ok : compFn Try.prog Try.f35 = some ac35 := by kernel_rfl
/-- (*winepress/rankwalk.Walk).Steps -/
def ac36 : AFn := ⟨(.seq (.region [
 D 2 (.mv (C (.int .i64 0)))])
 (.seq (.seq (.region [
 D 3 (.mv (T 0)),
 D 4 (.eqs false .ptr (T 3) (C (.pointer none)))])
 (.cond (T 4)
 (.seq (.region [
 D 2 (.mv (C (.int .i64 0)))])
 .ret)
 .skip))
 (.seq (.region [
 D 5 (.mv (T 0)),
 D 6 (.nilck (T 5)),
 D 7 (.faddr 265 (T 6)),
 D 8 (.load none (T 7)),
 D 2 (.mv (T 8))])
 .ret))), [.tmp 2]⟩
theorem ac36_ok : compFn Try.prog Try.f36 = some ac36 := by kernel_rfl
/-- (*winepress/rankwalk.Walk).Next -/
def ac37 : AFn := ⟨(.seq (.region [
 D 2 (.mv (C (.int .u8 0))),
 D 3 (.mv (C (.bool false)))])
 (.seq (.seq (.drawn [
 ⟨(some 7), none, 0, false, .mv (T 0)⟩,
 ⟨(some 8), none, 1, false, .eqs false .ptr (T 7) (C (.pointer none))⟩,
 ⟨(some 9), none, 3, false, .mv (T 8)⟩,
 ⟨(some 10), (some (9, false)), 7, false, .mv (T 0)⟩,
 ⟨(some 11), (some (9, false)), 15, false, .nilck (T 10)⟩,
 ⟨(some 12), (some (9, false)), 31, false, .faddr 264 (T 11)⟩,
 ⟨(some 13), (some (9, false)), 63, false, .load none (T 12)⟩,
 ⟨(some 14), (some (9, false)), 7, false, .mv (T 0)⟩,
 ⟨(some 15), (some (9, false)), 135, false, .nilck (T 14)⟩,
 ⟨(some 16), (some (9, false)), 391, false, .faddr 1 (T 15)⟩,
 ⟨(some 17), (some (9, false)), 903, false, .faddr 1 (T 16)⟩,
 ⟨(some 18), (some (9, false)), 1927, false, .load none (T 17)⟩,
 ⟨(some 19), (some (9, false)), 4095, false, .bin .eql (T 13) (T 18)⟩,
 ⟨(some 20), none, 8191, false, .pick (T 9) (C (.bool true)) (T 19)⟩])
 (.cond (T 20)
 (.seq (.region [
 D 2 (.mv (C (.int .u8 0))),
 D 3 (.mv (C (.bool false)))])
 .ret)
 .skip))
 (.seq (.region [
 D 22 (.mv (T 0)),
 D 23 (.mv (T 0)),
 D 24 (.nilck (T 23)),
 D 25 (.faddr 263 (T 24)),
 D 26 (.load none (T 25)),
 D 27 (.call 59 [(T 22), (T 26)]),
 D 21 (.mv (T 27)),
 D 28 (.ext (T 21) 0),
 D 29 (.ext (T 21) 1),
 D 30 (.ext (T 21) 2),
 D 4 (.mv (T 28)),
 D 5 (.mv (T 29)),
 D 6 (.mv (T 30))])
 (.seq (.seq (.region [
 D 31 (.mv (T 6)),
 D 32 (.un .not (T 31))])
 (.cond (T 32)
 (.seq (.region [
 D 2 (.mv (C (.int .u8 0))),
 D 3 (.mv (C (.bool false)))])
 .ret)
 .skip))
 (.seq (.region [
 D 33 (.mv (T 0)),
 D 34 (.mv (T 4)),
 D 35 (.nilck (T 33)),
 D 36 (.faddr 263 (T 35)),
 E (.store 1 (T 36) (T 34))])
 (.seq (.region [
 D 37 (.mv (T 0)),
 D 38 (.nilck (T 37)),
 D 39 (.faddr 264 (T 38)),
 D 40 (.load none (T 39)),
 D 41 (.bin .add (T 40) (C (.int .i64 1))),
 D 42 (.nilck (T 37)),
 D 43 (.faddr 264 (T 42)),
 E (.store 1 (T 43) (T 41))])
 (.seq (.region [
 D 44 (.mv (T 5)),
 D 2 (.mv (T 44)),
 D 3 (.mv (C (.bool true)))])
 .ret))))))), [.tmp 2, .tmp 3]⟩
theorem ac37_ok : compFn Try.prog Try.f37 = some ac37 := by kernel_rfl
/-- (*winepress/rankwalk.Walk).Told -/
def ac38 : AFn := ⟨(.seq (.region [
 D 2 (.mv (C (.int .i64 0)))])
 (.seq (.seq (.region [
 D 3 (.mv (T 0)),
 D 4 (.eqs false .ptr (T 3) (C (.pointer none)))])
 (.cond (T 4)
 (.seq (.region [
 D 2 (.mv (C (.int .i64 0)))])
 .ret)
 .skip))
 (.seq (.region [
 D 5 (.mv (T 0)),
 D 6 (.nilck (T 5)),
 D 7 (.faddr 264 (T 6)),
 D 8 (.load none (T 7)),
 D 2 (.mv (T 8))])
 .ret))), [.tmp 2]⟩
theorem ac38_ok : compFn Try.prog Try.f38 = some ac38 := by kernel_rfl
/-- (*winepress/winepressref21.Walk).Next -/
def ac39 : AFn := ⟨(.seq (.region [
 D 2 (.mv (C (.int .u8 0))),
 D 3 (.mv (C (.bool false)))])
 (.seq (.seq (.drawn [
 ⟨(some 7), none, 0, false, .mv (T 0)⟩,
 ⟨(some 8), none, 1, false, .nilck (T 7)⟩,
 ⟨(some 9), none, 3, false, .faddr 4 (T 8)⟩,
 ⟨(some 10), none, 7, false, .load none (T 9)⟩,
 ⟨(some 11), none, 0, false, .mv (T 0)⟩,
 ⟨(some 12), none, 16, false, .nilck (T 11)⟩,
 ⟨(some 13), none, 48, false, .faddr 0 (T 12)⟩,
 ⟨(some 14), none, 112, false, .load none (T 13)⟩,
 ⟨(some 15), none, 240, false, .len (T 14)⟩,
 ⟨(some 16), none, 511, false, .bin .eql (T 10) (T 15)⟩])
 (.cond (T 16)
 (.seq (.region [
 D 2 (.mv (C (.int .u8 0))),
 D 3 (.mv (C (.bool false)))])
 .ret)
 .skip))
 (.seq (.region [
 D 18 (.mv (T 0)),
 D 19 (.mv (T 0)),
 D 20 (.nilck (T 19)),
 D 21 (.faddr 3 (T 20)),
 D 22 (.load none (T 21)),
 D 23 (.call 60 [(T 18), (T 22)]),
 D 17 (.mv (T 23)),
 D 24 (.ext (T 17) 0),
 D 25 (.ext (T 17) 1),
 D 26 (.ext (T 17) 2),
 D 4 (.mv (T 24)),
 D 5 (.mv (T 25)),
 D 6 (.mv (T 26))])
 (.seq (.seq (.region [
 D 27 (.mv (T 6))])
 (.cond (T 27)
 (.seq (.region [
 D 28 (.mv (T 0)),
 D 29 (.mv (T 4)),
 D 30 (.nilck (T 28)),
 D 31 (.faddr 3 (T 30)),
 E (.store 1 (T 31) (T 29))])
 (.region [
 D 32 (.mv (T 0)),
 D 33 (.nilck (T 32)),
 D 34 (.faddr 4 (T 33)),
 D 35 (.load none (T 34)),
 D 36 (.bin .add (T 35) (C (.int .i64 1))),
 D 37 (.nilck (T 32)),
 D 38 (.faddr 4 (T 37)),
 E (.store 1 (T 38) (T 36))]))
 .skip))
 (.seq (.region [
 D 39 (.mv (T 5)),
 D 40 (.mv (T 6)),
 D 2 (.mv (T 39)),
 D 3 (.mv (T 40))])
 .ret))))), [.tmp 2, .tmp 3]⟩
theorem ac39_ok : compFn Try.prog Try.f39 = some ac39 := by kernel_rfl
/-- a loop of (*winepress/winepressref21.Walk).Valid; it keeps [3, 0, 4] -/
def lb40_0 : ACode := (.seq (.seq (.region [
 D 8 (.mv (T 4)),
 D 9 (.mv (T 0)),
 D 10 (.nilck (T 9)),
 D 11 (.faddr 0 (T 10)),
 D 12 (.load none (T 11)),
 D 13 (.len (T 12)),
 D 14 (.bin .lss (T 8) (T 13))])
 (.cond (T 14)
 .skip
 (.exit 0)))
 (.seq (.block 1 (.seq (.region [
 D 18 (.mv (T 0)),
 D 19 (.mv (T 3)),
 D 20 (.call 60 [(T 18), (T 19)]),
 D 17 (.mv (T 20)),
 D 21 (.ext (T 17) 0),
 D 22 (.ext (T 17) 1),
 D 23 (.ext (T 17) 2),
 D 5 (.mv (T 21)),
 D 6 (.mv (T 22)),
 D 7 (.mv (T 23))])
 (.seq (.seq (.region [
 D 24 (.mv (T 7)),
 D 25 (.un .not (T 24))])
 (.cond (T 25)
 (.seq (.region [
 D 2 (.mv (C (.bool false)))])
 .ret)
 .skip))
 (.region [
 D 26 (.mv (T 5)),
 D 3 (.mv (T 26))]))))
 (.region [
 D 15 (.mv (T 4)),
 D 16 (.bin .add (T 15) (C (.int .i64 1))),
 D 4 (.mv (T 16))])))
/-- (*winepress/winepressref21.Walk).Valid -/
def ac40 : AFn := ⟨(.seq (.region [
 D 2 (.mv (C (.bool false)))])
 (.seq (.region [
 D 3 (.mv (C (.int .i64 0)))])
 (.seq (.seq (.region [
 D 4 (.mv (C (.int .i64 0)))])
 (.block 0 (.loop [3, 0, 4] lb40_0)))
 (.seq (.region [
 D 27 (.mv (T 3)),
 D 28 (.mv (T 0)),
 D 29 (.nilck (T 28)),
 D 30 (.faddr 1 (T 29)),
 D 31 (.load none (T 30)),
 D 32 (.bin .eql (T 27) (T 31)),
 D 2 (.mv (T 32))])
 .ret)))), [.tmp 2]⟩
theorem ac40_ok : compFn Try.prog Try.f40 = some ac40 := by kernel_rfl
/-- (*winepress/rankwalk.Walk).Reset -/
def ac41 : AFn := ⟨(.seq (.region [
 D 2 (.mv (T 0)),
 D 3 (.eqs true .ptr (T 2) (C (.pointer none)))])
 (.cond (T 3)
 (.region [
 D 4 (.mv (T 0)),
 D 5 (.mv (T 0)),
 D 6 (.nilck (T 4)),
 D 7 (.faddr 263 (T 6)),
 E (.store 1 (T 7) (C (.int .i64 0))),
 D 8 (.nilck (T 5)),
 D 9 (.faddr 264 (T 8)),
 E (.store 1 (T 9) (C (.int .i64 0)))])
 .skip)), []⟩
theorem ac41_ok : compFn Try.prog Try.f41 = some ac41 := by kernel_rfl
/-- (*winepress/arena.Arena).Mark -/
def ac42 : AFn := ⟨(.seq (.region [
 D 2 (.mv (C (.int .i64 0)))])
 (.seq (.seq (.region [
 D 3 (.mv (T 0)),
 D 4 (.eqs false .ptr (T 3) (C (.pointer none)))])
 (.cond (T 4)
 (.seq (.region [
 D 2 (.mv (C (.int .i64 0)))])
 .ret)
 .skip))
 (.seq (.region [
 D 5 (.mv (T 0)),
 D 6 (.nilck (T 5)),
 D 7 (.faddr 1 (T 6)),
 D 8 (.load none (T 7)),
 D 2 (.mv (T 8))])
 .ret))), [.tmp 2]⟩
theorem ac42_ok : compFn Try.prog Try.f42 = some ac42 := by kernel_rfl
/-- (*winepress/arena.Arena).Has -/
def ac44 : AFn := ⟨(.seq (.region [
 D 3 (.box true (T 1)),
 D 4 (.mv (C (.bool false)))])
 (.seq (.drawn [
 ⟨(some 5), none, 0, false, .mv (T 0)⟩,
 ⟨(some 6), none, 1, false, .eqs true .ptr (T 5) (C (.pointer none))⟩,
 ⟨(some 7), none, 3, false, .mv (T 6)⟩,
 ⟨(some 8), (some (7, true)), 7, false, .faddr 0 (T 3)⟩,
 ⟨(some 9), (some (7, true)), 15, true, .load none (T 8)⟩,
 ⟨(some 10), (some (7, true)), 31, false, .bin .geq (T 9) (C (.int .i64 0))⟩,
 ⟨(some 11), none, 63, false, .pick (T 7) (T 10) (C (.bool false))⟩,
 ⟨(some 12), none, 127, false, .mv (T 11)⟩,
 ⟨(some 13), (some (12, true)), 255, false, .faddr 1 (T 3)⟩,
 ⟨(some 14), (some (12, true)), 511, true, .load none (T 13)⟩,
 ⟨(some 15), (some (12, true)), 1023, false, .bin .geq (T 14) (C (.int .i64 0))⟩,
 ⟨(some 16), none, 2047, false, .pick (T 12) (T 15) (C (.bool false))⟩,
 ⟨(some 17), none, 4095, false, .mv (T 16)⟩,
 ⟨(some 18), (some (17, true)), 8191, false, .faddr 0 (T 3)⟩,
 ⟨(some 19), (some (17, true)), 16383, false, .load none (T 18)⟩,
 ⟨(some 20), (some (17, true)), 8191, false, .mv (T 0)⟩,
 ⟨(some 21), (some (17, true)), 40959, false, .nilck (T 20)⟩,
 ⟨(some 22), (some (17, true)), 106495, false, .faddr 1 (T 21)⟩,
 ⟨(some 23), (some (17, true)), 237567, false, .load none (T 22)⟩,
 ⟨(some 24), (some (17, true)), 524287, false, .bin .leq (T 19) (T 23)⟩,
 ⟨(some 25), none, 1048575, false, .pick (T 17) (T 24) (C (.bool false))⟩,
 ⟨(some 26), none, 2097151, false, .mv (T 25)⟩,
 ⟨(some 27), (some (26, true)), 4194303, false, .faddr 1 (T 3)⟩,
 ⟨(some 28), (some (26, true)), 8388607, false, .load none (T 27)⟩,
 ⟨(some 29), (some (26, true)), 4194303, false, .mv (T 0)⟩,
 ⟨(some 30), (some (26, true)), 20971519, false, .nilck (T 29)⟩,
 ⟨(some 31), (some (26, true)), 54525951, false, .faddr 1 (T 30)⟩,
 ⟨(some 32), (some (26, true)), 121634815, false, .load none (T 31)⟩,
 ⟨(some 33), (some (26, true)), 4194303, false, .faddr 0 (T 3)⟩,
 ⟨(some 34), (some (26, true)), 272629759, false, .load none (T 33)⟩,
 ⟨(some 35), (some (26, true)), 1061158911, false, .bin .sub (T 32) (T 34)⟩,
 ⟨(some 36), (some (26, true)), 2147483647, false, .bin .leq (T 28) (T 35)⟩,
 ⟨(some 37), none, 4294967295, false, .pick (T 26) (T 36) (C (.bool false))⟩,
 ⟨(some 4), none, 8589934591, false, .mv (T 37)⟩])
 .ret)), [.tmp 4]⟩
theorem ac44_ok : compFn Try.prog Try.f44 = some ac44 := by kernel_rfl
/-- a loop of (*winepress/arena.Arena).SetWord; it keeps [17, 16, 9, 3] -/
def lb49_0 : ACode := (.seq (.region [
 D 18 (.bin .lss (T 17) (T 16))])
 (.seq (.cond (T 18)
 .skip
 (.exit 0))
 (.seq (.block 1 (.seq (.region [
 D 19 (.mv (T 17)),
 D 10 (.mv (T 19))])
 (.region [
 D 20 (.mv (T 9)),
 D 21 (.mv (T 10)),
 D 22 (.mv (T 3)),
 D 23 (.mv (T 10)),
 D 24 (.bin .mul (C (.int .i64 8)) (T 23)),
 D 25 (.bin .shr (T 22) (T 24)),
 D 26 (.conv .u8 (T 25)),
 D 27 (.iaddr 1 (T 20) (T 21)),
 E (.store 1 (T 27) (T 26))])))
 (.region [
 D 28 (.bin .add (T 17) (C (.int .i64 1))),
 D 17 (.mv (T 28))]))))
/-- (*winepress/arena.Arena).SetWord -/
def ac49 : AFn := ⟨(.seq (.region [
 D 5 (.box true (T 1)),
 D 8 (.mv (C (.bool false)))])
 (.seq (.region [
 D 11 (.mv (T 0)),
 D 12 (.load (some 2) (T 5)),
 D 13 (.mv (T 2)),
 D 14 (.call 51 [(T 11), (T 12), (T 13)]),
 D 9 (.mv (T 14))])
 (.seq (.seq (.region [
 D 15 (.mv (T 9)),
 D 16 (.len (T 15)),
 D 17 (.mv (C (.int .i64 0)))])
 (.block 0 (.loop [17, 16, 9, 3] lb49_0)))
 (.seq (.region [
 D 29 (.mv (T 9)),
 D 30 (.eqs true .slice (T 29) (C (.slice none 0 0))),
 D 8 (.mv (T 30))])
 .ret)))), [.tmp 8]⟩
theorem ac49_ok : compFn Try.prog Try.f49 = some ac49 := by kernel_rfl
/-- bytes.Clone -/
def ac50 : AFn := ⟨(.seq (.region [
 D 2 (.mv (C (.slice none 0 0)))])
 (.seq (.seq (.region [
 D 3 (.mv (T 0)),
 D 4 (.eqs false .slice (T 3) (C (.slice none 0 0)))])
 (.cond (T 4)
 (.seq (.region [
 D 2 (.mv (C (.slice none 0 0)))])
 .ret)
 .skip))
 (.seq (.region [
 D 5 (.bslice true 1 0 [] []),
 D 6 (.mv (T 0)),
 D 7 (.append true 1 (T 5) (T 6)),
 D 2 (.mv (T 7))])
 .ret))), [.tmp 2]⟩
theorem ac50_ok : compFn Try.prog Try.f50 = some ac50 := by kernel_rfl
/-- (*winepress/arena.Arena).word -/
def ac51 : AFn := ⟨(.seq (.region [
 D 4 (.box true (T 1)),
 D 6 (.mv (C (.slice none 0 0)))])
 (.seq (.seq (.region [
 D 7 (.mv (T 2)),
 D 8 (.bin .lss (T 7) (C (.int .i64 0))),
 D 9 (.mv (T 8)),
 ⟨(some 10), (some (9, false)), 0, true, .mv (T 2)⟩,
 ⟨(some 11), (some (9, false)), 0, true, .bin .gtr (T 10) (C (.int .i64 1048576))⟩,
 D 12 (.pick (T 9) (C (.bool true)) (T 11))])
 (.cond (T 12)
 (.seq (.region [
 D 6 (.mv (C (.slice none 0 0)))])
 .ret)
 .skip))
 (.seq (.region [
 D 13 (.mv (T 0)),
 D 14 (.load (some 2) (T 4)),
 D 15 (.mv (T 2)),
 D 16 (.bin .shl (T 15) (C (.int .u64 2))),
 D 17 (.call 62 [(T 13), (T 14), (T 16), (C (.int .i64 4))]),
 D 6 (.mv (T 17))])
 .ret))), [.tmp 6]⟩
theorem ac51_ok : compFn Try.prog Try.f51 = some ac51 := by kernel_rfl
/-- a loop of winepress/winepressref17.Order; it keeps [5, 0, 4, 3] -/
def lb54_0 : ACode := (.seq (.seq (.region [
 D 15 (.mv (T 5)),
 D 16 (.bin .gtr (T 15) (C (.int .i64 0))),
 D 17 (.mv (T 16)),
 ⟨(some 18), (some (17, true)), 0, true, .mv (T 0)⟩,
 ⟨(some 19), (some (17, true)), 0, true, .mv (T 4)⟩,
 ⟨(some 20), (some (17, true)), 0, true, .mv (T 3)⟩,
 ⟨(some 21), (some (17, true)), 0, true, .mv (T 5)⟩,
 ⟨(some 22), (some (17, true)), 0, true, .bin .sub (T 21) (C (.int .i64 1))⟩,
 ⟨(some 23), (some (17, true)), 0, true, .iaddr 1 (T 20) (T 22)⟩,
 ⟨(some 24), (some (17, true)), 0, true, .load none (T 23)⟩,
 ⟨(some 25), (some (17, true)), 0, true, .call 64 [(T 18), (T 19), (T 24)]⟩,
 D 26 (.pick (T 17) (T 25) (C (.bool false)))])
 (.cond (T 26)
 .skip
 (.exit 2)))
 (.block 3 (.region [
 D 27 (.mv (T 5)),
 D 28 (.bin .sub (T 27) (C (.int .i64 1))),
 D 5 (.mv (T 28))])))
/-- a loop of winepress/winepressref17.Order; it keeps [0, 4, 3] -/
def lb54_1 : ACode := (.seq (.seq (.region [
 D 7 (.mv (T 4)),
 D 8 (.mv (T 0)),
 D 9 (.len (T 8)),
 D 10 (.bin .leq (T 7) (T 9))])
 (.cond (T 10)
 .skip
 (.exit 0)))
 (.seq (.block 1 (.seq (.region [
 D 13 (.mv (T 3)),
 D 14 (.len (T 13)),
 D 5 (.mv (T 14))])
 (.seq (.block 2 (.loop [5, 0, 4, 3] lb54_0))
 (.seq (.region [
 D 6 (.mv (C (.slice none 0 0)))])
 (.seq (.region [
 D 29 (.mv (T 6)),
 D 30 (.mv (T 3)),
 D 31 (.mv (T 5)),
 D 32 (.slice 1 (T 30) none (some (T 31)) none),
 D 33 (.append true 1 (T 29) (T 32)),
 D 6 (.mv (T 33))])
 (.seq (.region [
 D 34 (.mv (T 6)),
 D 35 (.mv (T 4)),
 D 36 (.bslice true 1 1 [(.int .i64 0)] [(0, 1, (T 35))]),
 D 37 (.append true 1 (T 34) (T 36)),
 D 6 (.mv (T 37))])
 (.region [
 D 38 (.mv (T 6)),
 D 39 (.mv (T 3)),
 D 40 (.mv (T 5)),
 D 41 (.slice 1 (T 39) (some (T 40)) none none),
 D 42 (.append true 1 (T 38) (T 41)),
 D 3 (.mv (T 42))])))))))
 (.region [
 D 11 (.mv (T 4)),
 D 12 (.bin .add (T 11) (C (.int .i64 1))),
 D 4 (.mv (T 12))])))
/-- winepress/winepressref17.Order -/
def ac54 : AFn := ⟨(.seq (.region [
 D 2 (.mv (C (.slice none 0 0)))])
 (.seq (.region [
 D 3 (.mv (C (.slice none 0 0)))])
 (.seq (.seq (.region [
 D 4 (.mv (C (.int .i64 0)))])
 (.block 0 (.loop [0, 4, 3] lb54_1)))
 (.seq (.region [
 D 43 (.mv (T 3)),
 D 2 (.mv (T 43))])
 .ret)))), [.tmp 2]⟩
theorem ac54_ok : compFn Try.prog Try.f54 = some ac54 := by kernel_rfl
/-- a loop of winepress/winepressref17.Back; it keeps [1, 0, 6, 9, 7, 8] -/
def lb56_0 : ACode := (.seq (.seq (.region [
 D 30 (.mv (T 9)),
 D 31 (.mv (T 0)),
 D 32 (.len (T 31)),
 D 33 (.bin .lss (T 30) (T 32))])
 (.cond (T 33)
 .skip
 (.exit 0)))
 (.seq (.block 1 (.seq (.seq (.region [
 D 36 (.mv (T 8)),
 D 37 (.mv (T 1)),
 D 38 (.bin .eql (T 36) (T 37))])
 (.cond (T 38)
 (.seq (.region [
 D 4 (.mv (C (.slice none 0 0))),
 D 5 (.mv (C (.int .i64 170)))])
 .ret)
 .skip))
 (.seq (.region [
 D 39 (.mv (T 8)),
 D 10 (.mv (T 39))])
 (.seq (.seq (.region [
 D 40 (.mv (T 8)),
 D 41 (.mv (T 1)),
 D 42 (.bin .gtr (T 40) (T 41))])
 (.cond (T 42)
 (.region [
 D 43 (.mv (T 8)),
 D 44 (.bin .sub (T 43) (C (.int .i64 1))),
 D 10 (.mv (T 44))])
 .skip))
 (.seq (.region [
 D 45 (.mv (T 7)),
 D 46 (.mv (T 0)),
 D 47 (.mv (T 10)),
 D 48 (.iaddr 1 (T 46) (T 47)),
 D 49 (.load none (T 48)),
 D 50 (.bslice true 1 1 [(.int .u8 0)] [(0, 1, (T 49))]),
 D 51 (.append true 1 (T 45) (T 50)),
 D 7 (.mv (T 51))])
 (.region [
 D 52 (.mv (T 6)),
 D 53 (.mv (T 10)),
 D 54 (.iaddr 1 (T 52) (T 53)),
 D 55 (.load none (T 54)),
 D 8 (.mv (T 55))]))))))
 (.region [
 D 34 (.mv (T 9)),
 D 35 (.bin .add (T 34) (C (.int .i64 1))),
 D 9 (.mv (T 35))])))
/-- winepress/winepressref17.Back -/
def ac56 : AFn := ⟨(.seq (.region [
 D 4 (.mv (C (.slice none 0 0))),
 D 5 (.mv (C (.int .i64 0)))])
 (.seq (.seq (.region [
 D 11 (.mv (T 1)),
 D 12 (.bin .lss (T 11) (C (.int .i64 0))),
 D 13 (.mv (T 12)),
 ⟨(some 14), (some (13, false)), 0, true, .mv (T 1)⟩,
 ⟨(some 15), (some (13, false)), 0, true, .mv (T 0)⟩,
 ⟨(some 16), (some (13, false)), 0, true, .len (T 15)⟩,
 ⟨(some 17), (some (13, false)), 0, true, .bin .gtr (T 14) (T 16)⟩,
 D 18 (.pick (T 13) (C (.bool true)) (T 17)),
 D 19 (.mv (T 18)),
 ⟨(some 20), (some (19, false)), 0, true, .mv (T 1)⟩,
 ⟨(some 21), (some (19, false)), 0, true, .bin .eql (T 20) (C (.int .i64 0))⟩,
 ⟨(some 22), (some (19, false)), 0, true, .mv (T 21)⟩,
 ⟨(some 23), (some (22, true)), 0, true, .mv (T 0)⟩,
 ⟨(some 24), (some (22, true)), 0, true, .len (T 23)⟩,
 ⟨(some 25), (some (22, true)), 0, true, .bin .gtr (T 24) (C (.int .i64 0))⟩,
 ⟨(some 26), (some (19, false)), 0, true, .pick (T 22) (T 25) (C (.bool false))⟩,
 D 27 (.pick (T 19) (C (.bool true)) (T 26))])
 (.cond (T 27)
 (.seq (.region [
 D 4 (.mv (C (.slice none 0 0))),
 D 5 (.mv (C (.int .i64 170)))])
 .ret)
 .skip))
 (.seq (.region [
 D 28 (.mv (T 0)),
 D 29 (.call 65 [(T 28)]),
 D 6 (.mv (T 29))])
 (.seq (.region [
 D 7 (.mv (C (.slice none 0 0)))])
 (.seq (.region [
 D 8 (.mv (C (.int .i64 0)))])
 (.seq (.seq (.region [
 D 9 (.mv (C (.int .i64 0)))])
 (.block 0 (.loop [1, 0, 6, 9, 7, 8] lb56_0)))
 (.seq (.seq (.region [
 D 56 (.mv (T 8)),
 D 57 (.mv (T 1)),
 D 58 (.bin .neq (T 56) (T 57))])
 (.cond (T 58)
 (.seq (.region [
 D 4 (.mv (C (.slice none 0 0))),
 D 5 (.mv (C (.int .i64 170)))])
 .ret)
 .skip))
 (.seq (.region [
 D 59 (.mv (T 7)),
 D 60 (.call 66 [(T 59)]),
 D 4 (.mv (T 60)),
 D 5 (.mv (C (.int .i64 0)))])
 .ret)))))))), [.tmp 4, .tmp 5]⟩
theorem ac56_ok : compFn Try.prog Try.f56 = some ac56 := by kernel_rfl
/-- a loop of winepress/rank.Make; it keeps [55, 3, 9, 5, 27, 28, 54, 0, 6, 13] -/
def lb57_0 : ACode := (.seq (.region [
 D 56 (.bin .lss (T 55) (C (.int .i64 256)))])
 (.seq (.cond (T 56)
 .skip
 (.exit 2))
 (.seq (.block 3 (.seq (.region [
 D 57 (.mv (T 55)),
 D 58 (.idx 1 256 none (T 54) (T 55)),
 D 14 (.mv (T 57)),
 D 15 (.mv (T 58))])
 (.region [
 D 59 (.mv (T 0)),
 D 60 (.load (some 2) (T 6)),
 D 61 (.mv (T 13)),
 D 62 (.mv (T 14)),
 D 63 (.bin .add (T 61) (T 62)),
 D 64 (.mv (T 15)),
 D 65 (.conv .u32 (T 64)),
 D 66 (.call 49 [(T 59), (T 60), (T 63), (T 65)])])))
 (.region [
 D 67 (.bin .add (T 55) (C (.int .i64 1))),
 D 55 (.mv (T 67))]))))
/-- a loop of winepress/rank.Make; it keeps [28, 27, 5, 6, 0, 9, 3] -/
def lb57_1 : ACode := (.seq (.region [
 D 29 (.bin .lss (T 28) (T 27))])
 (.seq (.cond (T 29)
 .skip
 (.exit 0))
 (.seq (.block 1 (.seq (.region [
 D 30 (.mv (T 28)),
 D 10 (.mv (T 30))])
 (.seq (.region [
 D 32 (.mv (T 0)),
 D 33 (.load (some 2) (T 5)),
 D 34 (.mv (T 10)),
 D 35 (.call 61 [(T 32), (T 33), (T 34)]),
 D 31 (.mv (T 35)),
 D 36 (.ext (T 31) 0),
 D 37 (.ext (T 31) 1),
 D 11 (.mv (T 36)),
 D 12 (.mv (T 37))])
 (.seq (.region [
 D 38 (.mv (T 11)),
 D 39 (.iaddra 1 256 (T 9) (T 38)),
 D 40 (.load none (T 39)),
 D 41 (.bin .add (T 40) (C (.int .i64 1))),
 D 42 (.iaddra 1 256 (T 9) (T 38)),
 E (.store 1 (T 42) (T 41))])
 (.seq (.seq (.region [
 D 43 (.mv (T 10)),
 D 44 (.bin .add (T 43) (C (.int .i64 1))),
 D 45 (.mv (T 3)),
 D 46 (.bin .rem (T 44) (T 45)),
 D 47 (.bin .neq (T 46) (C (.int .i64 0)))])
 (.cond (T 47)
 (.exit 1)
 .skip))
 (.seq (.region [
 D 48 (.mv (T 10)),
 D 49 (.bin .add (T 48) (C (.int .i64 1))),
 D 50 (.mv (T 3)),
 D 51 (.bin .quo (T 49) (T 50)),
 D 52 (.bin .sub (T 51) (C (.int .i64 1))),
 D 53 (.bin .mul (T 52) (C (.int .i64 256))),
 D 13 (.mv (T 53))])
 (.seq (.region [
 D 54 (.load (some 256) (T 9)),
 D 55 (.mv (C (.int .i64 0)))])
 (.block 2 (.loop [55, 3, 9, 5, 27, 28, 54, 0, 6, 13] lb57_0)))))))))
 (.region [
 D 68 (.bin .add (T 28) (C (.int .i64 1))),
 D 28 (.mv (T 68))]))))
/-- winepress/rank.Make -/
def ac57 : AFn := ⟨(.seq (.region [
 D 5 (.box true (T 1)),
 D 6 (.box true (T 2)),
 D 8 (.mv (C (.int .i64 0)))])
 (.seq (.seq (.region [
 D 16 (.mv (T 0)),
 D 17 (.load (some 2) (T 5)),
 D 18 (.load (some 2) (T 6)),
 D 19 (.mv (T 3)),
 D 20 (.call 67 [(T 16), (T 17), (T 18), (T 19)]),
 D 21 (.un .not (T 20))])
 (.cond (T 21)
 (.seq (.region [
 D 8 (.mv (C (.int .i64 2)))])
 .ret)
 .skip))
 (.seq (.region [
 D 9 (.alloc true (List.replicate 256 (.int .i64 0)))])
 (.seq (.seq (.region [
 D 22 (.faddr 1 (T 5)),
 D 23 (.load none (T 22)),
 D 24 (.mv (T 3)),
 D 25 (.bin .quo (T 23) (T 24)),
 D 26 (.mv (T 3)),
 D 27 (.bin .mul (T 25) (T 26)),
 D 28 (.mv (C (.int .i64 0)))])
 (.block 0 (.loop [28, 27, 5, 6, 0, 9, 3] lb57_1)))
 (.seq (.region [
 D 8 (.mv (C (.int .i64 0)))])
 .ret))))), [.tmp 8]⟩
theorem ac57_ok : compFn Try.prog Try.f57 = some ac57 := by kernel_rfl
/-- a loop of winepress/rank.Rank; it keeps [12, 13, 18, 5, 0, 7, 4] -/
def lb58_0 : ACode := (.seq (.seq (.region [
 D 56 (.mv (T 18)),
 D 57 (.mv (T 5)),
 D 58 (.bin .lss (T 56) (T 57))])
 (.cond (T 58)
 .skip
 (.exit 0)))
 (.seq (.block 1 (.seq (.seq (.region [
 D 62 (.mv (T 0)),
 D 63 (.load (some 2) (T 7)),
 D 64 (.mv (T 18)),
 D 65 (.call 61 [(T 62), (T 63), (T 64)]),
 D 61 (.mv (T 65)),
 D 66 (.ext (T 61) 0),
 D 67 (.ext (T 61) 1),
 D 19 (.mv (T 66)),
 D 20 (.mv (T 67))])
 (.seq (.region [
 D 68 (.mv (T 19)),
 D 69 (.mv (T 4)),
 D 70 (.bin .eql (T 68) (T 69))])
 (.cond (T 70)
 (.region [
 D 71 (.mv (T 12)),
 D 72 (.bin .add (T 71) (C (.int .i64 1))),
 D 12 (.mv (T 72))])
 .skip)))
 (.region [
 D 73 (.mv (T 13)),
 D 74 (.bin .add (T 73) (C (.int .i64 1))),
 D 13 (.mv (T 74))])))
 (.region [
 D 59 (.mv (T 18)),
 D 60 (.bin .add (T 59) (C (.int .i64 1))),
 D 18 (.mv (T 60))])))
/-- winepress/rank.Rank -/
def ac58 : AFn := ⟨(.seq (.region [
 D 7 (.box true (T 1)),
 D 8 (.box true (T 2)),
 D 12 (.mv (C (.int .i64 0))),
 D 13 (.mv (C (.int .i64 0))),
 D 14 (.mv (C (.bool false)))])
 (.seq (.seq (.region [
 D 21 (.mv (T 0)),
 D 22 (.load (some 2) (T 7)),
 D 23 (.load (some 2) (T 8)),
 D 24 (.mv (T 3)),
 D 25 (.call 67 [(T 21), (T 22), (T 23), (T 24)]),
 D 26 (.un .not (T 25)),
 D 27 (.mv (T 26)),
 ⟨(some 28), (some (27, false)), 0, true, .mv (T 5)⟩,
 ⟨(some 29), (some (27, false)), 0, true, .faddr 1 (T 7)⟩,
 ⟨(some 30), (some (27, false)), 0, true, .load none (T 29)⟩,
 ⟨(some 31), (some (27, false)), 0, true, .call 68 [(T 28), (C (.int .i64 0)), (T 30)]⟩,
 ⟨(some 32), (some (27, false)), 0, true, .un .not (T 31)⟩,
 D 33 (.pick (T 27) (C (.bool true)) (T 32))])
 (.cond (T 33)
 (.seq (.region [
 D 12 (.mv (C (.int .i64 0))),
 D 13 (.mv (C (.int .i64 0))),
 D 14 (.mv (C (.bool false)))])
 .ret)
 .skip))
 (.seq (.region [
 D 34 (.mv (T 5)),
 D 35 (.mv (T 3)),
 D 36 (.bin .quo (T 34) (T 35)),
 D 15 (.mv (T 36))])
 (.seq (.seq (.region [
 D 37 (.mv (T 15)),
 D 38 (.bin .gtr (T 37) (C (.int .i64 0)))])
 (.cond (T 38)
 (.seq (.region [
 D 40 (.mv (T 0)),
 D 41 (.load (some 2) (T 8)),
 D 42 (.mv (T 15)),
 D 43 (.bin .sub (T 42) (C (.int .i64 1))),
 D 44 (.bin .mul (T 43) (C (.int .i64 256))),
 D 45 (.mv (T 4)),
 D 46 (.conv .i64 (T 45)),
 D 47 (.bin .add (T 44) (T 46)),
 D 48 (.call 22 [(T 40), (T 41), (T 47)]),
 D 39 (.mv (T 48)),
 D 49 (.ext (T 39) 0),
 D 50 (.ext (T 39) 1),
 D 16 (.mv (T 49)),
 D 17 (.mv (T 50))])
 (.region [
 D 51 (.mv (T 16)),
 D 52 (.conv .i64 (T 51)),
 D 12 (.mv (T 52))]))
 .skip))
 (.seq (.seq (.region [
 D 53 (.mv (T 15)),
 D 54 (.mv (T 3)),
 D 55 (.bin .mul (T 53) (T 54)),
 D 18 (.mv (T 55))])
 (.block 0 (.loop [12, 13, 18, 5, 0, 7, 4] lb58_0)))
 (.seq (.region [
 D 75 (.mv (T 12)),
 D 76 (.mv (T 13)),
 D 12 (.mv (T 75)),
 D 13 (.mv (T 76)),
 D 14 (.mv (C (.bool true)))])
 .ret)))))), [.tmp 12, .tmp 13, .tmp 14]⟩
theorem ac58_ok : compFn Try.prog Try.f58 = some ac58 := by kernel_rfl
/-- (*winepress/rankwalk.Walk).behind -/
def ac59 : AFn := ⟨(.seq (.region [
 D 4 (.mv (C (.int .i64 0))),
 D 5 (.mv (C (.int .u8 0))),
 D 6 (.mv (C (.bool false)))])
 (.seq (.seq (.region [
 D 12 (.mv (T 1)),
 D 13 (.mv (T 0)),
 D 14 (.nilck (T 13)),
 D 15 (.faddr 5 (T 14)),
 D 16 (.load none (T 15)),
 D 17 (.bin .eql (T 12) (T 16))])
 (.cond (T 17)
 (.seq (.region [
 D 4 (.mv (C (.int .i64 0))),
 D 5 (.mv (C (.int .u8 0))),
 D 6 (.mv (C (.bool false)))])
 .ret)
 .skip))
 (.seq (.region [
 D 18 (.mv (T 1)),
 D 7 (.mv (T 18))])
 (.seq (.seq (.region [
 D 19 (.mv (T 1)),
 D 20 (.mv (T 0)),
 D 21 (.nilck (T 20)),
 D 22 (.faddr 5 (T 21)),
 D 23 (.load none (T 22)),
 D 24 (.bin .gtr (T 19) (T 23))])
 (.cond (T 24)
 (.region [
 D 25 (.mv (T 7)),
 D 26 (.bin .sub (T 25) (C (.int .i64 1))),
 D 7 (.mv (T 26))])
 .skip))
 (.seq (.drawn [
 ⟨(some 28), none, 0, false, .mv (T 0)⟩,
 ⟨(some 29), none, 1, false, .nilck (T 28)⟩,
 ⟨(some 30), none, 3, false, .faddr 0 (T 29)⟩,
 ⟨(some 31), none, 7, false, .load none (T 30)⟩,
 ⟨(some 32), none, 0, false, .mv (T 0)⟩,
 ⟨(some 33), none, 16, false, .nilck (T 32)⟩,
 ⟨(some 34), none, 48, false, .faddr 1 (T 33)⟩,
 ⟨(some 35), none, 112, false, .load (some 2) (T 34)⟩,
 ⟨(some 36), none, 0, false, .mv (T 7)⟩,
 ⟨(some 37), none, 511, true, .call 61 [(T 31), (T 35), (T 36)]⟩,
 ⟨(some 27), none, 1023, false, .mv (T 37)⟩,
 ⟨(some 38), none, 2047, false, .ext (T 27) 0⟩,
 ⟨(some 39), none, 2047, false, .ext (T 27) 1⟩,
 ⟨(some 5), none, 4095, false, .mv (T 38)⟩,
 ⟨(some 8), none, 16383, false, .mv (T 39)⟩])
 (.seq (.drawn [
 ⟨(some 41), none, 0, false, .mv (T 0)⟩,
 ⟨(some 42), none, 1, false, .nilck (T 41)⟩,
 ⟨(some 43), none, 3, false, .faddr 0 (T 42)⟩,
 ⟨(some 44), none, 7, false, .load none (T 43)⟩,
 ⟨(some 45), none, 0, false, .mv (T 0)⟩,
 ⟨(some 46), none, 16, false, .nilck (T 45)⟩,
 ⟨(some 47), none, 48, false, .faddr 1 (T 46)⟩,
 ⟨(some 48), none, 112, false, .load (some 2) (T 47)⟩,
 ⟨(some 49), none, 0, false, .mv (T 0)⟩,
 ⟨(some 50), none, 256, false, .nilck (T 49)⟩,
 ⟨(some 51), none, 768, false, .faddr 3 (T 50)⟩,
 ⟨(some 52), none, 1792, false, .load (some 2) (T 51)⟩,
 ⟨(some 53), none, 0, false, .mv (T 0)⟩,
 ⟨(some 54), none, 4096, false, .nilck (T 53)⟩,
 ⟨(some 55), none, 12288, false, .faddr 6 (T 54)⟩,
 ⟨(some 56), none, 28672, false, .load none (T 55)⟩,
 ⟨(some 57), none, 0, false, .mv (T 5)⟩,
 ⟨(some 58), none, 0, false, .mv (T 7)⟩,
 ⟨(some 59), none, 262143, true, .call 58 [(T 44), (T 48), (T 52), (T 56), (T 57), (T 58)]⟩,
 ⟨(some 40), none, 524287, false, .mv (T 59)⟩,
 ⟨(some 60), none, 1048575, false, .ext (T 40) 0⟩,
 ⟨(some 61), none, 1048575, false, .ext (T 40) 1⟩,
 ⟨(some 62), none, 1048575, false, .ext (T 40) 2⟩,
 ⟨(some 9), none, 2097151, false, .mv (T 60)⟩,
 ⟨(some 10), none, 12582911, false, .mv (T 61)⟩,
 ⟨(some 11), none, 33554431, false, .mv (T 62)⟩])
 (.seq (.seq (.region [
 D 63 (.mv (T 8)),
 D 64 (.un .not (T 63)),
 D 65 (.mv (T 64)),
 ⟨(some 66), (some (65, false)), 0, true, .mv (T 11)⟩,
 ⟨(some 67), (some (65, false)), 0, true, .un .not (T 66)⟩,
 D 68 (.pick (T 65) (C (.bool true)) (T 67))])
 (.cond (T 68)
 (.seq (.region [
 D 4 (.mv (C (.int .i64 0))),
 D 5 (.mv (C (.int .u8 0))),
 D 6 (.mv (C (.bool false)))])
 .ret)
 .skip))
 (.seq (.region [
 D 69 (.mv (T 0)),
 D 70 (.nilck (T 69)),
 D 71 (.faddr 265 (T 70)),
 D 72 (.load none (T 71)),
 D 73 (.mv (T 10)),
 D 74 (.bin .add (C (.int .i64 1)) (T 73)),
 D 75 (.bin .add (T 72) (T 74)),
 D 76 (.nilck (T 69)),
 D 77 (.faddr 265 (T 76)),
 E (.store 1 (T 77) (T 75))])
 (.seq (.region [
 D 78 (.mv (T 0)),
 D 79 (.mv (T 5)),
 D 80 (.nilck (T 78)),
 D 81 (.faddr 7 (T 80)),
 D 82 (.iaddra 1 256 (T 81) (T 79)),
 D 83 (.load none (T 82)),
 D 84 (.bin .add (C (.int .i64 1)) (T 83)),
 D 85 (.mv (T 9)),
 D 86 (.bin .add (T 84) (T 85)),
 D 87 (.mv (T 5)),
 D 4 (.mv (T 86)),
 D 5 (.mv (T 87)),
 D 6 (.mv (C (.bool true)))])
 .ret))))))))), [.tmp 4, .tmp 5, .tmp 6]⟩
theorem ac59_ok : compFn Try.prog Try.f59 = some ac59 := by kernel_rfl
/-- (*winepress/winepressref21.Walk).behind -/
def ac60 : AFn := ⟨(.seq (.region [
 D 4 (.mv (C (.int .i64 0))),
 D 5 (.mv (C (.int .u8 0))),
 D 6 (.mv (C (.bool false)))])
 (.seq (.drawn [
 ⟨(some 12), none, 0, false, .mv (T 0)⟩,
 ⟨(some 13), none, 1, false, .nilck (T 12)⟩,
 ⟨(some 14), none, 3, false, .faddr 0 (T 13)⟩,
 ⟨(some 15), none, 7, false, .load none (T 14)⟩,
 ⟨(some 16), none, 0, false, .mv (T 0)⟩,
 ⟨(some 17), none, 16, false, .nilck (T 16)⟩,
 ⟨(some 18), none, 48, false, .faddr 1 (T 17)⟩,
 ⟨(some 19), none, 112, false, .load none (T 18)⟩,
 ⟨(some 20), none, 0, false, .mv (T 1)⟩,
 ⟨(some 21), none, 511, true, .call 31 [(T 15), (T 19), (T 20)]⟩,
 ⟨(some 11), none, 1023, false, .mv (T 21)⟩,
 ⟨(some 22), none, 2047, false, .ext (T 11) 0⟩,
 ⟨(some 23), none, 2047, false, .ext (T 11) 1⟩,
 ⟨(some 24), none, 2047, false, .ext (T 11) 2⟩,
 ⟨(some 7), none, 4095, false, .mv (T 22)⟩,
 ⟨(some 8), none, 24575, false, .mv (T 23)⟩,
 ⟨(some 9), none, 65535, false, .mv (T 24)⟩])
 (.seq (.seq (.region [
 D 25 (.mv (T 9))])
 (.cond (T 25)
 (.seq (.region [
 D 26 (.mv (T 1)),
 D 10 (.mv (T 26))])
 (.seq (.seq (.region [
 D 27 (.mv (T 1)),
 D 28 (.mv (T 0)),
 D 29 (.nilck (T 28)),
 D 30 (.faddr 1 (T 29)),
 D 31 (.load none (T 30)),
 D 32 (.bin .gtr (T 27) (T 31))])
 (.cond (T 32)
 (.region [
 D 33 (.mv (T 1)),
 D 34 (.bin .sub (T 33) (C (.int .i64 1))),
 D 10 (.mv (T 34))])
 .skip))
 (.drawn [
 ⟨(some 35), none, 0, false, .mv (T 0)⟩,
 ⟨(some 36), none, 0, false, .mv (T 0)⟩,
 ⟨(some 37), none, 2, false, .nilck (T 36)⟩,
 ⟨(some 38), none, 6, false, .faddr 5 (T 37)⟩,
 ⟨(some 39), none, 14, false, .load none (T 38)⟩,
 ⟨(some 40), none, 30, false, .bin .add (T 39) (C (.int .i64 1))⟩,
 ⟨(some 41), none, 0, false, .mv (T 10)⟩,
 ⟨(some 42), none, 0, false, .mv (T 0)⟩,
 ⟨(some 43), none, 128, false, .nilck (T 42)⟩,
 ⟨(some 44), none, 384, false, .faddr 2 (T 43)⟩,
 ⟨(some 45), none, 896, false, .load none (T 44)⟩,
 ⟨(some 46), none, 1984, false, .bin .rem (T 41) (T 45)⟩,
 ⟨(some 47), none, 4094, false, .bin .add (T 40) (T 46)⟩,
 ⟨(some 48), none, 8191, false, .nilck (T 35)⟩,
 ⟨(some 49), none, 16383, false, .faddr 5 (T 48)⟩,
 ⟨none, none, 32767, true, .store 1 (T 49) (T 47)⟩])))
 .skip))
 (.seq (.region [
 D 50 (.mv (T 7)),
 D 51 (.mv (T 8)),
 D 52 (.mv (T 9)),
 D 4 (.mv (T 50)),
 D 5 (.mv (T 51)),
 D 6 (.mv (T 52))])
 .ret)))), [.tmp 4, .tmp 5, .tmp 6]⟩
theorem ac60_ok : compFn Try.prog Try.f60 = some ac60 := by kernel_rfl
/-- (*winepress/arena.Arena).Byte -/
def ac61 : AFn := ⟨(.seq (.region [
 D 4 (.box true (T 1)),
 D 6 (.mv (C (.int .u8 0))),
 D 7 (.mv (C (.bool false)))])
 (.seq (.region [
 D 9 (.mv (T 0)),
 D 10 (.load (some 2) (T 4)),
 D 11 (.mv (T 2)),
 D 12 (.call 62 [(T 9), (T 10), (T 11), (C (.int .i64 1))]),
 D 8 (.mv (T 12))])
 (.seq (.seq (.region [
 D 13 (.mv (T 8)),
 D 14 (.eqs false .slice (T 13) (C (.slice none 0 0)))])
 (.cond (T 14)
 (.seq (.region [
 D 6 (.mv (C (.int .u8 0))),
 D 7 (.mv (C (.bool false)))])
 .ret)
 .skip))
 (.seq (.region [
 D 15 (.mv (T 8)),
 D 16 (.iaddr 1 (T 15) (C (.int .i64 0))),
 D 17 (.load none (T 16)),
 D 6 (.mv (T 17)),
 D 7 (.mv (C (.bool true)))])
 .ret)))), [.tmp 6, .tmp 7]⟩
theorem ac61_ok : compFn Try.prog Try.f61 = some ac61 := by kernel_rfl
/-- (*winepress/arena.Arena).part -/
def ac62 : AFn := ⟨(.seq (.region [
 D 5 (.box true (T 1)),
 D 8 (.mv (C (.slice none 0 0)))])
 (.seq (.seq (.region [
 D 9 (.mv (T 0)),
 D 10 (.load (some 2) (T 5)),
 D 11 (.call 44 [(T 9), (T 10)]),
 D 12 (.un .not (T 11)),
 D 13 (.mv (T 12)),
 ⟨(some 14), (some (13, false)), 0, true, .mv (T 2)⟩,
 ⟨(some 15), (some (13, false)), 0, true, .bin .lss (T 14) (C (.int .i64 0))⟩,
 D 16 (.pick (T 13) (C (.bool true)) (T 15)),
 D 17 (.mv (T 16)),
 ⟨(some 18), (some (17, false)), 0, true, .mv (T 2)⟩,
 ⟨(some 19), (some (17, false)), 0, true, .faddr 1 (T 5)⟩,
 ⟨(some 20), (some (17, false)), 0, true, .load none (T 19)⟩,
 ⟨(some 21), (some (17, false)), 0, true, .mv (T 3)⟩,
 ⟨(some 22), (some (17, false)), 0, true, .bin .sub (T 20) (T 21)⟩,
 ⟨(some 23), (some (17, false)), 0, true, .bin .gtr (T 18) (T 22)⟩,
 D 24 (.pick (T 17) (C (.bool true)) (T 23))])
 (.cond (T 24)
 (.seq (.region [
 D 8 (.mv (C (.slice none 0 0)))])
 .ret)
 .skip))
 (.seq (.region [
 D 25 (.mv (T 2)),
 D 26 (.faddr 0 (T 5)),
 D 27 (.load none (T 26)),
 D 28 (.bin .add (T 25) (T 27)),
 D 2 (.mv (T 28))])
 (.seq (.region [
 D 29 (.mv (T 0)),
 D 30 (.nilck (T 29)),
 D 31 (.faddr 0 (T 30)),
 D 32 (.load none (T 31)),
 D 33 (.mv (T 2)),
 D 34 (.mv (T 2)),
 D 35 (.mv (T 3)),
 D 36 (.bin .add (T 34) (T 35)),
 D 37 (.mv (T 2)),
 D 38 (.mv (T 3)),
 D 39 (.bin .add (T 37) (T 38)),
 D 40 (.slice 1 (T 32) (some (T 33)) (some (T 36)) (some (T 39))),
 D 8 (.mv (T 40))])
 .ret)))), [.tmp 8]⟩
theorem ac62_ok : compFn Try.prog Try.f62 = some ac62 := by kernel_rfl
/-- a loop of winepress/winepressref17.Less; it keeps [1, 2, 0] -/
def lb64_0 : ACode := (.seq (.seq (.drawn [
 ⟨(some 25), none, 0, false, .mv (T 1)⟩,
 ⟨(some 26), none, 0, false, .mv (T 0)⟩,
 ⟨(some 27), none, 2, false, .len (T 26)⟩,
 ⟨(some 28), none, 7, false, .bin .lss (T 25) (T 27)⟩,
 ⟨(some 29), none, 15, false, .mv (T 28)⟩,
 ⟨(some 30), (some (29, true)), 31, false, .mv (T 2)⟩,
 ⟨(some 31), (some (29, true)), 31, false, .mv (T 0)⟩,
 ⟨(some 32), (some (29, true)), 95, false, .len (T 31)⟩,
 ⟨(some 33), (some (29, true)), 255, false, .bin .lss (T 30) (T 32)⟩,
 ⟨(some 34), none, 511, false, .pick (T 29) (T 33) (C (.bool false))⟩,
 ⟨(some 35), none, 1023, false, .mv (T 34)⟩,
 ⟨(some 36), (some (35, true)), 2047, false, .mv (T 0)⟩,
 ⟨(some 37), (some (35, true)), 2047, false, .mv (T 1)⟩,
 ⟨(some 38), (some (35, true)), 8191, false, .iaddr 1 (T 36) (T 37)⟩,
 ⟨(some 39), (some (35, true)), 16383, false, .load none (T 38)⟩,
 ⟨(some 40), (some (35, true)), 2047, false, .mv (T 0)⟩,
 ⟨(some 41), (some (35, true)), 2047, false, .mv (T 2)⟩,
 ⟨(some 42), (some (35, true)), 100351, false, .iaddr 1 (T 40) (T 41)⟩,
 ⟨(some 43), (some (35, true)), 231423, false, .load none (T 42)⟩,
 ⟨(some 44), (some (35, true)), 524287, false, .bin .eql (T 39) (T 43)⟩,
 ⟨(some 45), none, 1048575, false, .pick (T 35) (T 44) (C (.bool false))⟩,
 ⟨(some 46), none, 2097151, false, .mv (T 45)⟩,
 ⟨(some 47), (some (46, true)), 4194303, false, .mv (T 1)⟩,
 ⟨(some 48), (some (46, true)), 4194303, false, .mv (T 2)⟩,
 ⟨(some 49), (some (46, true)), 16777215, false, .bin .neq (T 47) (T 48)⟩,
 ⟨(some 50), none, 33554431, false, .pick (T 46) (T 49) (C (.bool false))⟩])
 (.cond (T 50)
 .skip
 (.exit 0)))
 (.block 1 (.seq (.region [
 D 51 (.mv (T 1)),
 D 52 (.bin .add (T 51) (C (.int .i64 1))),
 D 1 (.mv (T 52))])
 (.region [
 D 53 (.mv (T 2)),
 D 54 (.bin .add (T 53) (C (.int .i64 1))),
 D 2 (.mv (T 54))]))))
/-- winepress/winepressref17.Less -/
def ac64 : AFn := ⟨(.seq (.region [
 D 6 (.mv (C (.bool false)))])
 (.seq (.seq (.region [
 D 7 (.mv (T 1)),
 D 8 (.bin .lss (T 7) (C (.int .i64 0))),
 D 9 (.mv (T 8)),
 ⟨(some 10), (some (9, false)), 0, true, .mv (T 1)⟩,
 ⟨(some 11), (some (9, false)), 0, true, .mv (T 0)⟩,
 ⟨(some 12), (some (9, false)), 0, true, .len (T 11)⟩,
 ⟨(some 13), (some (9, false)), 0, true, .bin .gtr (T 10) (T 12)⟩,
 D 14 (.pick (T 9) (C (.bool true)) (T 13)),
 D 15 (.mv (T 14)),
 ⟨(some 16), (some (15, false)), 0, true, .mv (T 2)⟩,
 ⟨(some 17), (some (15, false)), 0, true, .bin .lss (T 16) (C (.int .i64 0))⟩,
 D 18 (.pick (T 15) (C (.bool true)) (T 17)),
 D 19 (.mv (T 18)),
 ⟨(some 20), (some (19, false)), 0, true, .mv (T 2)⟩,
 ⟨(some 21), (some (19, false)), 0, true, .mv (T 0)⟩,
 ⟨(some 22), (some (19, false)), 0, true, .len (T 21)⟩,
 ⟨(some 23), (some (19, false)), 0, true, .bin .gtr (T 20) (T 22)⟩,
 D 24 (.pick (T 19) (C (.bool true)) (T 23))])
 (.cond (T 24)
 (.seq (.region [
 D 6 (.mv (C (.bool false)))])
 .ret)
 .skip))
 (.seq (.block 0 (.loop [1, 2, 0] lb64_0))
 (.seq (.seq (.region [
 D 55 (.mv (T 1)),
 D 56 (.mv (T 2)),
 D 57 (.bin .eql (T 55) (T 56)),
 D 58 (.mv (T 57)),
 ⟨(some 59), (some (58, false)), 0, true, .mv (T 2)⟩,
 ⟨(some 60), (some (58, false)), 0, true, .mv (T 0)⟩,
 ⟨(some 61), (some (58, false)), 0, true, .len (T 60)⟩,
 ⟨(some 62), (some (58, false)), 0, true, .bin .eql (T 59) (T 61)⟩,
 D 63 (.pick (T 58) (C (.bool true)) (T 62))])
 (.cond (T 63)
 (.seq (.region [
 D 6 (.mv (C (.bool false)))])
 .ret)
 .skip))
 (.seq (.drawn [
 ⟨(some 64), none, 0, false, .mv (T 1)⟩,
 ⟨(some 65), none, 0, false, .mv (T 0)⟩,
 ⟨(some 66), none, 2, false, .len (T 65)⟩,
 ⟨(some 67), none, 7, false, .bin .eql (T 64) (T 66)⟩,
 ⟨(some 68), none, 15, false, .mv (T 67)⟩,
 ⟨(some 69), (some (68, false)), 31, false, .mv (T 0)⟩,
 ⟨(some 70), (some (68, false)), 31, false, .mv (T 1)⟩,
 ⟨(some 71), (some (68, false)), 127, false, .iaddr 1 (T 69) (T 70)⟩,
 ⟨(some 72), (some (68, false)), 255, false, .load none (T 71)⟩,
 ⟨(some 73), (some (68, false)), 31, false, .mv (T 0)⟩,
 ⟨(some 74), (some (68, false)), 31, false, .mv (T 2)⟩,
 ⟨(some 75), (some (68, false)), 1567, false, .iaddr 1 (T 73) (T 74)⟩,
 ⟨(some 76), (some (68, false)), 3615, false, .load none (T 75)⟩,
 ⟨(some 77), (some (68, false)), 8191, false, .bin .lss (T 72) (T 76)⟩,
 ⟨(some 78), none, 16383, false, .pick (T 68) (C (.bool true)) (T 77)⟩,
 ⟨(some 6), none, 32767, false, .mv (T 78)⟩])
 .ret))))), [.tmp 6]⟩
theorem ac64_ok : compFn Try.prog Try.f64 = some ac64 := by kernel_rfl
/-- a loop of winepress/winepressref17.After; it keeps [7, 8, 0, 3, 4] -/
def lb65_0 : ACode := (.seq (.seq (.region [
 D 31 (.mv (T 8)),
 D 32 (.mv (T 0)),
 D 33 (.len (T 32)),
 D 34 (.bin .lss (T 31) (T 33))])
 (.cond (T 34)
 .skip
 (.exit 4)))
 (.seq (.block 5 (.seq (.region [
 D 37 (.mv (T 0)),
 D 38 (.mv (T 8)),
 D 39 (.iaddr 1 (T 37) (T 38)),
 D 40 (.load none (T 39)),
 D 9 (.mv (T 40))])
 (.seq (.drawn [
 ⟨(some 41), none, 0, false, .mv (T 7)⟩,
 ⟨(some 42), none, 0, false, .mv (T 9)⟩,
 ⟨(some 43), none, 2, false, .iaddra 1 256 (T 3) (T 42)⟩,
 ⟨(some 44), none, 6, false, .load none (T 43)⟩,
 ⟨(some 45), none, 14, false, .bin .add (C (.int .i64 1)) (T 44)⟩,
 ⟨(some 46), none, 0, false, .mv (T 9)⟩,
 ⟨(some 47), none, 32, false, .iaddra 1 256 (T 4) (T 46)⟩,
 ⟨(some 48), none, 96, false, .load none (T 47)⟩,
 ⟨(some 49), none, 254, false, .bin .add (T 45) (T 48)⟩,
 ⟨(some 50), none, 510, false, .bslice true 1 1 [(.int .i64 0)] [(0, 1, (T 49))]⟩,
 ⟨(some 51), none, 1023, true, .append true 1 (T 41) (T 50)⟩,
 ⟨(some 7), none, 2047, false, .mv (T 51)⟩])
 (.region [
 D 52 (.mv (T 9)),
 D 53 (.iaddra 1 256 (T 4) (T 52)),
 D 54 (.load none (T 53)),
 D 55 (.bin .add (T 54) (C (.int .i64 1))),
 D 56 (.iaddra 1 256 (T 4) (T 52)),
 E (.store 1 (T 56) (T 55))]))))
 (.region [
 D 35 (.mv (T 8)),
 D 36 (.bin .add (T 35) (C (.int .i64 1))),
 D 8 (.mv (T 36))])))
/-- a loop of winepress/winepressref17.After; it keeps [6, 4, 0, 5, 3] -/
def lb65_1 : ACode := (.seq (.seq (.region [
 D 22 (.mv (T 6)),
 D 23 (.bin .lss (T 22) (C (.int .i64 256)))])
 (.cond (T 23)
 .skip
 (.exit 2)))
 (.seq (.block 3 (.region [
 D 26 (.mv (T 6)),
 D 27 (.iaddra 1 256 (T 3) (T 26)),
 D 28 (.load none (T 27)),
 D 29 (.bin .add (T 28) (C (.int .i64 1))),
 D 30 (.iaddra 1 256 (T 3) (T 26)),
 E (.store 1 (T 30) (T 29))]))
 (.region [
 D 24 (.mv (T 6)),
 D 25 (.bin .add (T 24) (C (.int .i64 1))),
 D 6 (.mv (T 25))])))
/-- a loop of winepress/winepressref17.After; it keeps [0, 4, 5, 3] -/
def lb65_2 : ACode := (.seq (.seq (.region [
 D 10 (.mv (T 5)),
 D 11 (.mv (T 0)),
 D 12 (.len (T 11)),
 D 13 (.bin .lss (T 10) (T 12))])
 (.cond (T 13)
 .skip
 (.exit 0)))
 (.seq (.block 1 (.seq (.region [
 D 16 (.mv (T 0)),
 D 17 (.mv (T 5)),
 D 18 (.iaddr 1 (T 16) (T 17)),
 D 19 (.load none (T 18)),
 D 20 (.conv .i64 (T 19)),
 D 21 (.bin .add (T 20) (C (.int .i64 1))),
 D 6 (.mv (T 21))])
 (.block 2 (.loop [6, 4, 0, 5, 3] lb65_1))))
 (.region [
 D 14 (.mv (T 5)),
 D 15 (.bin .add (T 14) (C (.int .i64 1))),
 D 5 (.mv (T 15))])))
/-- winepress/winepressref17.After -/
def ac65 : AFn := ⟨(.seq (.region [
 D 2 (.mv (C (.slice none 0 0)))])
 (.seq (.region [
 D 3 (.alloc true (List.replicate 256 (.int .i64 0))),
 D 4 (.alloc true (List.replicate 256 (.int .i64 0)))])
 (.seq (.seq (.region [
 D 5 (.mv (C (.int .i64 0)))])
 (.block 0 (.loop [0, 4, 5, 3] lb65_2)))
 (.seq (.region [
 D 7 (.mv (C (.slice none 0 0)))])
 (.seq (.seq (.region [
 D 8 (.mv (C (.int .i64 0)))])
 (.block 4 (.loop [7, 8, 0, 3, 4] lb65_0)))
 (.seq (.region [
 D 57 (.mv (T 7)),
 D 2 (.mv (T 57))])
 .ret)))))), [.tmp 2]⟩
theorem ac65_ok : compFn Try.prog Try.f65 = some ac65 := by kernel_rfl
/-- a loop of winepress/winepressref17.Turned; it keeps [3, 4, 0] -/
def lb66_0 : ACode := (.seq (.seq (.region [
 D 8 (.mv (T 4)),
 D 9 (.bin .geq (T 8) (C (.int .i64 0)))])
 (.cond (T 9)
 .skip
 (.exit 0)))
 (.seq (.block 1 (.region [
 D 12 (.mv (T 3)),
 D 13 (.mv (T 0)),
 D 14 (.mv (T 4)),
 D 15 (.iaddr 1 (T 13) (T 14)),
 D 16 (.load none (T 15)),
 D 17 (.bslice true 1 1 [(.int .u8 0)] [(0, 1, (T 16))]),
 D 18 (.append true 1 (T 12) (T 17)),
 D 3 (.mv (T 18))]))
 (.region [
 D 10 (.mv (T 4)),
 D 11 (.bin .sub (T 10) (C (.int .i64 1))),
 D 4 (.mv (T 11))])))
/-- winepress/winepressref17.Turned -/
def ac66 : AFn := ⟨(.seq (.region [
 D 2 (.mv (C (.slice none 0 0)))])
 (.seq (.region [
 D 3 (.mv (C (.slice none 0 0)))])
 (.seq (.seq (.region [
 D 5 (.mv (T 0)),
 D 6 (.len (T 5)),
 D 7 (.bin .sub (T 6) (C (.int .i64 1))),
 D 4 (.mv (T 7))])
 (.block 0 (.loop [3, 4, 0] lb66_0)))
 (.seq (.region [
 D 19 (.mv (T 3)),
 D 2 (.mv (T 19))])
 .ret)))), [.tmp 2]⟩
theorem ac66_ok : compFn Try.prog Try.f66 = some ac66 := by kernel_rfl
/-- winepress/rank.Valid -/
def ac67 : AFn := ⟨(.seq (.region [
 D 5 (.box true (T 1)),
 D 6 (.box true (T 2)),
 D 8 (.mv (C (.bool false)))])
 (.seq (.seq (.region [
 D 9 (.mv (T 0)),
 D 10 (.load (some 2) (T 5)),
 D 11 (.call 44 [(T 9), (T 10)]),
 D 12 (.un .not (T 11)),
 D 13 (.mv (T 12)),
 ⟨(some 14), (some (13, false)), 0, true, .mv (T 0)⟩,
 ⟨(some 15), (some (13, false)), 0, true, .load (some 2) (T 6)⟩,
 ⟨(some 16), (some (13, false)), 0, true, .call 44 [(T 14), (T 15)]⟩,
 ⟨(some 17), (some (13, false)), 0, true, .un .not (T 16)⟩,
 D 18 (.pick (T 13) (C (.bool true)) (T 17)),
 D 19 (.mv (T 18)),
 ⟨(some 20), (some (19, false)), 0, true, .faddr 1 (T 5)⟩,
 ⟨(some 21), (some (19, false)), 0, true, .load none (T 20)⟩,
 ⟨(some 22), (some (19, false)), 0, true, .call 68 [(T 21), (C (.int .i64 1)), (C (.int .i64 65536))]⟩,
 ⟨(some 23), (some (19, false)), 0, true, .un .not (T 22)⟩,
 D 24 (.pick (T 19) (C (.bool true)) (T 23)),
 D 25 (.mv (T 24)),
 ⟨(some 26), (some (25, false)), 0, true, .mv (T 3)⟩,
 ⟨(some 27), (some (25, false)), 0, true, .call 68 [(T 26), (C (.int .i64 1)), (C (.int .i64 65536))]⟩,
 ⟨(some 28), (some (25, false)), 0, true, .un .not (T 27)⟩,
 D 29 (.pick (T 25) (C (.bool true)) (T 28))])
 (.cond (T 29)
 (.seq (.region [
 D 8 (.mv (C (.bool false)))])
 .ret)
 .skip))
 (.seq (.drawn [
 ⟨(some 30), none, 0, false, .load (some 2) (T 5)⟩,
 ⟨(some 31), none, 0, false, .load (some 2) (T 6)⟩,
 ⟨(some 32), none, 3, true, .call 69 [(T 30), (T 31)]⟩,
 ⟨(some 33), none, 7, false, .mv (T 32)⟩,
 ⟨(some 34), (some (33, true)), 15, false, .faddr 1 (T 6)⟩,
 ⟨(some 35), (some (33, true)), 31, false, .load none (T 34)⟩,
 ⟨(some 36), (some (33, true)), 15, false, .faddr 1 (T 5)⟩,
 ⟨(some 37), (some (33, true)), 79, false, .load none (T 36)⟩,
 ⟨(some 38), (some (33, true)), 15, false, .mv (T 3)⟩,
 ⟨(some 39), (some (33, true)), 463, false, .call 70 [(T 37), (T 38)]⟩,
 ⟨(some 40), (some (33, true)), 1023, false, .bin .geq (T 35) (T 39)⟩,
 ⟨(some 41), none, 2047, false, .pick (T 33) (T 40) (C (.bool false))⟩,
 ⟨(some 8), none, 4095, false, .mv (T 41)⟩])
 .ret))), [.tmp 8]⟩
theorem ac67_ok : compFn Try.prog Try.f67 = some ac67 := by kernel_rfl
/-- winepress/rank.within -/
def ac68 : AFn := ⟨(.seq (.region [
 D 6 (.mv (C (.bool false)))])
 (.seq (.region [
 D 7 (.mv (T 0)),
 D 8 (.mv (T 1)),
 D 9 (.bin .geq (T 7) (T 8)),
 D 10 (.mv (T 9)),
 ⟨(some 11), (some (10, true)), 0, true, .mv (T 0)⟩,
 ⟨(some 12), (some (10, true)), 0, true, .mv (T 2)⟩,
 ⟨(some 13), (some (10, true)), 0, true, .bin .leq (T 11) (T 12)⟩,
 D 14 (.pick (T 10) (T 13) (C (.bool false))),
 D 6 (.mv (T 14))])
 .ret)), [.tmp 6]⟩
theorem ac68_ok : compFn Try.prog Try.f68 = some ac68 := by kernel_rfl
/-- winepress/rank.apart -/
def ac69 : AFn := ⟨(.seq (.region [
 D 2 (.box true (T 0)),
 D 3 (.box true (T 1)),
 D 4 (.mv (C (.bool false)))])
 (.seq (.region [
 D 5 (.faddr 1 (T 2)),
 D 6 (.load none (T 5)),
 D 7 (.bin .eql (T 6) (C (.int .i64 0))),
 D 8 (.mv (T 7)),
 ⟨(some 9), (some (8, false)), 0, true, .faddr 1 (T 3)⟩,
 ⟨(some 10), (some (8, false)), 0, true, .load none (T 9)⟩,
 ⟨(some 11), (some (8, false)), 0, true, .bin .eql (T 10) (C (.int .i64 0))⟩,
 D 12 (.pick (T 8) (C (.bool true)) (T 11)),
 D 13 (.mv (T 12)),
 ⟨(some 14), (some (13, false)), 0, true, .faddr 0 (T 2)⟩,
 ⟨(some 15), (some (13, false)), 0, true, .load none (T 14)⟩,
 ⟨(some 16), (some (13, false)), 0, true, .faddr 1 (T 2)⟩,
 ⟨(some 17), (some (13, false)), 0, true, .load none (T 16)⟩,
 ⟨(some 18), (some (13, false)), 0, true, .bin .add (T 15) (T 17)⟩,
 ⟨(some 19), (some (13, false)), 0, true, .faddr 0 (T 3)⟩,
 ⟨(some 20), (some (13, false)), 0, true, .load none (T 19)⟩,
 ⟨(some 21), (some (13, false)), 0, true, .bin .leq (T 18) (T 20)⟩,
 D 22 (.pick (T 13) (C (.bool true)) (T 21)),
 D 23 (.mv (T 22)),
 ⟨(some 24), (some (23, false)), 0, true, .faddr 0 (T 3)⟩,
 ⟨(some 25), (some (23, false)), 0, true, .load none (T 24)⟩,
 ⟨(some 26), (some (23, false)), 0, true, .faddr 1 (T 3)⟩,
 ⟨(some 27), (some (23, false)), 0, true, .load none (T 26)⟩,
 ⟨(some 28), (some (23, false)), 0, true, .bin .add (T 25) (T 27)⟩,
 ⟨(some 29), (some (23, false)), 0, true, .faddr 0 (T 2)⟩,
 ⟨(some 30), (some (23, false)), 0, true, .load none (T 29)⟩,
 ⟨(some 31), (some (23, false)), 0, true, .bin .leq (T 28) (T 30)⟩,
 D 32 (.pick (T 23) (C (.bool true)) (T 31)),
 D 4 (.mv (T 32))])
 .ret)), [.tmp 4]⟩
theorem ac69_ok : compFn Try.prog Try.f69 = some ac69 := by kernel_rfl
/-- winepress/rank.Size -/
def ac70 : AFn := ⟨(.seq (.region [
 D 4 (.mv (C (.int .i64 0)))])
 (.seq (.seq (.region [
 D 5 (.mv (T 0)),
 D 6 (.call 68 [(T 5), (C (.int .i64 0)), (C (.int .i64 65536))]),
 D 7 (.un .not (T 6)),
 D 8 (.mv (T 7)),
 ⟨(some 9), (some (8, false)), 0, true, .mv (T 1)⟩,
 ⟨(some 10), (some (8, false)), 0, true, .call 68 [(T 9), (C (.int .i64 1)), (C (.int .i64 65536))]⟩,
 ⟨(some 11), (some (8, false)), 0, true, .un .not (T 10)⟩,
 D 12 (.pick (T 8) (C (.bool true)) (T 11))])
 (.cond (T 12)
 (.seq (.region [
 D 4 (.mv (C (.int .i64 0)))])
 .ret)
 .skip))
 (.seq (.region [
 D 13 (.mv (T 0)),
 D 14 (.mv (T 1)),
 D 15 (.bin .quo (T 13) (T 14)),
 D 16 (.bin .mul (T 15) (C (.int .i64 1024))),
 D 4 (.mv (T 16))])
 .ret))), [.tmp 4]⟩
theorem ac70_ok : compFn Try.prog Try.f70 = some ac70 := by kernel_rfl
def env0 : Env := [(6, ac6), (7, ac7), (8, ac8), (9, ac9), (12, ac12), (14, ac14), (16, ac16), (20, ac20), (22, ac22), (24, ac24), (30, ac30), (31, ac31), (32, ac32), (33, ac33), (34, ac34), (35, ac35), (36, ac36), (37, ac37), (38, ac38), (39, ac39), (40, ac40), (41, ac41), (42, ac42), (44, ac44), (49, ac49), (50, ac50), (51, ac51), (54, ac54), (56, ac56), (57, ac57), (58, ac58), (59, ac59), (60, ac60), (61, ac61), (62, ac62), (64, ac64), (65, ac65), (66, ac66), (67, ac67), (68, ac68), (69, ac69), (70, ac70)]
theorem env0_ok : EnvOk Try.prog env0 :=
 EnvOk.cons Try.func6 ac6_ok (of_decide_eq_true (by kernel_rfl)) <|
 EnvOk.cons Try.func7 ac7_ok (of_decide_eq_true (by kernel_rfl)) <|
 EnvOk.cons Try.func8 ac8_ok (of_decide_eq_true (by kernel_rfl)) <|
 EnvOk.cons Try.func9 ac9_ok (of_decide_eq_true (by kernel_rfl)) <|
 EnvOk.cons Try.func12 ac12_ok (of_decide_eq_true (by kernel_rfl)) <|
 EnvOk.cons Try.func14 ac14_ok (of_decide_eq_true (by kernel_rfl)) <|
 EnvOk.cons Try.func16 ac16_ok (of_decide_eq_true (by kernel_rfl)) <|
 EnvOk.cons Try.func20 ac20_ok (of_decide_eq_true (by kernel_rfl)) <|
 EnvOk.cons Try.func22 ac22_ok (of_decide_eq_true (by kernel_rfl)) <|
 EnvOk.cons Try.func24 ac24_ok (of_decide_eq_true (by kernel_rfl)) <|
 EnvOk.cons Try.func30 ac30_ok (of_decide_eq_true (by kernel_rfl)) <|
 EnvOk.cons Try.func31 ac31_ok (of_decide_eq_true (by kernel_rfl)) <|
 EnvOk.cons Try.func32 ac32_ok (of_decide_eq_true (by kernel_rfl)) <|
 EnvOk.cons Try.func33 ac33_ok (of_decide_eq_true (by kernel_rfl)) <|
 EnvOk.cons Try.func34 ac34_ok (of_decide_eq_true (by kernel_rfl)) <|
 EnvOk.cons Try.func35 ac35_ok (of_decide_eq_true (by kernel_rfl)) <|
 EnvOk.cons Try.func36 ac36_ok (of_decide_eq_true (by kernel_rfl)) <|
 EnvOk.cons Try.func37 ac37_ok (of_decide_eq_true (by kernel_rfl)) <|
 EnvOk.cons Try.func38 ac38_ok (of_decide_eq_true (by kernel_rfl)) <|
 EnvOk.cons Try.func39 ac39_ok (of_decide_eq_true (by kernel_rfl)) <|
 EnvOk.cons Try.func40 ac40_ok (of_decide_eq_true (by kernel_rfl)) <|
 EnvOk.cons Try.func41 ac41_ok (of_decide_eq_true (by kernel_rfl)) <|
 EnvOk.cons Try.func42 ac42_ok (of_decide_eq_true (by kernel_rfl)) <|
 EnvOk.cons Try.func44 ac44_ok (of_decide_eq_true (by kernel_rfl)) <|
 EnvOk.cons Try.func49 ac49_ok (of_decide_eq_true (by kernel_rfl)) <|
 EnvOk.cons Try.func50 ac50_ok (of_decide_eq_true (by kernel_rfl)) <|
 EnvOk.cons Try.func51 ac51_ok (of_decide_eq_true (by kernel_rfl)) <|
 EnvOk.cons Try.func54 ac54_ok (of_decide_eq_true (by kernel_rfl)) <|
 EnvOk.cons Try.func56 ac56_ok (of_decide_eq_true (by kernel_rfl)) <|
 EnvOk.cons Try.func57 ac57_ok (of_decide_eq_true (by kernel_rfl)) <|
 EnvOk.cons Try.func58 ac58_ok (of_decide_eq_true (by kernel_rfl)) <|
 EnvOk.cons Try.func59 ac59_ok (of_decide_eq_true (by kernel_rfl)) <|
 EnvOk.cons Try.func60 ac60_ok (of_decide_eq_true (by kernel_rfl)) <|
 EnvOk.cons Try.func61 ac61_ok (of_decide_eq_true (by kernel_rfl)) <|
 EnvOk.cons Try.func62 ac62_ok (of_decide_eq_true (by kernel_rfl)) <|
 EnvOk.cons Try.func64 ac64_ok (of_decide_eq_true (by kernel_rfl)) <|
 EnvOk.cons Try.func65 ac65_ok (of_decide_eq_true (by kernel_rfl)) <|
 EnvOk.cons Try.func66 ac66_ok (of_decide_eq_true (by kernel_rfl)) <|
 EnvOk.cons Try.func67 ac67_ok (of_decide_eq_true (by kernel_rfl)) <|
 EnvOk.cons Try.func68 ac68_ok (of_decide_eq_true (by kernel_rfl)) <|
 EnvOk.cons Try.func69 ac69_ok (of_decide_eq_true (by kernel_rfl)) <|
 EnvOk.cons Try.func70 ac70_ok (of_decide_eq_true (by kernel_rfl)) <|
 EnvOk.nil
theorem mixed : Try.prog.follows .mixedOrders = true := by kernel_rfl
def env : Env := env0
theorem env_or : EnvOr Try.prog env :=
 EnvOr.of env0_ok
theorem fn6 : env.fn 6 = some ac6 := rfl
theorem fn7 : env.fn 7 = some ac7 := rfl
theorem fn8 : env.fn 8 = some ac8 := rfl
theorem fn9 : env.fn 9 = some ac9 := rfl
theorem fn12 : env.fn 12 = some ac12 := rfl
theorem fn14 : env.fn 14 = some ac14 := rfl
theorem fn16 : env.fn 16 = some ac16 := rfl
theorem fn20 : env.fn 20 = some ac20 := rfl
theorem fn22 : env.fn 22 = some ac22 := rfl
theorem fn24 : env.fn 24 = some ac24 := rfl
theorem fn30 : env.fn 30 = some ac30 := rfl
theorem fn31 : env.fn 31 = some ac31 := rfl
theorem fn32 : env.fn 32 = some ac32 := rfl
theorem fn33 : env.fn 33 = some ac33 := rfl
theorem fn34 : env.fn 34 = some ac34 := rfl
theorem fn35 : env.fn 35 = some ac35 := rfl
theorem fn36 : env.fn 36 = some ac36 := rfl
theorem fn37 : env.fn 37 = some ac37 := rfl
theorem fn38 : env.fn 38 = some ac38 := rfl
theorem fn39 : env.fn 39 = some ac39 := rfl
theorem fn40 : env.fn 40 = some ac40 := rfl
theorem fn41 : env.fn 41 = some ac41 := rfl
theorem fn42 : env.fn 42 = some ac42 := rfl
theorem fn44 : env.fn 44 = some ac44 := rfl
theorem fn49 : env.fn 49 = some ac49 := rfl
theorem fn50 : env.fn 50 = some ac50 := rfl
theorem fn51 : env.fn 51 = some ac51 := rfl
theorem fn54 : env.fn 54 = some ac54 := rfl
theorem fn56 : env.fn 56 = some ac56 := rfl
theorem fn57 : env.fn 57 = some ac57 := rfl
theorem fn58 : env.fn 58 = some ac58 := rfl
theorem fn59 : env.fn 59 = some ac59 := rfl
theorem fn60 : env.fn 60 = some ac60 := rfl
theorem fn61 : env.fn 61 = some ac61 := rfl
theorem fn62 : env.fn 62 = some ac62 := rfl
theorem fn64 : env.fn 64 = some ac64 := rfl
theorem fn65 : env.fn 65 = some ac65 := rfl
theorem fn66 : env.fn 66 = some ac66 := rfl
theorem fn67 : env.fn 67 = some ac67 := rfl
theorem fn68 : env.fn 68 = some ac68 := rfl
theorem fn69 : env.fn 69 = some ac69 := rfl
theorem fn70 : env.fn 70 = some ac70 := rfl
end ArEnv
end Go.Proofs.Ytlbdgbfblgjjgaa
