/-
 THE TRANSLATED FUNCTIONS, printed by a program, and that they are the program's functions. Conditions: none.
-/
import Derived.Test.YtlphmnhkkhcjfaaProg
import Derived.Test.YtlphmnhkkhcjfaaAOr
import Derived.KernelRfl
namespace Go.Proofs.Ytlphmnhkkhcjfaa
namespace ArEnv
open Go AM
abbrev T (n : Nat) : Operand := .tmp n
abbrev C (v : Value) : Operand := .const v
abbrev D (d : Nat) (o : AOp) : AOper := ⟨some d, none, 0, true, o⟩
abbrev E (o : AOp) : AOper := ⟨none, none, 0, true, o⟩
/-- winepress/winepresslaw19.BwtBucketRooms -/
def ac7 : AFn := ⟨(.seq (.region [
 D 6 (.mv (C (.bool false)))])
 (.seq (.seq (.region [
 D 20 (.mv (T 0)),
 D 21 (.len (T 20)),
 D 22 (.bin .eql (T 21) (C (.int .i64 0))),
 D 23 (.mv (T 22)),
 ⟨(some 24), (some (23, false)), 0, true, .mv (T 0)⟩,
 ⟨(some 25), (some (23, false)), 0, true, .len (T 24)⟩,
 ⟨(some 26), (some (23, false)), 0, true, .bin .gtr (T 25) (C (.int .i64 100))⟩,
 D 27 (.pick (T 23) (C (.bool true)) (T 26)),
 D 28 (.mv (T 27)),
 ⟨(some 29), (some (28, false)), 0, true, .mv (T 1)⟩,
 ⟨(some 30), (some (28, false)), 0, true, .bin .lss (T 29) (C (.int .i64 1))⟩,
 D 31 (.pick (T 28) (C (.bool true)) (T 30)),
 D 32 (.mv (T 31)),
 ⟨(some 33), (some (32, false)), 0, true, .mv (T 1)⟩,
 ⟨(some 34), (some (32, false)), 0, true, .bin .gtr (T 33) (C (.int .i64 110))⟩,
 D 35 (.pick (T 32) (C (.bool true)) (T 34)),
 D 36 (.mv (T 35)),
 ⟨(some 37), (some (36, false)), 0, true, .mv (T 2)⟩,
 ⟨(some 38), (some (36, false)), 0, true, .bin .lss (T 37) (C (.int .i64 1))⟩,
 D 39 (.pick (T 36) (C (.bool true)) (T 38)),
 D 40 (.mv (T 39)),
 ⟨(some 41), (some (40, false)), 0, true, .mv (T 2)⟩,
 ⟨(some 42), (some (40, false)), 0, true, .bin .gtr (T 41) (C (.int .i64 110))⟩,
 D 43 (.pick (T 40) (C (.bool true)) (T 42))])
 (.cond (T 43)
 (.seq (.region [
 D 44 (.call 26 []),
 D 6 (.mv (T 44))])
 .ret)
 .skip))
 (.seq (.region [
 D 45 (.mv (T 0)),
 D 46 (.len (T 45)),
 D 47 (.build [(.int .i64 0), (.int .i64 0)] [(1, 1, (T 46))]),
 D 7 (.alloc true [(.int .i64 0), (.int .i64 0)]),
 E (.store 2 (T 7) (T 47))])
 (.seq (.region [
 D 48 (.mv (T 0)),
 D 49 (.len (T 48)),
 D 50 (.mv (T 0)),
 D 51 (.len (T 50)),
 D 52 (.build [(.int .i64 0), (.int .i64 0)] [(0, 1, (T 49)), (1, 1, (T 51))]),
 D 8 (.alloc true [(.int .i64 0), (.int .i64 0)]),
 E (.store 2 (T 8) (T 52))])
 (.seq (.region [
 D 53 (.load (some 2) (T 7)),
 D 54 (.mv (T 0)),
 D 55 (.call 27 [(C (.int .i64 700)), (T 53), (T 54)]),
 D 9 (.mv (T 55))])
 (.seq (.seq (.region [
 D 56 (.mv (T 9)),
 D 57 (.eqs false .ptr (T 56) (C (.pointer none)))])
 (.cond (T 57)
 (.seq (.region [
 D 6 (.mv (C (.bool false)))])
 .ret)
 .skip))
 (.seq (.region [
 D 59 (.mv (T 9)),
 D 60 (.load (some 2) (T 7)),
 D 61 (.load (some 2) (T 8)),
 D 62 (.mv (T 0)),
 D 63 (.len (T 62)),
 D 64 (.bin .mul (C (.int .i64 2)) (T 63)),
 D 65 (.mv (T 1)),
 D 66 (.bin .mul (C (.int .i64 4)) (T 65)),
 D 67 (.build [(.int .i64 0), (.int .i64 0)] [(0, 1, (T 64)), (1, 1, (T 66))]),
 D 68 (.call 28 [(T 59), (T 60), (T 61), (T 67)]),
 D 58 (.mv (T 68)),
 D 69 (.ext (T 58) 0),
 D 70 (.ext (T 58) 1),
 D 71 (.ext (T 58) 2),
 D 10 (.mv (T 69)),
 D 11 (.mv (T 70)),
 D 12 (.mv (T 71))])
 (.seq (.region [
 D 72 (.mv (T 9)),
 D 73 (.load (some 2) (T 8)),
 D 74 (.call 29 [(T 72), (T 73)]),
 D 13 (.mv (T 74))])
 (.seq (.region [
 D 76 (.mv (T 9)),
 D 77 (.load (some 2) (T 7)),
 D 78 (.load (some 2) (T 8)),
 D 79 (.mv (T 0)),
 D 80 (.len (T 79)),
 D 81 (.bin .mul (C (.int .i64 2)) (T 80)),
 D 82 (.mv (T 2)),
 D 83 (.bin .mul (C (.int .i64 4)) (T 82)),
 D 84 (.bin .add (T 83) (C (.int .i64 3))),
 D 85 (.build [(.int .i64 0), (.int .i64 0)] [(0, 1, (T 81)), (1, 1, (T 84))]),
 D 86 (.call 28 [(T 76), (T 77), (T 78), (T 85)]),
 D 75 (.mv (T 86)),
 D 87 (.ext (T 75) 0),
 D 88 (.ext (T 75) 1),
 D 89 (.ext (T 75) 2),
 D 14 (.mv (T 87)),
 D 15 (.mv (T 88)),
 D 16 (.mv (T 89))])
 (.seq (.region [
 D 90 (.mv (T 9)),
 D 91 (.load (some 2) (T 8)),
 D 92 (.call 29 [(T 90), (T 91)]),
 D 17 (.mv (T 92))])
 (.seq (.seq (.drawn [
 ⟨(some 93), none, 0, false, .mv (T 12)⟩,
 ⟨(some 94), none, 1, false, .bin .neq (T 93) (C (.int .i64 0))⟩,
 ⟨(some 95), none, 3, false, .mv (T 94)⟩,
 ⟨(some 96), (some (95, false)), 7, false, .mv (T 16)⟩,
 ⟨(some 97), (some (95, false)), 15, false, .bin .neq (T 96) (C (.int .i64 0))⟩,
 ⟨(some 98), none, 31, false, .pick (T 95) (C (.bool true)) (T 97)⟩,
 ⟨(some 99), none, 63, false, .mv (T 98)⟩,
 ⟨(some 100), (some (99, false)), 127, false, .mv (T 10)⟩,
 ⟨(some 101), (some (99, false)), 127, false, .mv (T 14)⟩,
 ⟨(some 102), (some (99, false)), 511, false, .bin .neq (T 100) (T 101)⟩,
 ⟨(some 103), none, 1023, false, .pick (T 99) (C (.bool true)) (T 102)⟩,
 ⟨(some 104), none, 2047, false, .mv (T 103)⟩,
 ⟨(some 105), (some (104, false)), 4095, false, .mv (T 13)⟩,
 ⟨(some 106), (some (104, false)), 8191, false, .bstr (T 105)⟩,
 ⟨(some 107), (some (104, false)), 4095, false, .mv (T 17)⟩,
 ⟨(some 108), (some (104, false)), 20479, false, .bstr (T 107)⟩,
 ⟨(some 109), (some (104, false)), 65535, false, .bin .neq (T 106) (T 108)⟩,
 ⟨(some 110), none, 131071, false, .pick (T 104) (C (.bool true)) (T 109)⟩,
 ⟨(some 111), none, 262143, false, .mv (T 110)⟩,
 ⟨(some 112), (some (111, false)), 524287, false, .mv (T 11)⟩,
 ⟨(some 113), (some (111, false)), 524287, false, .mv (T 0)⟩,
 ⟨(some 114), (some (111, false)), 1572863, false, .len (T 113)⟩,
 ⟨(some 115), (some (111, false)), 524287, false, .mv (T 1)⟩,
 ⟨(some 116), (some (111, false)), 7864319, false, .bin .add (T 114) (T 115)⟩,
 ⟨(some 117), (some (111, false)), 524287, false, .mv (T 1)⟩,
 ⟨(some 118), (some (111, false)), 33030143, false, .bin .quo (T 116) (T 117)⟩,
 ⟨(some 119), (some (111, false)), 67108863, false, .bin .neq (T 112) (T 118)⟩,
 ⟨(some 120), none, 134217727, false, .pick (T 111) (C (.bool true)) (T 119)⟩,
 ⟨(some 121), none, 268435455, false, .mv (T 120)⟩,
 ⟨(some 122), (some (121, false)), 536870911, false, .mv (T 15)⟩,
 ⟨(some 123), (some (121, false)), 536870911, false, .mv (T 0)⟩,
 ⟨(some 124), (some (121, false)), 1610612735, false, .len (T 123)⟩,
 ⟨(some 125), (some (121, false)), 536870911, false, .mv (T 2)⟩,
 ⟨(some 126), (some (121, false)), 8053063679, false, .bin .add (T 124) (T 125)⟩,
 ⟨(some 127), (some (121, false)), 536870911, false, .mv (T 2)⟩,
 ⟨(some 128), (some (121, false)), 33822867455, false, .bin .quo (T 126) (T 127)⟩,
 ⟨(some 129), (some (121, false)), 68719476735, false, .bin .neq (T 122) (T 128)⟩,
 ⟨(some 130), none, 137438953471, false, .pick (T 121) (C (.bool true)) (T 129)⟩,
 ⟨(some 131), none, 274877906943, false, .mv (T 130)⟩,
 ⟨(some 132), (some (131, false)), 549755813887, false, .mv (T 9)⟩,
 ⟨(some 133), (some (131, false)), 549755813887, false, .load (some 2) (T 7)⟩,
 ⟨(some 134), (some (131, false)), 2199023255551, false, .call 29 [(T 132), (T 133)]⟩,
 ⟨(some 135), (some (131, false)), 4398046511103, false, .bstr (T 134)⟩,
 ⟨(some 136), (some (131, false)), 549755813887, false, .mv (T 0)⟩,
 ⟨(some 137), (some (131, false)), 9345848836095, false, .bstr (T 136)⟩,
 ⟨(some 138), (some (131, false)), 35184372088831, false, .bin .neq (T 135) (T 137)⟩,
 ⟨(some 139), none, 70368744177663, false, .pick (T 131) (C (.bool true)) (T 138)⟩])
 (.cond (T 139)
 (.seq (.region [
 D 6 (.mv (C (.bool false)))])
 .ret)
 .skip))
 (.seq (.region [
 D 141 (.mv (T 13)),
 D 142 (.mv (T 10)),
 D 143 (.call 30 [(T 141), (T 142)]),
 D 140 (.mv (T 143)),
 D 144 (.ext (T 140) 0),
 D 145 (.ext (T 140) 1),
 D 18 (.mv (T 144)),
 D 19 (.mv (T 145))])
 (.seq (.region [
 D 146 (.mv (T 19)),
 D 147 (.bin .eql (T 146) (C (.int .i64 0))),
 D 148 (.mv (T 147)),
 ⟨(some 149), (some (148, true)), 0, true, .mv (T 18)⟩,
 ⟨(some 150), (some (148, true)), 0, true, .bstr (T 149)⟩,
 ⟨(some 151), (some (148, true)), 0, true, .mv (T 0)⟩,
 ⟨(some 152), (some (148, true)), 0, true, .bstr (T 151)⟩,
 ⟨(some 153), (some (148, true)), 0, true, .bin .eql (T 150) (T 152)⟩,
 D 154 (.pick (T 148) (T 153) (C (.bool false))),
 D 155 (.mv (T 154)),
 ⟨(some 156), (some (155, true)), 0, true, .mv (T 9)⟩,
 ⟨(some 157), (some (155, true)), 0, true, .call 31 [(T 156)]⟩,
 ⟨(some 158), (some (155, true)), 0, true, .bin .eql (T 157) (C (.int .i64 700))⟩,
 D 159 (.pick (T 155) (T 158) (C (.bool false))),
 D 160 (.mv (T 159)),
 ⟨(some 161), (some (160, true)), 0, true, .call 26 []⟩,
 D 162 (.pick (T 160) (T 161) (C (.bool false))),
 D 6 (.mv (T 162))])
 .ret))))))))))))), [.tmp 6]⟩
theorem ac7_ok : compFn Try.prog Try.f7 = some ac7 := by kernel_rfl
/-- a loop of winepress/winepresslaw19.BwtBucketPlaced; it keeps [12, 3, 10, 9, 2, 1, 0, 13] -/
def lb8_0 : ACode := (.seq (.seq (.region [
 D 67 (.mv (T 13)),
 D 68 (.bin .lss (T 67) (C (.int .i64 3)))])
 (.cond (T 68)
 .skip
 (.exit 0)))
 (.seq (.block 1 (.seq (.region [
 D 71 (.mv (T 2)),
 D 72 (.bin .rem (T 71) (C (.int .i64 3))),
 D 73 (.bin .add (T 72) (C (.int .i64 3))),
 D 74 (.bin .rem (T 73) (C (.int .i64 3))),
 D 75 (.mv (T 13)),
 D 76 (.bin .add (T 74) (T 75)),
 D 77 (.bin .rem (T 76) (C (.int .i64 3))),
 D 14 (.mv (T 77))])
 (.seq (.region [
 D 79 (.mv (T 10)),
 D 80 (.mv (T 14)),
 D 81 (.iaddra 1 3 (T 9) (T 80)),
 D 82 (.load none (T 81)),
 D 83 (.call 33 [(T 79), (T 82)]),
 D 78 (.mv (T 83)),
 D 84 (.ext (T 78) 0),
 D 85 (.ext (T 78) 1),
 D 15 (.alloc true [(.int .i64 0), (.int .i64 0)]),
 E (.store 2 (T 15) (T 84)),
 D 16 (.mv (T 85))])
 (.seq (.region [
 D 87 (.mv (T 10)),
 D 88 (.mv (T 3)),
 D 89 (.call 33 [(T 87), (T 88)]),
 D 86 (.mv (T 89)),
 D 90 (.ext (T 86) 0),
 D 91 (.ext (T 86) 1),
 D 17 (.alloc true [(.int .i64 0), (.int .i64 0)]),
 E (.store 2 (T 17) (T 90)),
 D 18 (.mv (T 91))])
 (.seq (.seq (.region [
 D 92 (.mv (T 16)),
 D 93 (.bin .neq (T 92) (C (.int .i64 0))),
 D 94 (.mv (T 93)),
 ⟨(some 95), (some (94, false)), 0, true, .mv (T 18)⟩,
 ⟨(some 96), (some (94, false)), 0, true, .bin .neq (T 95) (C (.int .i64 0))⟩,
 D 97 (.pick (T 94) (C (.bool true)) (T 96))])
 (.cond (T 97)
 (.seq (.region [
 D 8 (.mv (C (.bool false)))])
 .ret)
 .skip))
 (.region [
 D 98 (.mv (T 14)),
 D 99 (.load (some 2) (T 15)),
 D 100 (.iaddra 2 3 (T 12) (T 98)),
 E (.store 2 (T 100) (T 99))]))))))
 (.region [
 D 69 (.mv (T 13)),
 D 70 (.bin .add (T 69) (C (.int .i64 1))),
 D 13 (.mv (T 70))])))
/-- winepress/winepresslaw19.BwtBucketPlaced -/
def ac8 : AFn := ⟨(.seq (.region [
 D 8 (.mv (C (.bool false)))])
 (.seq (.seq (.region [
 D 25 (.mv (T 0)),
 D 26 (.len (T 25)),
 D 27 (.bin .eql (T 26) (C (.int .i64 0))),
 D 28 (.mv (T 27)),
 ⟨(some 29), (some (28, false)), 0, true, .mv (T 0)⟩,
 ⟨(some 30), (some (28, false)), 0, true, .len (T 29)⟩,
 ⟨(some 31), (some (28, false)), 0, true, .bin .gtr (T 30) (C (.int .i64 60))⟩,
 D 32 (.pick (T 28) (C (.bool true)) (T 31)),
 D 33 (.mv (T 32)),
 ⟨(some 34), (some (33, false)), 0, true, .mv (T 1)⟩,
 ⟨(some 35), (some (33, false)), 0, true, .bin .lss (T 34) (C (.int .i64 1))⟩,
 D 36 (.pick (T 33) (C (.bool true)) (T 35)),
 D 37 (.mv (T 36)),
 ⟨(some 38), (some (37, false)), 0, true, .mv (T 1)⟩,
 ⟨(some 39), (some (37, false)), 0, true, .bin .gtr (T 38) (C (.int .i64 70))⟩,
 D 40 (.pick (T 37) (C (.bool true)) (T 39)),
 D 41 (.mv (T 40)),
 ⟨(some 42), (some (41, false)), 0, true, .mv (T 3)⟩,
 ⟨(some 43), (some (41, false)), 0, true, .bin .lss (T 42) (C (.int .i64 0))⟩,
 D 44 (.pick (T 41) (C (.bool true)) (T 43)),
 D 45 (.mv (T 44)),
 ⟨(some 46), (some (45, false)), 0, true, .mv (T 3)⟩,
 ⟨(some 47), (some (45, false)), 0, true, .bin .gtr (T 46) (C (.int .i64 20))⟩,
 D 48 (.pick (T 45) (C (.bool true)) (T 47))])
 (.cond (T 48)
 (.seq (.region [
 D 49 (.call 26 []),
 D 8 (.mv (T 49))])
 .ret)
 .skip))
 (.seq (.region [
 D 50 (.mv (T 0)),
 D 51 (.len (T 50)),
 D 52 (.mv (T 0)),
 D 53 (.len (T 52)),
 D 54 (.mv (T 1)),
 D 55 (.bin .mul (C (.int .i64 4)) (T 54)),
 D 56 (.build [(.int .i64 0), (.int .i64 0), (.int .i64 0)] [(0, 1, (T 51)), (1, 1, (T 53)), (2, 1, (T 55))]),
 D 9 (.alloc true [(.int .i64 0), (.int .i64 0), (.int .i64 0)]),
 E (.store 3 (T 9) (T 56))])
 (.seq (.region [
 D 58 (.call 32 [(C (.int .i64 600))]),
 D 57 (.mv (T 58)),
 D 59 (.ext (T 57) 0),
 D 60 (.ext (T 57) 1),
 D 10 (.mv (T 59)),
 D 11 (.mv (T 60))])
 (.seq (.seq (.region [
 D 61 (.mv (T 11)),
 D 62 (.bin .neq (T 61) (C (.int .i64 0))),
 D 63 (.mv (T 62)),
 ⟨(some 64), (some (63, false)), 0, true, .mv (T 10)⟩,
 ⟨(some 65), (some (63, false)), 0, true, .eqs false .ptr (T 64) (C (.pointer none))⟩,
 D 66 (.pick (T 63) (C (.bool true)) (T 65))])
 (.cond (T 66)
 (.seq (.region [
 D 8 (.mv (C (.bool false)))])
 .ret)
 .skip))
 (.seq (.region [
 D 12 (.alloc true (List.replicate 6 (.int .i64 0)))])
 (.seq (.seq (.region [
 D 13 (.mv (C (.int .i64 0)))])
 (.block 0 (.loop [12, 3, 10, 9, 2, 1, 0, 13] lb8_0)))
 (.seq (.region [
 D 101 (.mv (T 10)),
 D 102 (.iaddra 2 3 (T 12) (C (.int .i64 0))),
 D 103 (.load (some 2) (T 102)),
 D 104 (.mv (T 0)),
 D 105 (.call 34 [(T 101), (T 103), (C (.int .i64 0)), (T 104)])])
 (.seq (.region [
 D 106 (.mv (T 10)),
 D 107 (.call 35 [(T 106)]),
 D 19 (.mv (T 107))])
 (.seq (.region [
 D 109 (.mv (T 10)),
 D 110 (.iaddra 2 3 (T 12) (C (.int .i64 0))),
 D 111 (.load (some 2) (T 110)),
 D 112 (.iaddra 2 3 (T 12) (C (.int .i64 1))),
 D 113 (.load (some 2) (T 112)),
 D 114 (.iaddra 2 3 (T 12) (C (.int .i64 2))),
 D 115 (.load (some 2) (T 114)),
 D 116 (.call 28 [(T 109), (T 111), (T 113), (T 115)]),
 D 108 (.mv (T 116)),
 D 117 (.ext (T 108) 0),
 D 118 (.ext (T 108) 1),
 D 119 (.ext (T 108) 2),
 D 20 (.mv (T 117)),
 D 21 (.mv (T 118)),
 D 22 (.mv (T 119))])
 (.seq (.region [
 D 121 (.mv (T 0)),
 D 122 (.call 36 [(T 121)]),
 D 120 (.mv (T 122)),
 D 123 (.ext (T 120) 0),
 D 124 (.ext (T 120) 1),
 D 23 (.mv (T 123)),
 D 24 (.mv (T 124))])
 (.seq (.drawn [
 ⟨(some 125), none, 0, false, .mv (T 22)⟩,
 ⟨(some 126), none, 1, false, .bin .eql (T 125) (C (.int .i64 0))⟩,
 ⟨(some 127), none, 3, false, .mv (T 126)⟩,
 ⟨(some 128), (some (127, true)), 7, false, .mv (T 20)⟩,
 ⟨(some 129), (some (127, true)), 7, false, .mv (T 24)⟩,
 ⟨(some 130), (some (127, true)), 31, false, .bin .eql (T 128) (T 129)⟩,
 ⟨(some 131), none, 63, false, .pick (T 127) (T 130) (C (.bool false))⟩,
 ⟨(some 132), none, 127, false, .mv (T 131)⟩,
 ⟨(some 133), (some (132, true)), 255, false, .mv (T 21)⟩,
 ⟨(some 134), (some (132, true)), 255, false, .mv (T 0)⟩,
 ⟨(some 135), (some (132, true)), 767, false, .len (T 134)⟩,
 ⟨(some 136), (some (132, true)), 255, false, .mv (T 1)⟩,
 ⟨(some 137), (some (132, true)), 3839, true, .call 37 [(T 135), (T 136)]⟩,
 ⟨(some 138), (some (132, true)), 8191, false, .bin .eql (T 133) (T 137)⟩,
 ⟨(some 139), none, 16383, false, .pick (T 132) (T 138) (C (.bool false))⟩,
 ⟨(some 140), none, 32767, false, .mv (T 139)⟩,
 ⟨(some 141), (some (140, true)), 65535, false, .mv (T 10)⟩,
 ⟨(some 142), (some (140, true)), 65535, false, .iaddra 2 3 (T 12) (C (.int .i64 1))⟩,
 ⟨(some 143), (some (140, true)), 196607, false, .load (some 2) (T 142)⟩,
 ⟨(some 144), (some (140, true)), 524287, false, .call 29 [(T 141), (T 143)]⟩,
 ⟨(some 145), (some (140, true)), 1048575, false, .bstr (T 144)⟩,
 ⟨(some 146), (some (140, true)), 65535, false, .mv (T 23)⟩,
 ⟨(some 147), (some (140, true)), 2162687, false, .bstr (T 146)⟩,
 ⟨(some 148), (some (140, true)), 8388607, false, .bin .eql (T 145) (T 147)⟩,
 ⟨(some 149), none, 16777215, false, .pick (T 140) (T 148) (C (.bool false))⟩,
 ⟨(some 150), none, 33554431, false, .mv (T 149)⟩,
 ⟨(some 151), (some (150, true)), 67108863, false, .mv (T 10)⟩,
 ⟨(some 152), (some (150, true)), 67108863, false, .iaddra 2 3 (T 12) (C (.int .i64 0))⟩,
 ⟨(some 153), (some (150, true)), 201326591, false, .load (some 2) (T 152)⟩,
 ⟨(some 154), (some (150, true)), 536870911, false, .call 29 [(T 151), (T 153)]⟩,
 ⟨(some 155), (some (150, true)), 1073741823, false, .bstr (T 154)⟩,
 ⟨(some 156), (some (150, true)), 67108863, false, .mv (T 0)⟩,
 ⟨(some 157), (some (150, true)), 2214592511, false, .bstr (T 156)⟩,
 ⟨(some 158), (some (150, true)), 8589934591, false, .bin .eql (T 155) (T 157)⟩,
 ⟨(some 159), none, 17179869183, false, .pick (T 150) (T 158) (C (.bool false))⟩,
 ⟨(some 160), none, 34359738367, false, .mv (T 159)⟩,
 ⟨(some 161), (some (160, true)), 68719476735, false, .mv (T 10)⟩,
 ⟨(some 162), (some (160, true)), 137438953471, true, .call 35 [(T 161)]⟩,
 ⟨(some 163), (some (160, true)), 68719476735, false, .mv (T 19)⟩,
 ⟨(some 164), (some (160, true)), 549755813887, false, .bin .eql (T 162) (T 163)⟩,
 ⟨(some 165), none, 1099511627775, false, .pick (T 160) (T 164) (C (.bool false))⟩,
 ⟨(some 166), none, 2199023255551, false, .mv (T 165)⟩,
 ⟨(some 167), (some (166, true)), 4398046511103, true, .call 26 []⟩,
 ⟨(some 168), none, 8796093022207, false, .pick (T 166) (T 167) (C (.bool false))⟩,
 ⟨(some 8), none, 17592186044415, false, .mv (T 168)⟩])
 .ret)))))))))))), [.tmp 8]⟩
theorem ac8_ok : compFn Try.prog Try.f8 = some ac8 := by kernel_rfl
/-- a loop of winepress/winepresslaw19.BwtBucketMatches; it keeps [0, 22, 11, 10, 15, 19, 20, 9, 23] -/
def lb9_0 : ACode := (.seq (.seq (.region [
 D 185 (.mv (T 23)),
 D 186 (.mv (T 22)),
 D 187 (.len (T 186)),
 D 188 (.bin .lss (T 185) (T 187))])
 (.cond (T 188)
 .skip
 (.exit 0)))
 (.seq (.block 1 (.seq (.region [
 D 191 (.mv (T 23)),
 D 192 (.faddr 0 (T 10)),
 D 193 (.load none (T 192)),
 D 194 (.bin .geq (T 191) (T 193)),
 D 195 (.mv (T 194)),
 ⟨(some 196), (some (195, true)), 0, true, .mv (T 23)⟩,
 ⟨(some 197), (some (195, true)), 0, true, .faddr 0 (T 10)⟩,
 ⟨(some 198), (some (195, true)), 0, true, .load none (T 197)⟩,
 ⟨(some 199), (some (195, true)), 0, true, .faddr 1 (T 10)⟩,
 ⟨(some 200), (some (195, true)), 0, true, .load none (T 199)⟩,
 ⟨(some 201), (some (195, true)), 0, true, .bin .add (T 198) (T 200)⟩,
 ⟨(some 202), (some (195, true)), 0, true, .bin .lss (T 196) (T 201)⟩,
 D 203 (.pick (T 195) (T 202) (C (.bool false))),
 D 204 (.mv (T 203)),
 ⟨(some 205), (some (204, false)), 0, true, .mv (T 23)⟩,
 ⟨(some 206), (some (204, false)), 0, true, .faddr 0 (T 11)⟩,
 ⟨(some 207), (some (204, false)), 0, true, .load none (T 206)⟩,
 ⟨(some 208), (some (204, false)), 0, true, .bin .geq (T 205) (T 207)⟩,
 ⟨(some 209), (some (204, false)), 0, true, .mv (T 208)⟩,
 ⟨(some 210), (some (209, true)), 0, true, .mv (T 23)⟩,
 ⟨(some 211), (some (209, true)), 0, true, .faddr 0 (T 11)⟩,
 ⟨(some 212), (some (209, true)), 0, true, .load none (T 211)⟩,
 ⟨(some 213), (some (209, true)), 0, true, .faddr 1 (T 11)⟩,
 ⟨(some 214), (some (209, true)), 0, true, .load none (T 213)⟩,
 ⟨(some 215), (some (209, true)), 0, true, .bin .add (T 212) (T 214)⟩,
 ⟨(some 216), (some (209, true)), 0, true, .bin .lss (T 210) (T 215)⟩,
 ⟨(some 217), (some (204, false)), 0, true, .pick (T 209) (T 216) (C (.bool false))⟩,
 D 218 (.pick (T 204) (C (.bool true)) (T 217)),
 D 24 (.mv (T 218))])
 (.seq (.drawn [
 ⟨(some 219), none, 0, false, .mv (T 24)⟩,
 ⟨(some 220), none, 1, false, .un .not (T 219)⟩,
 ⟨(some 221), none, 3, false, .mv (T 220)⟩,
 ⟨(some 222), (some (221, true)), 7, false, .mv (T 22)⟩,
 ⟨(some 223), (some (221, true)), 7, false, .mv (T 23)⟩,
 ⟨(some 224), (some (221, true)), 31, false, .iaddr 1 (T 222) (T 223)⟩,
 ⟨(some 225), (some (221, true)), 63, false, .load none (T 224)⟩,
 ⟨(some 226), (some (221, true)), 7, false, .mv (T 0)⟩,
 ⟨(some 227), (some (221, true)), 7, false, .mv (T 23)⟩,
 ⟨(some 228), (some (221, true)), 391, false, .iaddr 1 (T 226) (T 227)⟩,
 ⟨(some 229), (some (221, true)), 903, false, .load none (T 228)⟩,
 ⟨(some 230), (some (221, true)), 2047, false, .bin .neq (T 225) (T 229)⟩,
 ⟨(some 231), none, 4095, false, .pick (T 221) (T 230) (C (.bool false))⟩])
 (.cond (T 231)
 (.seq (.region [
 D 14 (.mv (C (.bool false)))])
 .ret)
 .skip))))
 (.region [
 D 189 (.mv (T 23)),
 D 190 (.bin .add (T 189) (C (.int .i64 1))),
 D 23 (.mv (T 190))])))
/-- winepress/winepresslaw19.BwtBucketMatches -/
def ac9 : AFn := ⟨(.seq (.region [
 D 9 (.box true (T 2)),
 D 10 (.box true (T 3)),
 D 11 (.box true (T 4)),
 D 14 (.mv (C (.bool false)))])
 (.seq (.seq (.region [
 D 27 (.mv (T 0)),
 D 28 (.len (T 27)),
 D 29 (.bin .gtr (T 28) (C (.int .i64 600))),
 D 30 (.mv (T 29)),
 ⟨(some 31), (some (30, false)), 0, true, .mv (T 0)⟩,
 ⟨(some 32), (some (30, false)), 0, true, .len (T 31)⟩,
 ⟨(some 33), (some (30, false)), 0, true, .bin .eql (T 32) (C (.int .i64 0))⟩,
 D 34 (.pick (T 30) (C (.bool true)) (T 33)),
 D 35 (.mv (T 34)),
 ⟨(some 36), (some (35, false)), 0, true, .mv (T 1)⟩,
 ⟨(some 37), (some (35, false)), 0, true, .bin .lss (T 36) (C (.int .i64 0))⟩,
 D 38 (.pick (T 35) (C (.bool true)) (T 37)),
 D 39 (.mv (T 38)),
 ⟨(some 40), (some (39, false)), 0, true, .mv (T 1)⟩,
 ⟨(some 41), (some (39, false)), 0, true, .mv (T 0)⟩,
 ⟨(some 42), (some (39, false)), 0, true, .len (T 41)⟩,
 ⟨(some 43), (some (39, false)), 0, true, .bin .gtr (T 40) (T 42)⟩,
 D 44 (.pick (T 39) (C (.bool true)) (T 43))])
 (.cond (T 44)
 (.seq (.region [
 D 45 (.call 26 []),
 D 14 (.mv (T 45))])
 .ret)
 .skip))
 (.seq (.region [
 D 47 (.mv (T 0)),
 D 48 (.len (T 47)),
 D 49 (.call 32 [(T 48)]),
 D 46 (.mv (T 49)),
 D 50 (.ext (T 46) 0),
 D 51 (.ext (T 46) 1),
 D 15 (.mv (T 50)),
 D 16 (.mv (T 51))])
 (.seq (.seq (.region [
 D 52 (.mv (T 16)),
 D 53 (.bin .neq (T 52) (C (.int .i64 0))),
 D 54 (.mv (T 53)),
 ⟨(some 55), (some (54, false)), 0, true, .mv (T 15)⟩,
 ⟨(some 56), (some (54, false)), 0, true, .eqs false .ptr (T 55) (C (.pointer none))⟩,
 D 57 (.pick (T 54) (C (.bool true)) (T 56))])
 (.cond (T 57)
 (.seq (.region [
 D 14 (.mv (C (.bool false)))])
 .ret)
 .skip))
 (.seq (.region [
 D 58 (.mv (T 0)),
 D 59 (.len (T 58)),
 D 60 (.call 38 [(T 59)]),
 D 17 (.mv (T 60))])
 (.seq (.region [
 D 61 (.mv (T 15)),
 D 62 (.mv (T 0)),
 D 63 (.len (T 62)),
 D 64 (.call 33 [(T 61), (T 63)])])
 (.seq (.region [
 D 65 (.mv (T 17)),
 D 66 (.mv (T 0)),
 D 67 (.len (T 66)),
 D 68 (.call 39 [(T 65), (T 67)])])
 (.seq (.region [
 D 69 (.mv (T 15)),
 D 70 (.mv (T 0)),
 D 71 (.len (T 70)),
 D 72 (.build [(.int .i64 0), (.int .i64 0)] [(1, 1, (T 71))]),
 D 73 (.mv (T 0)),
 D 74 (.call 34 [(T 69), (T 72), (C (.int .i64 0)), (T 73)])])
 (.seq (.region [
 D 75 (.mv (T 17)),
 D 76 (.mv (T 0)),
 D 77 (.len (T 76)),
 D 78 (.build [(.int .i64 0), (.int .i64 0)] [(1, 1, (T 77))]),
 D 79 (.mv (T 0)),
 D 80 (.call 40 [(T 75), (T 78), (C (.int .i64 0)), (T 79)])])
 (.seq (.region [
 D 81 (.mv (T 15)),
 D 82 (.mv (T 0)),
 D 83 (.len (T 82)),
 D 84 (.mv (T 1)),
 D 85 (.bin .sub (T 83) (T 84)),
 D 86 (.call 41 [(T 81), (T 85)])])
 (.seq (.region [
 D 87 (.mv (T 17)),
 D 88 (.mv (T 0)),
 D 89 (.len (T 88)),
 D 90 (.mv (T 1)),
 D 91 (.bin .sub (T 89) (T 90)),
 D 92 (.call 42 [(T 87), (T 91)])])
 (.seq (.region [
 D 93 (.mv (T 17)),
 D 94 (.load (some 2) (T 9)),
 D 95 (.load (some 2) (T 10)),
 D 96 (.load (some 2) (T 11)),
 D 97 (.call 43 [(T 93), (T 94), (T 95), (T 96)]),
 D 18 (.mv (T 97))])
 (.seq (.seq (.region [
 D 98 (.mv (T 15)),
 D 99 (.load (some 2) (T 9)),
 D 100 (.load (some 2) (T 10)),
 D 101 (.load (some 2) (T 11)),
 D 102 (.call 44 [(T 98), (T 99), (T 100), (T 101)]),
 D 103 (.mv (T 18)),
 D 104 (.eqs true .bool (T 102) (T 103)),
 D 105 (.mv (T 104)),
 ⟨(some 106), (some (105, false)), 0, true, .mv (T 5)⟩,
 ⟨(some 107), (some (105, false)), 0, true, .bin .leq (T 106) (C (.int .i64 2000))⟩,
 ⟨(some 108), (some (105, false)), 0, true, .mv (T 107)⟩,
 ⟨(some 109), (some (108, true)), 0, true, .mv (T 5)⟩,
 ⟨(some 110), (some (108, true)), 0, true, .mv (T 6)⟩,
 ⟨(some 111), (some (108, true)), 0, true, .call 37 [(T 109), (T 110)]⟩,
 ⟨(some 112), (some (108, true)), 0, true, .mv (T 5)⟩,
 ⟨(some 113), (some (108, true)), 0, true, .mv (T 6)⟩,
 ⟨(some 114), (some (108, true)), 0, true, .call 45 [(T 112), (T 113)]⟩,
 ⟨(some 115), (some (108, true)), 0, true, .bin .neq (T 111) (T 114)⟩,
 ⟨(some 116), (some (105, false)), 0, true, .pick (T 108) (T 115) (C (.bool false))⟩,
 D 117 (.pick (T 105) (C (.bool true)) (T 116))])
 (.cond (T 117)
 (.seq (.region [
 D 14 (.mv (C (.bool false)))])
 .ret)
 .skip))
 (.seq (.region [
 D 119 (.mv (T 15)),
 D 120 (.load (some 2) (T 9)),
 D 121 (.load (some 2) (T 10)),
 D 122 (.load (some 2) (T 11)),
 D 123 (.call 28 [(T 119), (T 120), (T 121), (T 122)]),
 D 118 (.mv (T 123)),
 D 124 (.ext (T 118) 0),
 D 125 (.ext (T 118) 1),
 D 126 (.ext (T 118) 2),
 D 19 (.mv (T 124)),
 D 20 (.mv (T 125)),
 D 21 (.mv (T 126))])
 (.seq (.seq (.region [
 D 127 (.mv (T 21)),
 D 128 (.bin .eql (T 127) (C (.int .i64 0))),
 D 129 (.mv (T 18)),
 D 130 (.eqs true .bool (T 128) (T 129)),
 D 131 (.mv (T 130)),
 ⟨(some 132), (some (131, false)), 0, true, .mv (T 21)⟩,
 ⟨(some 133), (some (131, false)), 0, true, .bin .neq (T 132) (C (.int .i64 0))⟩,
 ⟨(some 134), (some (131, false)), 0, true, .mv (T 133)⟩,
 ⟨(some 135), (some (134, true)), 0, true, .mv (T 21)⟩,
 ⟨(some 136), (some (134, true)), 0, true, .bin .neq (T 135) (C (.int .i64 2))⟩,
 ⟨(some 137), (some (134, true)), 0, true, .mv (T 136)⟩,
 ⟨(some 138), (some (137, false)), 0, true, .mv (T 19)⟩,
 ⟨(some 139), (some (137, false)), 0, true, .bin .neq (T 138) (C (.int .i64 0))⟩,
 ⟨(some 140), (some (134, true)), 0, true, .pick (T 137) (C (.bool true)) (T 139)⟩,
 ⟨(some 141), (some (134, true)), 0, true, .mv (T 140)⟩,
 ⟨(some 142), (some (141, false)), 0, true, .mv (T 20)⟩,
 ⟨(some 143), (some (141, false)), 0, true, .bin .neq (T 142) (C (.int .i64 0))⟩,
 ⟨(some 144), (some (134, true)), 0, true, .pick (T 141) (C (.bool true)) (T 143)⟩,
 ⟨(some 145), (some (131, false)), 0, true, .pick (T 134) (T 144) (C (.bool false))⟩,
 D 146 (.pick (T 131) (C (.bool true)) (T 145)),
 D 147 (.mv (T 146)),
 ⟨(some 148), (some (147, false)), 0, true, .mv (T 15)⟩,
 ⟨(some 149), (some (147, false)), 0, true, .call 35 [(T 148)]⟩,
 ⟨(some 150), (some (147, false)), 0, true, .mv (T 0)⟩,
 ⟨(some 151), (some (147, false)), 0, true, .len (T 150)⟩,
 ⟨(some 152), (some (147, false)), 0, true, .mv (T 1)⟩,
 ⟨(some 153), (some (147, false)), 0, true, .bin .sub (T 151) (T 152)⟩,
 ⟨(some 154), (some (147, false)), 0, true, .bin .neq (T 149) (T 153)⟩,
 D 155 (.pick (T 147) (C (.bool true)) (T 154))])
 (.cond (T 155)
 (.seq (.region [
 D 14 (.mv (C (.bool false)))])
 .ret)
 .skip))
 (.seq (.region [
 D 156 (.mv (T 15)),
 D 157 (.mv (T 0)),
 D 158 (.len (T 157)),
 D 159 (.mv (T 1)),
 D 160 (.bin .sub (T 158) (T 159)),
 D 161 (.build [(.int .i64 0), (.int .i64 0)] [(1, 1, (T 160))]),
 D 162 (.call 29 [(T 156), (T 161)]),
 D 22 (.mv (T 162))])
 (.seq (.seq (.region [
 D 163 (.mv (T 22)),
 D 164 (.len (T 163)),
 D 165 (.mv (T 0)),
 D 166 (.len (T 165)),
 D 167 (.mv (T 1)),
 D 168 (.bin .sub (T 166) (T 167)),
 D 169 (.bin .neq (T 164) (T 168))])
 (.cond (T 169)
 (.seq (.region [
 D 14 (.mv (C (.bool false)))])
 .ret)
 .skip))
 (.seq (.seq (.region [
 D 170 (.mv (T 18)),
 D 171 (.un .not (T 170))])
 (.cond (T 171)
 (.seq (.drawn [
 ⟨(some 172), none, 0, false, .mv (T 22)⟩,
 ⟨(some 173), none, 1, false, .bstr (T 172)⟩,
 ⟨(some 174), none, 0, false, .mv (T 0)⟩,
 ⟨(some 175), none, 0, false, .mv (T 0)⟩,
 ⟨(some 176), none, 8, false, .len (T 175)⟩,
 ⟨(some 177), none, 0, false, .mv (T 1)⟩,
 ⟨(some 178), none, 56, false, .bin .sub (T 176) (T 177)⟩,
 ⟨(some 179), none, 124, false, .slice 1 (T 174) none (some (T 178)) none⟩,
 ⟨(some 180), none, 252, false, .bstr (T 179)⟩,
 ⟨(some 181), none, 511, false, .bin .eql (T 173) (T 180)⟩,
 ⟨(some 182), none, 1023, false, .mv (T 181)⟩,
 ⟨(some 183), (some (182, true)), 2047, true, .call 26 []⟩,
 ⟨(some 184), none, 4095, false, .pick (T 182) (T 183) (C (.bool false))⟩,
 ⟨(some 14), none, 8191, false, .mv (T 184)⟩])
 .ret)
 .skip))
 (.seq (.seq (.region [
 D 23 (.mv (C (.int .i64 0)))])
 (.block 0 (.loop [0, 22, 11, 10, 15, 19, 20, 9, 23] lb9_0)))
 (.seq (.region [
 D 233 (.mv (T 0)),
 D 234 (.faddr 0 (T 9)),
 D 235 (.load none (T 234)),
 D 236 (.faddr 0 (T 9)),
 D 237 (.load none (T 236)),
 D 238 (.faddr 1 (T 9)),
 D 239 (.load none (T 238)),
 D 240 (.bin .add (T 237) (T 239)),
 D 241 (.slice 1 (T 233) (some (T 235)) (some (T 240)) none),
 D 242 (.call 36 [(T 241)]),
 D 232 (.mv (T 242)),
 D 243 (.ext (T 232) 0),
 D 244 (.ext (T 232) 1),
 D 25 (.mv (T 243)),
 D 26 (.mv (T 244))])
 (.seq (.drawn [
 ⟨(some 245), none, 0, false, .mv (T 15)⟩,
 ⟨(some 246), none, 0, false, .load (some 2) (T 10)⟩,
 ⟨(some 247), none, 3, false, .call 29 [(T 245), (T 246)]⟩,
 ⟨(some 248), none, 7, false, .bstr (T 247)⟩,
 ⟨(some 249), none, 0, false, .mv (T 25)⟩,
 ⟨(some 250), none, 16, false, .bstr (T 249)⟩,
 ⟨(some 251), none, 63, false, .bin .eql (T 248) (T 250)⟩,
 ⟨(some 252), none, 127, false, .mv (T 251)⟩,
 ⟨(some 253), (some (252, true)), 255, false, .mv (T 19)⟩,
 ⟨(some 254), (some (252, true)), 255, false, .mv (T 26)⟩,
 ⟨(some 255), (some (252, true)), 1023, false, .bin .eql (T 253) (T 254)⟩,
 ⟨(some 256), none, 2047, false, .pick (T 252) (T 255) (C (.bool false))⟩,
 ⟨(some 257), none, 4095, false, .mv (T 256)⟩,
 ⟨(some 258), (some (257, true)), 8191, false, .mv (T 20)⟩,
 ⟨(some 259), (some (257, true)), 8191, false, .faddr 1 (T 9)⟩,
 ⟨(some 260), (some (257, true)), 24575, false, .load none (T 259)⟩,
 ⟨(some 261), (some (257, true)), 8191, false, .faddr 1 (T 11)⟩,
 ⟨(some 262), (some (257, true)), 73727, false, .load none (T 261)⟩,
 ⟨(some 263), (some (257, true)), 204799, false, .bin .quo (T 262) (C (.int .i64 4))⟩,
 ⟨(some 264), (some (257, true)), 516095, true, .call 45 [(T 260), (T 263)]⟩,
 ⟨(some 265), (some (257, true)), 1048575, false, .bin .eql (T 258) (T 264)⟩,
 ⟨(some 266), none, 2097151, false, .pick (T 257) (T 265) (C (.bool false))⟩,
 ⟨(some 267), none, 4194303, false, .mv (T 266)⟩,
 ⟨(some 268), (some (267, true)), 8388607, true, .call 26 []⟩,
 ⟨(some 269), none, 16777215, false, .pick (T 267) (T 268) (C (.bool false))⟩,
 ⟨(some 14), none, 33554431, false, .mv (T 269)⟩])
 .ret))))))))))))))))))))), [.tmp 14]⟩
theorem ac9_ok : compFn Try.prog Try.f9 = some ac9 := by kernel_rfl
/-- winepress/winepresslaw19.wakes -/
def ac26 : AFn := ⟨(.seq (.region [
 D 0 (.mv (C (.bool false)))])
 (.seq (.region [
 D 17 (.build [(.int .i64 0), (.int .i64 0)] [(1, 1, (C (.int .i64 6)))]),
 D 18 (.build [(.int .i64 0), (.int .i64 0)] [(0, 1, (C (.int .i64 6))), (1, 1, (C (.int .i64 6)))]),
 D 1 (.alloc true [(.int .i64 0), (.int .i64 0)]),
 D 2 (.alloc true [(.int .i64 0), (.int .i64 0)]),
 E (.store 2 (T 1) (T 17)),
 E (.store 2 (T 2) (T 18))])
 (.seq (.region [
 D 19 (.load (some 2) (T 1)),
 D 20 (.bslice true 1 6 (List.replicate 6 (.int .u8 0)) [(0, 1, (C (.int .u8 98))), (1, 1, (C (.int .u8 97))), (2, 1, (C (.int .u8 110))), (3, 1, (C (.int .u8 97))), (4, 1, (C (.int .u8 110))), (5, 1, (C (.int .u8 97)))]),
 D 21 (.mark (T 20)),
 D 22 (.call 27 [(C (.int .i64 50)), (T 19), (T 21)]),
 D 3 (.mv (T 22))])
 (.seq (.seq (.region [
 D 23 (.mv (T 3)),
 D 24 (.eqs false .ptr (T 23) (C (.pointer none)))])
 (.cond (T 24)
 (.seq (.region [
 D 0 (.mv (C (.bool false)))])
 .ret)
 .skip))
 (.seq (.region [
 D 26 (.mv (T 3)),
 D 27 (.load (some 2) (T 1)),
 D 28 (.load (some 2) (T 2)),
 D 29 (.build [(.int .i64 0), (.int .i64 0)] [(0, 1, (C (.int .i64 12))), (1, 1, (C (.int .i64 15)))]),
 D 30 (.call 28 [(T 26), (T 27), (T 28), (T 29)]),
 D 25 (.mv (T 30)),
 D 31 (.ext (T 25) 0),
 D 32 (.ext (T 25) 1),
 D 33 (.ext (T 25) 2),
 D 4 (.mv (T 31)),
 D 5 (.mv (T 32)),
 D 6 (.mv (T 33))])
 (.seq (.region [
 D 34 (.mv (T 3)),
 D 35 (.load (some 2) (T 2)),
 D 36 (.call 29 [(T 34), (T 35)]),
 D 37 (.bstr (T 36)),
 D 7 (.mv (T 37))])
 (.seq (.region [
 D 39 (.mv (T 3)),
 D 40 (.load (some 2) (T 1)),
 D 41 (.load (some 2) (T 2)),
 D 42 (.build [(.int .i64 0), (.int .i64 0)] [(0, 1, (C (.int .i64 12))), (1, 1, (C (.int .i64 28)))]),
 D 43 (.call 28 [(T 39), (T 40), (T 41), (T 42)]),
 D 38 (.mv (T 43)),
 D 44 (.ext (T 38) 0),
 D 45 (.ext (T 38) 1),
 D 46 (.ext (T 38) 2),
 D 8 (.mv (T 44)),
 D 9 (.mv (T 45)),
 D 10 (.mv (T 46))])
 (.seq (.region [
 D 48 (.mv (T 3)),
 D 49 (.load (some 2) (T 1)),
 D 50 (.load (some 2) (T 2)),
 D 51 (.build [(.int .i64 0), (.int .i64 0)] [(0, 1, (C (.int .i64 11))), (1, 1, (C (.int .i64 8)))]),
 D 52 (.call 28 [(T 48), (T 49), (T 50), (T 51)]),
 D 47 (.mv (T 52)),
 D 53 (.ext (T 47) 0),
 D 54 (.ext (T 47) 1),
 D 55 (.ext (T 47) 2),
 D 11 (.mv (T 53)),
 D 12 (.mv (T 54)),
 D 13 (.mv (T 55))])
 (.seq (.region [
 D 57 (.load (some 2) (T 1)),
 D 58 (.load (some 2) (T 2)),
 D 59 (.build [(.int .i64 0), (.int .i64 0)] [(0, 1, (C (.int .i64 12))), (1, 1, (C (.int .i64 8)))]),
 D 60 (.call 28 [(C (.pointer none)), (T 57), (T 58), (T 59)]),
 D 56 (.mv (T 60)),
 D 61 (.ext (T 56) 0),
 D 62 (.ext (T 56) 1),
 D 63 (.ext (T 56) 2),
 D 14 (.mv (T 61)),
 D 15 (.mv (T 62)),
 D 16 (.mv (T 63))])
 (.seq (.region [
 D 64 (.mv (T 4)),
 D 65 (.bin .eql (T 64) (C (.int .i64 4))),
 D 66 (.mv (T 65)),
 ⟨(some 67), (some (66, true)), 0, true, .mv (T 5)⟩,
 ⟨(some 68), (some (66, true)), 0, true, .bin .eql (T 67) (C (.int .i64 3))⟩,
 D 69 (.pick (T 66) (T 68) (C (.bool false))),
 D 70 (.mv (T 69)),
 ⟨(some 71), (some (70, true)), 0, true, .mv (T 6)⟩,
 ⟨(some 72), (some (70, true)), 0, true, .bin .eql (T 71) (C (.int .i64 0))⟩,
 D 73 (.pick (T 70) (T 72) (C (.bool false))),
 D 74 (.mv (T 73)),
 ⟨(some 75), (some (74, true)), 0, true, .mv (T 7)⟩,
 ⟨(some 76), (some (74, true)), 0, true, .bin .eql (T 75) (C (.string ⟨#[97, 110, 110, 98, 97, 97]⟩))⟩,
 D 77 (.pick (T 74) (T 76) (C (.bool false))),
 D 78 (.mv (T 77)),
 ⟨(some 79), (some (78, true)), 0, true, .mv (T 8)⟩,
 ⟨(some 80), (some (78, true)), 0, true, .bin .eql (T 79) (C (.int .i64 4))⟩,
 D 81 (.pick (T 78) (T 80) (C (.bool false))),
 D 82 (.mv (T 81)),
 ⟨(some 83), (some (82, true)), 0, true, .mv (T 9)⟩,
 ⟨(some 84), (some (82, true)), 0, true, .bin .eql (T 83) (C (.int .i64 1))⟩,
 D 85 (.pick (T 82) (T 84) (C (.bool false))),
 D 86 (.mv (T 85)),
 ⟨(some 87), (some (86, true)), 0, true, .mv (T 10)⟩,
 ⟨(some 88), (some (86, true)), 0, true, .bin .eql (T 87) (C (.int .i64 0))⟩,
 D 89 (.pick (T 86) (T 88) (C (.bool false))),
 D 90 (.mv (T 89)),
 ⟨(some 91), (some (90, true)), 0, true, .mv (T 3)⟩,
 ⟨(some 92), (some (90, true)), 0, true, .load (some 2) (T 2)⟩,
 ⟨(some 93), (some (90, true)), 0, true, .call 29 [(T 91), (T 92)]⟩,
 ⟨(some 94), (some (90, true)), 0, true, .bstr (T 93)⟩,
 ⟨(some 95), (some (90, true)), 0, true, .bin .eql (T 94) (C (.string ⟨#[97, 110, 110, 98, 97, 97]⟩))⟩,
 D 96 (.pick (T 90) (T 95) (C (.bool false))),
 D 97 (.mv (T 96)),
 ⟨(some 98), (some (97, true)), 0, true, .mv (T 3)⟩,
 ⟨(some 99), (some (97, true)), 0, true, .load (some 2) (T 1)⟩,
 ⟨(some 100), (some (97, true)), 0, true, .call 29 [(T 98), (T 99)]⟩,
 ⟨(some 101), (some (97, true)), 0, true, .bstr (T 100)⟩,
 ⟨(some 102), (some (97, true)), 0, true, .bin .eql (T 101) (C (.string ⟨#[98, 97, 110, 97, 110, 97]⟩))⟩,
 D 103 (.pick (T 97) (T 102) (C (.bool false))),
 D 104 (.mv (T 103)),
 ⟨(some 105), (some (104, true)), 0, true, .mv (T 13)⟩,
 ⟨(some 106), (some (104, true)), 0, true, .bin .eql (T 105) (C (.int .i64 2))⟩,
 D 107 (.pick (T 104) (T 106) (C (.bool false))),
 D 108 (.mv (T 107)),
 ⟨(some 109), (some (108, true)), 0, true, .mv (T 16)⟩,
 ⟨(some 110), (some (108, true)), 0, true, .bin .eql (T 109) (C (.int .i64 2))⟩,
 D 111 (.pick (T 108) (T 110) (C (.bool false))),
 D 112 (.mv (T 111)),
 ⟨(some 113), (some (112, true)), 0, true, .call 37 [(C (.int .i64 6)), (C (.int .i64 3))]⟩,
 ⟨(some 114), (some (112, true)), 0, true, .bin .eql (T 113) (C (.int .i64 3))⟩,
 D 115 (.pick (T 112) (T 114) (C (.bool false))),
 D 116 (.mv (T 115)),
 ⟨(some 117), (some (116, true)), 0, true, .call 37 [(C (.int .i64 6)), (C (.int .i64 0))]⟩,
 ⟨(some 118), (some (116, true)), 0, true, .bin .eql (T 117) (C (.int .i64 0))⟩,
 D 119 (.pick (T 116) (T 118) (C (.bool false))),
 D 120 (.mv (T 119)),
 ⟨(some 121), (some (120, true)), 0, true, .call 37 [(C (.int .i64 0)), (C (.int .i64 1))]⟩,
 ⟨(some 122), (some (120, true)), 0, true, .bin .eql (T 121) (C (.int .i64 1))⟩,
 D 123 (.pick (T 120) (T 122) (C (.bool false))),
 D 124 (.mv (T 123)),
 ⟨(some 125), (some (124, true)), 0, true, .mv (T 3)⟩,
 ⟨(some 126), (some (124, true)), 0, true, .load (some 2) (T 1)⟩,
 ⟨(some 127), (some (124, true)), 0, true, .load (some 2) (T 2)⟩,
 ⟨(some 128), (some (124, true)), 0, true, .build [(.int .i64 0), (.int .i64 0)] [(0, 1, (C (.int .i64 12))), (1, 1, (C (.int .i64 4)))]⟩,
 ⟨(some 129), (some (124, true)), 0, true, .call 44 [(T 125), (T 126), (T 127), (T 128)]⟩,
 D 130 (.pick (T 124) (T 129) (C (.bool false))),
 D 131 (.mv (T 130)),
 ⟨(some 132), (some (131, true)), 0, true, .mv (T 3)⟩,
 ⟨(some 133), (some (131, true)), 0, true, .load (some 2) (T 1)⟩,
 ⟨(some 134), (some (131, true)), 0, true, .load (some 2) (T 2)⟩,
 ⟨(some 135), (some (131, true)), 0, true, .build [(.int .i64 0), (.int .i64 0)] [(0, 1, (C (.int .i64 12))), (1, 1, (C (.int .i64 3)))]⟩,
 ⟨(some 136), (some (131, true)), 0, true, .call 44 [(T 132), (T 133), (T 134), (T 135)]⟩,
 ⟨(some 137), (some (131, true)), 0, true, .un .not (T 136)⟩,
 D 138 (.pick (T 131) (T 137) (C (.bool false))),
 D 139 (.mv (T 138)),
 ⟨(some 140), (some (139, true)), 0, true, .load (some 2) (T 1)⟩,
 ⟨(some 141), (some (139, true)), 0, true, .load (some 2) (T 2)⟩,
 ⟨(some 142), (some (139, true)), 0, true, .load (some 2) (T 2)⟩,
 ⟨(some 143), (some (139, true)), 0, true, .call 44 [(C (.pointer none)), (T 140), (T 141), (T 142)]⟩,
 ⟨(some 144), (some (139, true)), 0, true, .un .not (T 143)⟩,
 D 145 (.pick (T 139) (T 144) (C (.bool false))),
 D 0 (.mv (T 145))])
 .ret)))))))))), [.tmp 0]⟩
theorem ac26_ok : compFn Try.prog Try.f26 = some ac26 := by kernel_rfl
/-- winepress/winepresslaw19.laid -/
def ac27 : AFn := ⟨(.seq (.region [
 D 4 (.box true (T 1)),
 D 6 (.mv (C (.pointer none)))])
 (.seq (.region [
 D 12 (.mv (T 0)),
 D 13 (.call 32 [(T 12)]),
 D 11 (.mv (T 13)),
 D 14 (.ext (T 11) 0),
 D 15 (.ext (T 11) 1),
 D 7 (.mv (T 14)),
 D 8 (.mv (T 15))])
 (.seq (.seq (.region [
 D 16 (.mv (T 8)),
 D 17 (.bin .neq (T 16) (C (.int .i64 0))),
 D 18 (.mv (T 17)),
 ⟨(some 19), (some (18, false)), 0, true, .mv (T 7)⟩,
 ⟨(some 20), (some (18, false)), 0, true, .eqs false .ptr (T 19) (C (.pointer none))⟩,
 D 21 (.pick (T 18) (C (.bool true)) (T 20))])
 (.cond (T 21)
 (.seq (.region [
 D 6 (.mv (C (.pointer none)))])
 .ret)
 .skip))
 (.seq (.region [
 D 23 (.mv (T 7)),
 D 24 (.mv (T 0)),
 D 25 (.call 33 [(T 23), (T 24)]),
 D 22 (.mv (T 25)),
 D 26 (.ext (T 22) 0),
 D 27 (.ext (T 22) 1),
 D 9 (.alloc true [(.int .i64 0), (.int .i64 0)]),
 E (.store 2 (T 9) (T 26)),
 D 10 (.mv (T 27))])
 (.seq (.seq (.region [
 D 28 (.mv (T 10)),
 D 29 (.bin .neq (T 28) (C (.int .i64 0))),
 D 30 (.mv (T 29)),
 ⟨(some 31), (some (30, false)), 0, true, .mv (T 7)⟩,
 ⟨(some 32), (some (30, false)), 0, true, .load (some 2) (T 4)⟩,
 ⟨(some 33), (some (30, false)), 0, true, .mv (T 2)⟩,
 ⟨(some 34), (some (30, false)), 0, true, .call 34 [(T 31), (T 32), (C (.int .i64 0)), (T 33)]⟩,
 ⟨(some 35), (some (30, false)), 0, true, .un .not (T 34)⟩,
 D 36 (.pick (T 30) (C (.bool true)) (T 35))])
 (.cond (T 36)
 (.seq (.region [
 D 6 (.mv (C (.pointer none)))])
 .ret)
 .skip))
 (.seq (.region [
 D 37 (.mv (T 7)),
 D 6 (.mv (T 37))])
 .ret)))))), [.tmp 6]⟩
theorem ac27_ok : compFn Try.prog Try.f27 = some ac27 := by kernel_rfl
/-- a loop of winepress/bwtbucket.Turn; it keeps [8, 15, 49, 48, 12, 9, 11, 14, 6, 0, 13, 5] -/
def lb28_0 : ACode := (.seq (.region [
 D 50 (.bin .lss (T 49) (T 48))])
 (.seq (.cond (T 50)
 .skip
 (.exit 2))
 (.seq (.block 3 (.seq (.region [
 D 51 (.mv (T 49)),
 D 16 (.mv (T 51))])
 (.seq (.seq (.region [
 D 52 (.load none (T 11)),
 D 53 (.mv (T 16)),
 D 54 (.call 64 [(T 52), (T 53)]),
 E (.store 1 (T 13) (T 54))])
 (.seq (.region [
 D 55 (.load none (T 13)),
 D 56 (.bin .eql (T 55) (C (.int .i64 0)))])
 (.cond (T 56)
 (.region [
 D 57 (.mv (T 15)),
 D 8 (.mv (T 57))])
 (.seq (.region [
 D 59 (.mv (T 0)),
 D 60 (.load (some 2) (T 5)),
 D 61 (.load none (T 13)),
 D 62 (.bin .sub (T 61) (C (.int .i64 1))),
 D 63 (.call 65 [(T 59), (T 60), (T 62)]),
 D 58 (.mv (T 63)),
 D 64 (.ext (T 58) 0),
 D 65 (.ext (T 58) 1),
 D 17 (.mv (T 64)),
 D 18 (.mv (T 65))])
 (.seq (.region [
 D 66 (.mv (T 0)),
 D 67 (.load (some 2) (T 6)),
 D 68 (.mv (T 14)),
 D 69 (.mv (T 17)),
 D 70 (.call 66 [(T 66), (T 67), (T 68), (T 69)])])
 (.region [
 D 71 (.mv (T 14)),
 D 72 (.bin .add (T 71) (C (.int .i64 1))),
 D 14 (.mv (T 72))]))))))
 (.region [
 D 73 (.mv (T 15)),
 D 74 (.bin .add (T 73) (C (.int .i64 1))),
 D 15 (.mv (T 74))]))))
 (.region [
 D 75 (.bin .add (T 49) (C (.int .i64 1))),
 D 49 (.mv (T 75))]))))
/-- a loop of winepress/bwtbucket.Turn; it keeps [8, 15, 12, 9, 11, 14, 6, 0, 13, 5] -/
def lb28_1 : ACode := (.seq (.seq (.region [
 D 37 (.mv (T 15)),
 D 38 (.faddr 1 (T 5)),
 D 39 (.load none (T 38)),
 D 40 (.bin .leq (T 37) (T 39))])
 (.cond (T 40)
 .skip
 (.exit 0)))
 (.seq (.block 1 (.seq (.region [
 D 43 (.load none (T 11)),
 D 44 (.mv (T 12)),
 D 45 (.mkfn 61 [] [(T 13), (T 11)]),
 D 46 (.call 60 [(T 43), (T 44), (T 45)])])
 (.seq (.region [
 D 47 (.load none (T 11)),
 D 48 (.call 63 [(T 47)]),
 D 49 (.mv (C (.int .i64 0)))])
 (.block 2 (.loop [8, 15, 49, 48, 12, 9, 11, 14, 6, 0, 13, 5] lb28_0)))))
 (.region [
 D 41 (.mv (T 9)),
 D 42 (.bin .add (T 41) (C (.int .i64 1))),
 D 9 (.mv (T 42))])))
/-- winepress/bwtbucket.Turn -/
def ac28 : AFn := ⟨(.seq (.region [
 D 5 (.box true (T 1)),
 D 6 (.box true (T 2)),
 D 7 (.box true (T 3)),
 D 8 (.mv (C (.int .i64 0))),
 D 9 (.mv (C (.int .i64 0))),
 D 10 (.mv (C (.int .i64 0)))])
 (.seq (.seq (.region [
 D 19 (.mv (T 0)),
 D 20 (.load (some 2) (T 5)),
 D 21 (.load (some 2) (T 6)),
 D 22 (.load (some 2) (T 7)),
 D 23 (.call 44 [(T 19), (T 20), (T 21), (T 22)]),
 D 24 (.un .not (T 23))])
 (.cond (T 24)
 (.seq (.region [
 D 8 (.mv (C (.int .i64 0))),
 D 9 (.mv (C (.int .i64 0))),
 D 10 (.mv (C (.int .i64 2)))])
 .ret)
 .skip))
 (.seq (.region [
 D 25 (.mv (T 0)),
 D 26 (.load (some 2) (T 5)),
 D 27 (.load (some 2) (T 7)),
 D 28 (.build [(.pointer none), (.int .i64 0), (.int .i64 0), (.int .i64 0), (.int .i64 0), (.int .i64 0)] [(0, 1, (T 25)), (1, 2, (T 26)), (3, 2, (T 27))]),
 D 29 (.box false (T 28)),
 D 11 (.alloc false [(.pointer none)]),
 E (.store 1 (T 11) (T 29))])
 (.seq (.region [
 D 30 (.faddr 1 (T 7)),
 D 31 (.load none (T 30)),
 D 32 (.bin .quo (T 31) (C (.int .i64 4))),
 D 33 (.faddr 1 (T 5)),
 D 34 (.load none (T 33)),
 D 35 (.bin .add (T 34) (C (.int .i64 1))),
 D 36 (.mm false [(T 32), (T 35)]),
 D 13 (.alloc true [(.int .i64 0)]),
 D 12 (.mv (T 36)),
 E (.store 1 (T 13) (C (.int .i64 (-1)))),
 D 14 (.mv (C (.int .i64 0)))])
 (.seq (.seq (.region [
 D 15 (.mv (C (.int .i64 0)))])
 (.block 0 (.loop [8, 15, 12, 9, 11, 14, 6, 0, 13, 5] lb28_1)))
 (.seq (.region [
 D 76 (.mv (T 8)),
 D 77 (.mv (T 9)),
 D 8 (.mv (T 76)),
 D 9 (.mv (T 77)),
 D 10 (.mv (C (.int .i64 0)))])
 .ret)))))), [.tmp 8, .tmp 9, .tmp 10]⟩
theorem ac28_ok : compFn Try.prog Try.f28 = some ac28 := by kernel_rfl
/-- (*winepress/arena.Arena).Load -/
def ac29 : AFn := ⟨(.seq (.region [
 D 3 (.box true (T 1)),
 D 4 (.mv (C (.slice none 0 0)))])
 (.seq (.seq (.region [
 D 5 (.mv (T 0)),
 D 6 (.load (some 2) (T 3)),
 D 7 (.call 67 [(T 5), (T 6)]),
 D 8 (.un .not (T 7))])
 (.cond (T 8)
 (.seq (.region [
 D 4 (.mv (C (.slice none 0 0)))])
 .ret)
 .skip))
 (.seq (.drawn [
 ⟨(some 9), none, 0, false, .mv (T 0)⟩,
 ⟨(some 10), none, 1, false, .nilck (T 9)⟩,
 ⟨(some 11), none, 3, false, .faddr 0 (T 10)⟩,
 ⟨(some 12), none, 7, false, .load none (T 11)⟩,
 ⟨(some 13), none, 0, false, .faddr 0 (T 3)⟩,
 ⟨(some 14), none, 16, false, .load none (T 13)⟩,
 ⟨(some 15), none, 0, false, .faddr 0 (T 3)⟩,
 ⟨(some 16), none, 64, false, .load none (T 15)⟩,
 ⟨(some 17), none, 0, false, .faddr 1 (T 3)⟩,
 ⟨(some 18), none, 256, false, .load none (T 17)⟩,
 ⟨(some 19), none, 960, false, .bin .add (T 16) (T 18)⟩,
 ⟨(some 20), none, 2047, false, .slice 1 (T 12) (some (T 14)) (some (T 19)) none⟩,
 ⟨(some 21), none, 4095, true, .call 59 [(T 20)]⟩,
 ⟨(some 4), none, 8191, false, .mv (T 21)⟩])
 .ret))), [.tmp 4]⟩
theorem ac29_ok : compFn Try.prog Try.f29 = some ac29 := by kernel_rfl
/-- a loop of winepress/winepressref17.Back; it keeps [1, 0, 6, 9, 7, 8] -/
def lb30_0 : ACode := (.seq (.seq (.region [
 D 30 (.mv (T 9)),
 D 31 (.mv (T 0)),
 D 32 (.len (T 31)),
 D 33 (.bin .lss (T 30) (T 32))])
 (.cond (T 33)
 .skip
 (.exit 0)))
 (.seq (.block 1 (.seq (.seq (.region [
 D 36 (.mv (T 8)),
 D 37 (.mv (T 1)),
 D 38 (.bin .eql (T 36) (T 37))])
 (.cond (T 38)
 (.seq (.region [
 D 4 (.mv (C (.slice none 0 0))),
 D 5 (.mv (C (.int .i64 170)))])
 .ret)
 .skip))
 (.seq (.region [
 D 39 (.mv (T 8)),
 D 10 (.mv (T 39))])
 (.seq (.seq (.region [
 D 40 (.mv (T 8)),
 D 41 (.mv (T 1)),
 D 42 (.bin .gtr (T 40) (T 41))])
 (.cond (T 42)
 (.region [
 D 43 (.mv (T 8)),
 D 44 (.bin .sub (T 43) (C (.int .i64 1))),
 D 10 (.mv (T 44))])
 .skip))
 (.seq (.region [
 D 45 (.mv (T 7)),
 D 46 (.mv (T 0)),
 D 47 (.mv (T 10)),
 D 48 (.iaddr 1 (T 46) (T 47)),
 D 49 (.load none (T 48)),
 D 50 (.bslice true 1 1 [(.int .u8 0)] [(0, 1, (T 49))]),
 D 51 (.append true 1 (T 45) (T 50)),
 D 7 (.mv (T 51))])
 (.region [
 D 52 (.mv (T 6)),
 D 53 (.mv (T 10)),
 D 54 (.iaddr 1 (T 52) (T 53)),
 D 55 (.load none (T 54)),
 D 8 (.mv (T 55))]))))))
 (.region [
 D 34 (.mv (T 9)),
 D 35 (.bin .add (T 34) (C (.int .i64 1))),
 D 9 (.mv (T 35))])))
/-- winepress/winepressref17.Back -/
def ac30 : AFn := ⟨(.seq (.region [
 D 4 (.mv (C (.slice none 0 0))),
 D 5 (.mv (C (.int .i64 0)))])
 (.seq (.seq (.region [
 D 11 (.mv (T 1)),
 D 12 (.bin .lss (T 11) (C (.int .i64 0))),
 D 13 (.mv (T 12)),
 ⟨(some 14), (some (13, false)), 0, true, .mv (T 1)⟩,
 ⟨(some 15), (some (13, false)), 0, true, .mv (T 0)⟩,
 ⟨(some 16), (some (13, false)), 0, true, .len (T 15)⟩,
 ⟨(some 17), (some (13, false)), 0, true, .bin .gtr (T 14) (T 16)⟩,
 D 18 (.pick (T 13) (C (.bool true)) (T 17)),
 D 19 (.mv (T 18)),
 ⟨(some 20), (some (19, false)), 0, true, .mv (T 1)⟩,
 ⟨(some 21), (some (19, false)), 0, true, .bin .eql (T 20) (C (.int .i64 0))⟩,
 ⟨(some 22), (some (19, false)), 0, true, .mv (T 21)⟩,
 ⟨(some 23), (some (22, true)), 0, true, .mv (T 0)⟩,
 ⟨(some 24), (some (22, true)), 0, true, .len (T 23)⟩,
 ⟨(some 25), (some (22, true)), 0, true, .bin .gtr (T 24) (C (.int .i64 0))⟩,
 ⟨(some 26), (some (19, false)), 0, true, .pick (T 22) (T 25) (C (.bool false))⟩,
 D 27 (.pick (T 19) (C (.bool true)) (T 26))])
 (.cond (T 27)
 (.seq (.region [
 D 4 (.mv (C (.slice none 0 0))),
 D 5 (.mv (C (.int .i64 170)))])
 .ret)
 .skip))
 (.seq (.region [
 D 28 (.mv (T 0)),
 D 29 (.call 68 [(T 28)]),
 D 6 (.mv (T 29))])
 (.seq (.region [
 D 7 (.mv (C (.slice none 0 0)))])
 (.seq (.region [
 D 8 (.mv (C (.int .i64 0)))])
 (.seq (.seq (.region [
 D 9 (.mv (C (.int .i64 0)))])
 (.block 0 (.loop [1, 0, 6, 9, 7, 8] lb30_0)))
 (.seq (.seq (.region [
 D 56 (.mv (T 8)),
 D 57 (.mv (T 1)),
 D 58 (.bin .neq (T 56) (T 57))])
 (.cond (T 58)
 (.seq (.region [
 D 4 (.mv (C (.slice none 0 0))),
 D 5 (.mv (C (.int .i64 170)))])
 .ret)
 .skip))
 (.seq (.region [
 D 59 (.mv (T 7)),
 D 60 (.call 69 [(T 59)]),
 D 4 (.mv (T 60)),
 D 5 (.mv (C (.int .i64 0)))])
 .ret)))))))), [.tmp 4, .tmp 5]⟩
theorem ac30_ok : compFn Try.prog Try.f30 = some ac30 := by kernel_rfl
/-- (*winepress/arena.Arena).Peak -/
def ac31 : AFn := ⟨(.seq (.region [
 D 2 (.mv (C (.int .i64 0)))])
 (.seq (.seq (.region [
 D 3 (.mv (T 0)),
 D 4 (.eqs false .ptr (T 3) (C (.pointer none)))])
 (.cond (T 4)
 (.seq (.region [
 D 2 (.mv (C (.int .i64 0)))])
 .ret)
 .skip))
 (.seq (.region [
 D 5 (.mv (T 0)),
 D 6 (.nilck (T 5)),
 D 7 (.faddr 2 (T 6)),
 D 8 (.load none (T 7)),
 D 2 (.mv (T 8))])
 .ret))), [.tmp 2]⟩
theorem ac31_ok : compFn Try.prog Try.f31 = some ac31 := by kernel_rfl
/-- winepress/arena.New -/
def ac32 : AFn := ⟨(.seq (.region [
 D 2 (.mv (C (.pointer none))),
 D 3 (.mv (C (.int .i64 0)))])
 (.seq (.seq (.region [
 D 4 (.mv (T 0)),
 D 5 (.bin .lss (T 4) (C (.int .i64 1))),
 D 6 (.mv (T 5)),
 ⟨(some 7), (some (6, false)), 0, true, .mv (T 0)⟩,
 ⟨(some 8), (some (6, false)), 0, true, .bin .gtr (T 7) (C (.int .i64 1048576))⟩,
 D 9 (.pick (T 6) (C (.bool true)) (T 8))])
 (.cond (T 9)
 (.seq (.region [
 D 2 (.mv (C (.pointer none))),
 D 3 (.mv (C (.int .i64 2)))])
 .ret)
 .skip))
 (.seq (.region [
 D 10 (.mv (T 0)),
 D 11 (.mkslice true 1 [(.int .u8 0)] (T 10) (T 10)),
 D 12 (.build [(.slice none 0 0), (.int .i64 0), (.int .i64 0)] [(0, 1, (T 11))]),
 D 13 (.box false (T 12)),
 D 2 (.mv (T 13)),
 D 3 (.mv (C (.int .i64 0)))])
 .ret))), [.tmp 2, .tmp 3]⟩
theorem ac32_ok : compFn Try.prog Try.f32 = some ac32 := by kernel_rfl
/-- (*winepress/arena.Arena).Take -/
def ac33 : AFn := ⟨(.seq (.region [
 D 4 (.alloc true [(.int .i64 0), (.int .i64 0)]),
 D 5 (.mv (C (.int .i64 0)))])
 (.seq (.block 0 (.seq (.region [
 D 8 (.mv (T 0)),
 D 9 (.eqs false .ptr (T 8) (C (.pointer none))),
 D 10 (.mv (T 9)),
 ⟨(some 11), (some (10, false)), 0, true, .mv (T 1)⟩,
 ⟨(some 12), (some (10, false)), 0, true, .bin .lss (T 11) (C (.int .i64 0))⟩,
 D 13 (.pick (T 10) (C (.bool true)) (T 12)),
 D 7 (.mv (T 13))])
 (.cond (T 7)
 (.seq (.region [
 D 14 (.build [(.int .i64 0), (.int .i64 0)] []),
 E (.store 2 (T 4) (T 14)),
 D 5 (.mv (C (.int .i64 2)))])
 .ret)
 (.seq (.drawn [
 ⟨(some 16), none, 0, false, .mv (T 1)⟩,
 ⟨(some 17), none, 0, false, .mv (T 0)⟩,
 ⟨(some 18), none, 2, false, .nilck (T 17)⟩,
 ⟨(some 19), none, 6, false, .faddr 0 (T 18)⟩,
 ⟨(some 20), none, 14, false, .load none (T 19)⟩,
 ⟨(some 21), none, 30, false, .len (T 20)⟩,
 ⟨(some 22), none, 0, false, .mv (T 0)⟩,
 ⟨(some 23), none, 64, false, .nilck (T 22)⟩,
 ⟨(some 24), none, 192, false, .faddr 1 (T 23)⟩,
 ⟨(some 25), none, 448, false, .load none (T 24)⟩,
 ⟨(some 26), none, 1022, false, .bin .sub (T 21) (T 25)⟩,
 ⟨(some 27), none, 2047, false, .bin .gtr (T 16) (T 26)⟩,
 ⟨(some 15), none, 4095, false, .mv (T 27)⟩])
 (.cond (T 15)
 (.seq (.region [
 D 28 (.build [(.int .i64 0), (.int .i64 0)] []),
 E (.store 2 (T 4) (T 28)),
 D 5 (.mv (C (.int .i64 10)))])
 .ret)
 .skip)))))
 (.seq (.region [
 D 29 (.mv (T 0)),
 D 30 (.nilck (T 29)),
 D 31 (.faddr 1 (T 30)),
 D 32 (.load none (T 31)),
 D 33 (.mv (T 1)),
 D 34 (.build [(.int .i64 0), (.int .i64 0)] [(0, 1, (T 32)), (1, 1, (T 33))]),
 D 6 (.alloc true [(.int .i64 0), (.int .i64 0)]),
 E (.store 2 (T 6) (T 34))])
 (.seq (.drawn [
 ⟨(some 35), none, 0, false, .mv (T 0)⟩,
 ⟨(some 36), none, 1, false, .nilck (T 35)⟩,
 ⟨(some 37), none, 3, false, .faddr 0 (T 36)⟩,
 ⟨(some 38), none, 7, false, .load none (T 37)⟩,
 ⟨(some 39), none, 0, false, .faddr 0 (T 6)⟩,
 ⟨(some 40), none, 16, false, .load none (T 39)⟩,
 ⟨(some 41), none, 0, false, .faddr 0 (T 6)⟩,
 ⟨(some 42), none, 64, false, .load none (T 41)⟩,
 ⟨(some 43), none, 0, false, .mv (T 1)⟩,
 ⟨(some 44), none, 448, false, .bin .add (T 42) (T 43)⟩,
 ⟨(some 45), none, 1023, false, .slice 1 (T 38) (some (T 40)) (some (T 44)) none⟩,
 ⟨none, none, 2047, true, .clear 1 [(.int .u8 0)] (T 45)⟩])
 (.seq (.region [
 D 46 (.mv (T 0)),
 D 47 (.nilck (T 46)),
 D 48 (.faddr 1 (T 47)),
 D 49 (.load none (T 48)),
 D 50 (.mv (T 1)),
 D 51 (.bin .add (T 49) (T 50)),
 D 52 (.nilck (T 46)),
 D 53 (.faddr 1 (T 52)),
 E (.store 1 (T 53) (T 51))])
 (.seq (.drawn [
 ⟨(some 54), none, 0, false, .mv (T 0)⟩,
 ⟨(some 55), none, 0, false, .mv (T 0)⟩,
 ⟨(some 56), none, 2, false, .nilck (T 55)⟩,
 ⟨(some 57), none, 6, false, .faddr 2 (T 56)⟩,
 ⟨(some 58), none, 14, false, .load none (T 57)⟩,
 ⟨(some 59), none, 0, false, .mv (T 0)⟩,
 ⟨(some 60), none, 32, false, .nilck (T 59)⟩,
 ⟨(some 61), none, 96, false, .faddr 1 (T 60)⟩,
 ⟨(some 62), none, 224, false, .load none (T 61)⟩,
 ⟨(some 63), none, 510, false, .mm true [(T 58), (T 62)]⟩,
 ⟨(some 64), none, 1023, false, .nilck (T 54)⟩,
 ⟨(some 65), none, 2047, false, .faddr 2 (T 64)⟩,
 ⟨none, none, 4095, true, .store 1 (T 65) (T 63)⟩])
 (.seq (.region [
 D 66 (.load (some 2) (T 6)),
 E (.store 2 (T 4) (T 66)),
 D 5 (.mv (C (.int .i64 0)))])
 .ret))))))), [.cell 4 (some 2), .tmp 5]⟩
theorem ac33_ok : compFn Try.prog Try.f33 = some ac33 := by kernel_rfl
/-- (*winepress/arena.Arena).Store -/
def ac34 : AFn := ⟨(.seq (.region [
 D 5 (.box true (T 1)),
 D 8 (.mv (C (.bool false)))])
 (.seq (.seq (.region [
 D 9 (.mv (T 0)),
 D 10 (.load (some 2) (T 5)),
 D 11 (.call 67 [(T 9), (T 10)]),
 D 12 (.un .not (T 11)),
 D 13 (.mv (T 12)),
 ⟨(some 14), (some (13, false)), 0, true, .mv (T 2)⟩,
 ⟨(some 15), (some (13, false)), 0, true, .bin .lss (T 14) (C (.int .i64 0))⟩,
 D 16 (.pick (T 13) (C (.bool true)) (T 15)),
 D 17 (.mv (T 16)),
 ⟨(some 18), (some (17, false)), 0, true, .mv (T 2)⟩,
 ⟨(some 19), (some (17, false)), 0, true, .faddr 1 (T 5)⟩,
 ⟨(some 20), (some (17, false)), 0, true, .load none (T 19)⟩,
 ⟨(some 21), (some (17, false)), 0, true, .mv (T 3)⟩,
 ⟨(some 22), (some (17, false)), 0, true, .len (T 21)⟩,
 ⟨(some 23), (some (17, false)), 0, true, .bin .sub (T 20) (T 22)⟩,
 ⟨(some 24), (some (17, false)), 0, true, .bin .gtr (T 18) (T 23)⟩,
 D 25 (.pick (T 17) (C (.bool true)) (T 24))])
 (.cond (T 25)
 (.seq (.region [
 D 8 (.mv (C (.bool false)))])
 .ret)
 .skip))
 (.seq (.drawn [
 ⟨(some 26), none, 0, false, .mv (T 0)⟩,
 ⟨(some 27), none, 1, false, .nilck (T 26)⟩,
 ⟨(some 28), none, 3, false, .faddr 0 (T 27)⟩,
 ⟨(some 29), none, 7, false, .load none (T 28)⟩,
 ⟨(some 30), none, 0, false, .faddr 0 (T 5)⟩,
 ⟨(some 31), none, 16, false, .load none (T 30)⟩,
 ⟨(some 32), none, 0, false, .mv (T 2)⟩,
 ⟨(some 33), none, 112, false, .bin .add (T 31) (T 32)⟩,
 ⟨(some 34), none, 255, false, .slice 1 (T 29) (some (T 33)) none none⟩,
 ⟨(some 35), none, 0, false, .mv (T 3)⟩,
 ⟨(some 36), none, 1023, true, .copy 1 (T 34) (T 35)⟩])
 (.seq (.region [
 D 8 (.mv (C (.bool true)))])
 .ret)))), [.tmp 8]⟩
theorem ac34_ok : compFn Try.prog Try.f34 = some ac34 := by kernel_rfl
/-- (*winepress/arena.Arena).Mark -/
def ac35 : AFn := ⟨(.seq (.region [
 D 2 (.mv (C (.int .i64 0)))])
 (.seq (.seq (.region [
 D 3 (.mv (T 0)),
 D 4 (.eqs false .ptr (T 3) (C (.pointer none)))])
 (.cond (T 4)
 (.seq (.region [
 D 2 (.mv (C (.int .i64 0)))])
 .ret)
 .skip))
 (.seq (.region [
 D 5 (.mv (T 0)),
 D 6 (.nilck (T 5)),
 D 7 (.faddr 1 (T 6)),
 D 8 (.load none (T 7)),
 D 2 (.mv (T 8))])
 .ret))), [.tmp 2]⟩
theorem ac35_ok : compFn Try.prog Try.f35 = some ac35 := by kernel_rfl
/-- a loop of winepress/winepressref17.Turn; it keeps [5, 7, 6, 0, 4] -/
def lb36_0 : ACode := (.seq (.seq (.region [
 D 10 (.mv (T 7)),
 D 11 (.mv (T 6)),
 D 12 (.len (T 11)),
 D 13 (.bin .lss (T 10) (T 12))])
 (.cond (T 13)
 .skip
 (.exit 0)))
 (.seq (.block 1 (.seq (.region [
 D 16 (.mv (T 6)),
 D 17 (.mv (T 7)),
 D 18 (.iaddr 1 (T 16) (T 17)),
 D 19 (.load none (T 18)),
 D 20 (.bin .eql (T 19) (C (.int .i64 0)))])
 (.cond (T 20)
 (.region [
 D 21 (.mv (T 7)),
 D 5 (.mv (T 21))])
 (.region [
 D 22 (.mv (T 4)),
 D 23 (.mv (T 0)),
 D 24 (.mv (T 6)),
 D 25 (.mv (T 7)),
 D 26 (.iaddr 1 (T 24) (T 25)),
 D 27 (.load none (T 26)),
 D 28 (.bin .sub (T 27) (C (.int .i64 1))),
 D 29 (.iaddr 1 (T 23) (T 28)),
 D 30 (.load none (T 29)),
 D 31 (.bslice true 1 1 [(.int .u8 0)] [(0, 1, (T 30))]),
 D 32 (.append true 1 (T 22) (T 31)),
 D 4 (.mv (T 32))]))))
 (.region [
 D 14 (.mv (T 7)),
 D 15 (.bin .add (T 14) (C (.int .i64 1))),
 D 7 (.mv (T 15))])))
/-- winepress/winepressref17.Turn -/
def ac36 : AFn := ⟨(.seq (.region [
 D 2 (.mv (C (.slice none 0 0))),
 D 3 (.mv (C (.int .i64 0)))])
 (.seq (.region [
 D 4 (.mv (C (.slice none 0 0)))])
 (.seq (.region [
 D 5 (.mv (C (.int .i64 0)))])
 (.seq (.region [
 D 8 (.mv (T 0)),
 D 9 (.call 70 [(T 8)]),
 D 6 (.mv (T 9))])
 (.seq (.seq (.region [
 D 7 (.mv (C (.int .i64 0)))])
 (.block 0 (.loop [5, 7, 6, 0, 4] lb36_0)))
 (.seq (.region [
 D 33 (.mv (T 4)),
 D 34 (.mv (T 5)),
 D 2 (.mv (T 33)),
 D 3 (.mv (T 34))])
 .ret)))))), [.tmp 2, .tmp 3]⟩
theorem ac36_ok : compFn Try.prog Try.f36 = some ac36 := by kernel_rfl
/-- winepress/bwtbucket.Passes -/
def ac37 : AFn := ⟨(.seq (.region [
 D 4 (.mv (C (.int .i64 0)))])
 (.seq (.seq (.region [
 D 5 (.mv (T 0)),
 D 6 (.bin .lss (T 5) (C (.int .i64 0))),
 D 7 (.mv (T 6)),
 ⟨(some 8), (some (7, false)), 0, true, .mv (T 0)⟩,
 ⟨(some 9), (some (7, false)), 0, true, .bin .gtr (T 8) (C (.int .i64 65536))⟩,
 D 10 (.pick (T 7) (C (.bool true)) (T 9)),
 D 11 (.mv (T 10)),
 ⟨(some 12), (some (11, false)), 0, true, .mv (T 1)⟩,
 ⟨(some 13), (some (11, false)), 0, true, .bin .lss (T 12) (C (.int .i64 1))⟩,
 D 14 (.pick (T 11) (C (.bool true)) (T 13))])
 (.cond (T 14)
 (.seq (.region [
 D 4 (.mv (C (.int .i64 0)))])
 .ret)
 .skip))
 (.seq (.region [
 D 15 (.mv (T 0)),
 D 16 (.mv (T 1)),
 D 17 (.bin .quo (T 15) (T 16)),
 D 18 (.bin .add (T 17) (C (.int .i64 1))),
 D 4 (.mv (T 18))])
 .ret))), [.tmp 4]⟩
theorem ac37_ok : compFn Try.prog Try.f37 = some ac37 := by kernel_rfl
/-- winepress/winepressref01.New -/
def ac38 : AFn := ⟨(.seq (.region [
 D 2 (.mv (C (.pointer none)))])
 (.seq (.region [
 D 3 (.mv (T 0)),
 D 4 (.mkslice true 1 [(.int .u8 0)] (T 3) (T 3)),
 D 5 (.build [(.slice none 0 0), (.int .i64 0), (.int .i64 0)] [(0, 1, (T 4))]),
 D 6 (.box false (T 5)),
 D 2 (.mv (T 6))])
 .ret)), [.tmp 2]⟩
theorem ac38_ok : compFn Try.prog Try.f38 = some ac38 := by kernel_rfl
/-- a loop of (*winepress/winepressref01.Arena).Take; it keeps [7, 4, 6, 1, 0] -/
def lb39_0 : ACode := (.seq (.seq (.region [
 D 30 (.mv (T 7)),
 D 31 (.mv (T 1)),
 D 32 (.bin .lss (T 30) (T 31))])
 (.cond (T 32)
 .skip
 (.exit 0)))
 (.seq (.block 1 (.drawn [
 ⟨(some 35), none, 0, false, .mv (T 0)⟩,
 ⟨(some 36), none, 1, false, .nilck (T 35)⟩,
 ⟨(some 37), none, 3, false, .faddr 0 (T 36)⟩,
 ⟨(some 38), none, 7, false, .load none (T 37)⟩,
 ⟨(some 39), none, 0, false, .mv (T 0)⟩,
 ⟨(some 40), none, 16, false, .nilck (T 39)⟩,
 ⟨(some 41), none, 48, false, .faddr 1 (T 40)⟩,
 ⟨(some 42), none, 112, false, .load none (T 41)⟩,
 ⟨(some 43), none, 0, false, .mv (T 7)⟩,
 ⟨(some 44), none, 496, false, .bin .add (T 42) (T 43)⟩,
 ⟨(some 45), none, 1023, false, .iaddr 1 (T 38) (T 44)⟩,
 ⟨none, none, 2047, true, .store 1 (T 45) (C (.int .u8 0))⟩]))
 (.region [
 D 33 (.mv (T 7)),
 D 34 (.bin .add (T 33) (C (.int .i64 1))),
 D 7 (.mv (T 34))])))
/-- (*winepress/winepressref01.Arena).Take -/
def ac39 : AFn := ⟨(.seq (.region [
 D 4 (.alloc true [(.int .i64 0), (.int .i64 0)]),
 D 5 (.mv (C (.int .i64 0)))])
 (.seq (.seq (.region [
 D 8 (.mv (T 1)),
 D 9 (.bin .lss (T 8) (C (.int .i64 0)))])
 (.cond (T 9)
 (.seq (.region [
 D 10 (.build [(.int .i64 0), (.int .i64 0)] []),
 E (.store 2 (T 4) (T 10)),
 D 5 (.mv (C (.int .i64 2)))])
 .ret)
 .skip))
 (.seq (.seq (.drawn [
 ⟨(some 11), none, 0, false, .mv (T 1)⟩,
 ⟨(some 12), none, 0, false, .mv (T 0)⟩,
 ⟨(some 13), none, 2, false, .nilck (T 12)⟩,
 ⟨(some 14), none, 6, false, .faddr 0 (T 13)⟩,
 ⟨(some 15), none, 14, false, .load none (T 14)⟩,
 ⟨(some 16), none, 30, false, .len (T 15)⟩,
 ⟨(some 17), none, 0, false, .mv (T 0)⟩,
 ⟨(some 18), none, 64, false, .nilck (T 17)⟩,
 ⟨(some 19), none, 192, false, .faddr 1 (T 18)⟩,
 ⟨(some 20), none, 448, false, .load none (T 19)⟩,
 ⟨(some 21), none, 1022, false, .bin .sub (T 16) (T 20)⟩,
 ⟨(some 22), none, 2047, false, .bin .gtr (T 11) (T 21)⟩])
 (.cond (T 22)
 (.seq (.region [
 D 23 (.build [(.int .i64 0), (.int .i64 0)] []),
 E (.store 2 (T 4) (T 23)),
 D 5 (.mv (C (.int .i64 10)))])
 .ret)
 .skip))
 (.seq (.region [
 D 24 (.mv (T 0)),
 D 25 (.nilck (T 24)),
 D 26 (.faddr 1 (T 25)),
 D 27 (.load none (T 26)),
 D 28 (.mv (T 1)),
 D 29 (.build [(.int .i64 0), (.int .i64 0)] [(0, 1, (T 27)), (1, 1, (T 28))]),
 D 6 (.alloc true [(.int .i64 0), (.int .i64 0)]),
 E (.store 2 (T 6) (T 29))])
 (.seq (.seq (.region [
 D 7 (.mv (C (.int .i64 0)))])
 (.block 0 (.loop [7, 4, 6, 1, 0] lb39_0)))
 (.seq (.region [
 D 46 (.mv (T 0)),
 D 47 (.mv (T 0)),
 D 48 (.nilck (T 47)),
 D 49 (.faddr 1 (T 48)),
 D 50 (.load none (T 49)),
 D 51 (.mv (T 1)),
 D 52 (.bin .add (T 50) (T 51)),
 D 53 (.nilck (T 46)),
 D 54 (.faddr 1 (T 53)),
 E (.store 1 (T 54) (T 52))])
 (.seq (.drawn [
 ⟨(some 55), none, 0, false, .mv (T 0)⟩,
 ⟨(some 56), none, 0, false, .mv (T 0)⟩,
 ⟨(some 57), none, 2, false, .nilck (T 56)⟩,
 ⟨(some 58), none, 6, false, .faddr 2 (T 57)⟩,
 ⟨(some 59), none, 14, false, .load none (T 58)⟩,
 ⟨(some 60), none, 0, false, .mv (T 0)⟩,
 ⟨(some 61), none, 32, false, .nilck (T 60)⟩,
 ⟨(some 62), none, 96, false, .faddr 1 (T 61)⟩,
 ⟨(some 63), none, 224, false, .load none (T 62)⟩,
 ⟨(some 64), none, 510, false, .mm true [(T 59), (T 63)]⟩,
 ⟨(some 65), none, 1023, false, .nilck (T 55)⟩,
 ⟨(some 66), none, 2047, false, .faddr 2 (T 65)⟩,
 ⟨none, none, 4095, true, .store 1 (T 66) (T 64)⟩])
 (.seq (.region [
 D 67 (.load (some 2) (T 6)),
 E (.store 2 (T 4) (T 67)),
 D 5 (.mv (C (.int .i64 0)))])
 .ret)))))))), [.cell 4 (some 2), .tmp 5]⟩
theorem ac39_ok : compFn Try.prog Try.f39 = some ac39 := by kernel_rfl
/-- a loop of (*winepress/winepressref01.Arena).Store; it keeps [9, 0, 5, 2, 3] -/
def lb40_0 : ACode := (.seq (.seq (.region [
 D 17 (.mv (T 9)),
 D 18 (.mv (T 3)),
 D 19 (.len (T 18)),
 D 20 (.bin .lss (T 17) (T 19))])
 (.cond (T 20)
 .skip
 (.exit 0)))
 (.seq (.block 1 (.drawn [
 ⟨(some 23), none, 0, false, .mv (T 0)⟩,
 ⟨(some 24), none, 1, false, .nilck (T 23)⟩,
 ⟨(some 25), none, 3, false, .faddr 0 (T 24)⟩,
 ⟨(some 26), none, 7, false, .load none (T 25)⟩,
 ⟨(some 27), none, 0, false, .faddr 0 (T 5)⟩,
 ⟨(some 28), none, 16, false, .load none (T 27)⟩,
 ⟨(some 29), none, 0, false, .mv (T 2)⟩,
 ⟨(some 30), none, 112, false, .bin .add (T 28) (T 29)⟩,
 ⟨(some 31), none, 0, false, .mv (T 9)⟩,
 ⟨(some 32), none, 496, false, .bin .add (T 30) (T 31)⟩,
 ⟨(some 33), none, 0, false, .mv (T 3)⟩,
 ⟨(some 34), none, 0, false, .mv (T 9)⟩,
 ⟨(some 35), none, 3072, false, .iaddr 1 (T 33) (T 34)⟩,
 ⟨(some 36), none, 7168, false, .load none (T 35)⟩,
 ⟨(some 37), none, 16383, false, .iaddr 1 (T 26) (T 32)⟩,
 ⟨none, none, 32767, true, .store 1 (T 37) (T 36)⟩]))
 (.region [
 D 21 (.mv (T 9)),
 D 22 (.bin .add (T 21) (C (.int .i64 1))),
 D 9 (.mv (T 22))])))
/-- (*winepress/winepressref01.Arena).Store -/
def ac40 : AFn := ⟨(.seq (.region [
 D 5 (.box true (T 1)),
 D 8 (.mv (C (.bool false)))])
 (.seq (.seq (.region [
 D 10 (.mv (T 0)),
 D 11 (.load (some 2) (T 5)),
 D 12 (.mv (T 2)),
 D 13 (.mv (T 3)),
 D 14 (.len (T 13)),
 D 15 (.call 71 [(T 10), (T 11), (T 12), (T 14)]),
 D 16 (.un .not (T 15))])
 (.cond (T 16)
 (.seq (.region [
 D 8 (.mv (C (.bool false)))])
 .ret)
 .skip))
 (.seq (.seq (.region [
 D 9 (.mv (C (.int .i64 0)))])
 (.block 0 (.loop [9, 0, 5, 2, 3] lb40_0)))
 (.seq (.region [
 D 8 (.mv (C (.bool true)))])
 .ret)))), [.tmp 8]⟩
theorem ac40_ok : compFn Try.prog Try.f40 = some ac40 := by kernel_rfl
/-- (*winepress/arena.Arena).Release -/
def ac41 : AFn := ⟨(.seq (.region [
 D 4 (.mv (C (.bool false)))])
 (.seq (.seq (.region [
 D 5 (.mv (T 0)),
 D 6 (.eqs false .ptr (T 5) (C (.pointer none))),
 D 7 (.mv (T 6)),
 ⟨(some 8), (some (7, false)), 0, true, .mv (T 1)⟩,
 ⟨(some 9), (some (7, false)), 0, true, .bin .lss (T 8) (C (.int .i64 0))⟩,
 D 10 (.pick (T 7) (C (.bool true)) (T 9)),
 D 11 (.mv (T 10)),
 ⟨(some 12), (some (11, false)), 0, true, .mv (T 1)⟩,
 ⟨(some 13), (some (11, false)), 0, true, .mv (T 0)⟩,
 ⟨(some 14), (some (11, false)), 0, true, .nilck (T 13)⟩,
 ⟨(some 15), (some (11, false)), 0, true, .faddr 1 (T 14)⟩,
 ⟨(some 16), (some (11, false)), 0, true, .load none (T 15)⟩,
 ⟨(some 17), (some (11, false)), 0, true, .bin .gtr (T 12) (T 16)⟩,
 D 18 (.pick (T 11) (C (.bool true)) (T 17))])
 (.cond (T 18)
 (.seq (.region [
 D 4 (.mv (C (.bool false)))])
 .ret)
 .skip))
 (.seq (.region [
 D 19 (.mv (T 0)),
 D 20 (.mv (T 1)),
 D 21 (.nilck (T 19)),
 D 22 (.faddr 1 (T 21)),
 E (.store 1 (T 22) (T 20))])
 (.seq (.region [
 D 4 (.mv (C (.bool true)))])
 .ret)))), [.tmp 4]⟩
theorem ac41_ok : compFn Try.prog Try.f41 = some ac41 := by kernel_rfl
/-- (*winepress/winepressref01.Arena).Release -/
def ac42 : AFn := ⟨(.seq (.region [
 D 4 (.mv (C (.bool false)))])
 (.seq (.seq (.region [
 D 5 (.mv (T 1)),
 D 6 (.bin .lss (T 5) (C (.int .i64 0))),
 D 7 (.mv (T 6)),
 ⟨(some 8), (some (7, false)), 0, true, .mv (T 1)⟩,
 ⟨(some 9), (some (7, false)), 0, true, .mv (T 0)⟩,
 ⟨(some 10), (some (7, false)), 0, true, .nilck (T 9)⟩,
 ⟨(some 11), (some (7, false)), 0, true, .faddr 1 (T 10)⟩,
 ⟨(some 12), (some (7, false)), 0, true, .load none (T 11)⟩,
 ⟨(some 13), (some (7, false)), 0, true, .bin .gtr (T 8) (T 12)⟩,
 D 14 (.pick (T 7) (C (.bool true)) (T 13))])
 (.cond (T 14)
 (.seq (.region [
 D 4 (.mv (C (.bool false)))])
 .ret)
 .skip))
 (.seq (.region [
 D 15 (.mv (T 0)),
 D 16 (.mv (T 1)),
 D 17 (.nilck (T 15)),
 D 18 (.faddr 1 (T 17)),
 E (.store 1 (T 18) (T 16))])
 (.seq (.region [
 D 4 (.mv (C (.bool true)))])
 .ret)))), [.tmp 4]⟩
theorem ac42_ok : compFn Try.prog Try.f42 = some ac42 := by kernel_rfl
/-- winepress/winepressref19.Valid -/
def ac43 : AFn := ⟨(.seq (.region [
 D 5 (.box true (T 1)),
 D 6 (.box true (T 2)),
 D 7 (.box true (T 3)),
 D 8 (.mv (C (.bool false)))])
 (.seq (.seq (.region [
 D 9 (.mv (T 0)),
 D 10 (.load (some 2) (T 5)),
 D 11 (.call 72 [(T 9), (T 10)]),
 D 12 (.un .not (T 11)),
 D 13 (.mv (T 12)),
 ⟨(some 14), (some (13, false)), 0, true, .mv (T 0)⟩,
 ⟨(some 15), (some (13, false)), 0, true, .load (some 2) (T 6)⟩,
 ⟨(some 16), (some (13, false)), 0, true, .call 72 [(T 14), (T 15)]⟩,
 ⟨(some 17), (some (13, false)), 0, true, .un .not (T 16)⟩,
 D 18 (.pick (T 13) (C (.bool true)) (T 17)),
 D 19 (.mv (T 18)),
 ⟨(some 20), (some (19, false)), 0, true, .mv (T 0)⟩,
 ⟨(some 21), (some (19, false)), 0, true, .load (some 2) (T 7)⟩,
 ⟨(some 22), (some (19, false)), 0, true, .call 72 [(T 20), (T 21)]⟩,
 ⟨(some 23), (some (19, false)), 0, true, .un .not (T 22)⟩,
 D 24 (.pick (T 19) (C (.bool true)) (T 23))])
 (.cond (T 24)
 (.seq (.region [
 D 8 (.mv (C (.bool false)))])
 .ret)
 .skip))
 (.seq (.region [
 D 25 (.faddr 1 (T 5)),
 D 26 (.load none (T 25)),
 D 27 (.bin .geq (T 26) (C (.int .i64 1))),
 D 28 (.mv (T 27)),
 ⟨(some 29), (some (28, true)), 0, true, .faddr 1 (T 5)⟩,
 ⟨(some 30), (some (28, true)), 0, true, .load none (T 29)⟩,
 ⟨(some 31), (some (28, true)), 0, true, .bin .leq (T 30) (C (.int .i64 65536))⟩,
 D 32 (.pick (T 28) (T 31) (C (.bool false))),
 D 33 (.mv (T 32)),
 ⟨(some 34), (some (33, true)), 0, true, .faddr 1 (T 6)⟩,
 ⟨(some 35), (some (33, true)), 0, true, .load none (T 34)⟩,
 ⟨(some 36), (some (33, true)), 0, true, .faddr 1 (T 5)⟩,
 ⟨(some 37), (some (33, true)), 0, true, .load none (T 36)⟩,
 ⟨(some 38), (some (33, true)), 0, true, .bin .eql (T 35) (T 37)⟩,
 D 39 (.pick (T 33) (T 38) (C (.bool false))),
 D 40 (.mv (T 39)),
 ⟨(some 41), (some (40, true)), 0, true, .faddr 1 (T 7)⟩,
 ⟨(some 42), (some (40, true)), 0, true, .load none (T 41)⟩,
 ⟨(some 43), (some (40, true)), 0, true, .bin .geq (T 42) (C (.int .i64 4))⟩,
 D 44 (.pick (T 40) (T 43) (C (.bool false))),
 D 45 (.mv (T 44)),
 ⟨(some 46), (some (45, true)), 0, true, .load (some 2) (T 5)⟩,
 ⟨(some 47), (some (45, true)), 0, true, .load (some 2) (T 6)⟩,
 ⟨(some 48), (some (45, true)), 0, true, .call 73 [(T 46), (T 47)]⟩,
 D 49 (.pick (T 45) (T 48) (C (.bool false))),
 D 50 (.mv (T 49)),
 ⟨(some 51), (some (50, true)), 0, true, .load (some 2) (T 5)⟩,
 ⟨(some 52), (some (50, true)), 0, true, .load (some 2) (T 7)⟩,
 ⟨(some 53), (some (50, true)), 0, true, .call 73 [(T 51), (T 52)]⟩,
 D 54 (.pick (T 50) (T 53) (C (.bool false))),
 D 55 (.mv (T 54)),
 ⟨(some 56), (some (55, true)), 0, true, .load (some 2) (T 6)⟩,
 ⟨(some 57), (some (55, true)), 0, true, .load (some 2) (T 7)⟩,
 ⟨(some 58), (some (55, true)), 0, true, .call 73 [(T 56), (T 57)]⟩,
 D 59 (.pick (T 55) (T 58) (C (.bool false))),
 D 8 (.mv (T 59))])
 .ret))), [.tmp 8]⟩
theorem ac43_ok : compFn Try.prog Try.f43 = some ac43 := by kernel_rfl
/-- winepress/bwtbucket.Valid -/
def ac44 : AFn := ⟨(.seq (.region [
 D 5 (.box true (T 1)),
 D 6 (.box true (T 2)),
 D 7 (.box true (T 3)),
 D 8 (.mv (C (.bool false)))])
 (.seq (.seq (.region [
 D 9 (.mv (T 0)),
 D 10 (.load (some 2) (T 5)),
 D 11 (.call 67 [(T 9), (T 10)]),
 D 12 (.un .not (T 11)),
 D 13 (.mv (T 12)),
 ⟨(some 14), (some (13, false)), 0, true, .mv (T 0)⟩,
 ⟨(some 15), (some (13, false)), 0, true, .load (some 2) (T 6)⟩,
 ⟨(some 16), (some (13, false)), 0, true, .call 67 [(T 14), (T 15)]⟩,
 ⟨(some 17), (some (13, false)), 0, true, .un .not (T 16)⟩,
 D 18 (.pick (T 13) (C (.bool true)) (T 17)),
 D 19 (.mv (T 18)),
 ⟨(some 20), (some (19, false)), 0, true, .mv (T 0)⟩,
 ⟨(some 21), (some (19, false)), 0, true, .load (some 2) (T 7)⟩,
 ⟨(some 22), (some (19, false)), 0, true, .call 67 [(T 20), (T 21)]⟩,
 ⟨(some 23), (some (19, false)), 0, true, .un .not (T 22)⟩,
 D 24 (.pick (T 19) (C (.bool true)) (T 23))])
 (.cond (T 24)
 (.seq (.region [
 D 8 (.mv (C (.bool false)))])
 .ret)
 .skip))
 (.seq (.seq (.region [
 D 25 (.faddr 1 (T 5)),
 D 26 (.load none (T 25)),
 D 27 (.bin .lss (T 26) (C (.int .i64 1))),
 D 28 (.mv (T 27)),
 ⟨(some 29), (some (28, false)), 0, true, .faddr 1 (T 5)⟩,
 ⟨(some 30), (some (28, false)), 0, true, .load none (T 29)⟩,
 ⟨(some 31), (some (28, false)), 0, true, .bin .gtr (T 30) (C (.int .i64 65536))⟩,
 D 32 (.pick (T 28) (C (.bool true)) (T 31)),
 D 33 (.mv (T 32)),
 ⟨(some 34), (some (33, false)), 0, true, .faddr 1 (T 6)⟩,
 ⟨(some 35), (some (33, false)), 0, true, .load none (T 34)⟩,
 ⟨(some 36), (some (33, false)), 0, true, .faddr 1 (T 5)⟩,
 ⟨(some 37), (some (33, false)), 0, true, .load none (T 36)⟩,
 ⟨(some 38), (some (33, false)), 0, true, .bin .neq (T 35) (T 37)⟩,
 D 39 (.pick (T 33) (C (.bool true)) (T 38)),
 D 40 (.mv (T 39)),
 ⟨(some 41), (some (40, false)), 0, true, .faddr 1 (T 7)⟩,
 ⟨(some 42), (some (40, false)), 0, true, .load none (T 41)⟩,
 ⟨(some 43), (some (40, false)), 0, true, .bin .lss (T 42) (C (.int .i64 4))⟩,
 D 44 (.pick (T 40) (C (.bool true)) (T 43))])
 (.cond (T 44)
 (.seq (.region [
 D 8 (.mv (C (.bool false)))])
 .ret)
 .skip))
 (.seq (.region [
 D 45 (.load (some 2) (T 5)),
 D 46 (.load (some 2) (T 6)),
 D 47 (.call 74 [(T 45), (T 46)]),
 D 48 (.mv (T 47)),
 ⟨(some 49), (some (48, true)), 0, true, .load (some 2) (T 5)⟩,
 ⟨(some 50), (some (48, true)), 0, true, .load (some 2) (T 7)⟩,
 ⟨(some 51), (some (48, true)), 0, true, .call 74 [(T 49), (T 50)]⟩,
 D 52 (.pick (T 48) (T 51) (C (.bool false))),
 D 53 (.mv (T 52)),
 ⟨(some 54), (some (53, true)), 0, true, .load (some 2) (T 6)⟩,
 ⟨(some 55), (some (53, true)), 0, true, .load (some 2) (T 7)⟩,
 ⟨(some 56), (some (53, true)), 0, true, .call 74 [(T 54), (T 55)]⟩,
 D 57 (.pick (T 53) (T 56) (C (.bool false))),
 D 8 (.mv (T 57))])
 .ret)))), [.tmp 8]⟩
theorem ac44_ok : compFn Try.prog Try.f44 = some ac44 := by kernel_rfl
/-- a loop of winepress/winepressref19.Passes; it keeps [5, 6, 1, 0] -/
def lb45_0 : ACode := (.seq (.seq (.region [
 D 17 (.mv (T 6)),
 D 18 (.mv (T 0)),
 D 19 (.bin .add (T 18) (C (.int .i64 1))),
 D 20 (.bin .lss (T 17) (T 19))])
 (.cond (T 20)
 .skip
 (.exit 0)))
 (.seq (.block 1 (.region [
 D 27 (.mv (T 5)),
 D 28 (.bin .add (T 27) (C (.int .i64 1))),
 D 5 (.mv (T 28))]))
 (.region [
 D 21 (.mv (T 6)),
 D 22 (.mv (T 1)),
 D 23 (.mv (T 0)),
 D 24 (.bin .add (T 23) (C (.int .i64 1))),
 D 25 (.mm false [(T 22), (T 24)]),
 D 26 (.bin .add (T 21) (T 25)),
 D 6 (.mv (T 26))])))
/-- winepress/winepressref19.Passes -/
def ac45 : AFn := ⟨(.seq (.region [
 D 4 (.mv (C (.int .i64 0)))])
 (.seq (.seq (.region [
 D 7 (.mv (T 0)),
 D 8 (.bin .lss (T 7) (C (.int .i64 0))),
 D 9 (.mv (T 8)),
 ⟨(some 10), (some (9, false)), 0, true, .mv (T 0)⟩,
 ⟨(some 11), (some (9, false)), 0, true, .bin .gtr (T 10) (C (.int .i64 65536))⟩,
 D 12 (.pick (T 9) (C (.bool true)) (T 11)),
 D 13 (.mv (T 12)),
 ⟨(some 14), (some (13, false)), 0, true, .mv (T 1)⟩,
 ⟨(some 15), (some (13, false)), 0, true, .bin .lss (T 14) (C (.int .i64 1))⟩,
 D 16 (.pick (T 13) (C (.bool true)) (T 15))])
 (.cond (T 16)
 (.seq (.region [
 D 4 (.mv (C (.int .i64 0)))])
 .ret)
 .skip))
 (.seq (.region [
 D 5 (.mv (C (.int .i64 0)))])
 (.seq (.seq (.region [
 D 6 (.mv (C (.int .i64 0)))])
 (.block 0 (.loop [5, 6, 1, 0] lb45_0)))
 (.seq (.region [
 D 29 (.mv (T 5)),
 D 4 (.mv (T 29))])
 .ret))))), [.tmp 4]⟩
theorem ac45_ok : compFn Try.prog Try.f45 = some ac45 := by kernel_rfl
/-- bytes.Clone -/
def ac59 : AFn := ⟨(.seq (.region [
 D 2 (.mv (C (.slice none 0 0)))])
 (.seq (.seq (.region [
 D 3 (.mv (T 0)),
 D 4 (.eqs false .slice (T 3) (C (.slice none 0 0)))])
 (.cond (T 4)
 (.seq (.region [
 D 2 (.mv (C (.slice none 0 0)))])
 .ret)
 .skip))
 (.seq (.region [
 D 5 (.bslice true 1 0 [] []),
 D 6 (.mv (T 0)),
 D 7 (.append true 1 (T 5) (T 6)),
 D 2 (.mv (T 7))])
 .ret))), [.tmp 2]⟩
theorem ac59_ok : compFn Try.prog Try.f59 = some ac59 := by kernel_rfl
/-- a loop of (*winepress/bwtbucket.sorter).gather; it keeps [16, 15, 2, 0, 1] -/
def lb60_0 : ACode := (.seq (.region [
 D 17 (.bin .lss (T 16) (T 15))])
 (.seq (.cond (T 17)
 .skip
 (.exit 0))
 (.seq (.block 1 (.seq (.region [
 D 18 (.mv (T 16)),
 D 6 (.mv (T 18))])
 (.block 2 (.seq (.region [
 D 20 (.mv (T 2)),
 D 21 (.mv (T 6)),
 D 22 (.callv (T 20) [(T 21)]),
 D 23 (.un .not (T 22)),
 D 19 (.mv (T 23))])
 (.cond (T 19)
 .skip
 (.seq (.region [
 D 25 (.mv (T 0)),
 D 26 (.nilck (T 25)),
 D 27 (.faddr 5 (T 26)),
 D 28 (.load none (T 27)),
 D 29 (.mv (T 1)),
 D 30 (.bin .lss (T 28) (T 29)),
 D 24 (.mv (T 30))])
 (.cond (T 24)
 (.region [
 D 31 (.mv (T 0)),
 D 32 (.mv (T 6)),
 D 33 (.call 81 [(T 31), (T 32)])])
 (.seq (.region [
 D 35 (.mv (T 0)),
 D 36 (.mv (T 6)),
 D 37 (.mv (T 0)),
 D 38 (.call 64 [(T 37), (C (.int .i64 0))]),
 D 39 (.call 62 [(T 35), (T 36), (T 38)]),
 D 34 (.mv (T 39))])
 (.cond (T 34)
 (.seq (.region [
 D 40 (.mv (T 0)),
 D 41 (.mv (T 6)),
 D 42 (.call 82 [(T 40), (C (.int .i64 0)), (T 41)])])
 (.region [
 D 43 (.mv (T 0)),
 D 44 (.call 83 [(T 43), (C (.int .i64 0))])]))
 .skip)))))))))
 (.region [
 D 45 (.bin .add (T 16) (C (.int .i64 1))),
 D 16 (.mv (T 45))]))))
/-- (*winepress/bwtbucket.sorter).gather -/
def ac60 : AFn := ⟨(.seq (.region [
 D 7 (.mv (T 0)),
 D 8 (.nilck (T 7)),
 D 9 (.faddr 5 (T 8)),
 E (.store 1 (T 9) (C (.int .i64 0)))])
 (.seq (.region [
 D 10 (.mv (T 0)),
 D 11 (.nilck (T 10)),
 D 12 (.faddr 1 (T 11)),
 D 13 (.faddr 1 (T 12)),
 D 14 (.load none (T 13)),
 D 15 (.bin .add (T 14) (C (.int .i64 1))),
 D 16 (.mv (C (.int .i64 0)))])
 (.block 0 (.loop [16, 15, 2, 0, 1] lb60_0)))), []⟩
theorem ac60_ok : compFn Try.prog Try.f60 = some ac60 := by kernel_rfl
/-- winepress/bwtbucket.Turn$1 -/
def ac61 : AFn := ⟨(.seq (.region [
 D 4 (.mv (C (.bool false)))])
 (.seq (.region [
 D 5 (.load none (T 1)),
 D 6 (.bin .lss (T 5) (C (.int .i64 0))),
 D 7 (.mv (T 6)),
 ⟨(some 8), (some (7, false)), 0, true, .load none (T 2)⟩,
 ⟨(some 9), (some (7, false)), 0, true, .load none (T 1)⟩,
 ⟨(some 10), (some (7, false)), 0, true, .mv (T 0)⟩,
 ⟨(some 11), (some (7, false)), 0, true, .call 62 [(T 8), (T 9), (T 10)]⟩,
 D 12 (.pick (T 7) (C (.bool true)) (T 11)),
 D 4 (.mv (T 12))])
 .ret)), [.tmp 4]⟩
theorem ac61_ok : compFn Try.prog Try.f61 = some ac61 := by kernel_rfl
/-- a loop of (*winepress/bwtbucket.sorter).less; it keeps [0, 2, 1] -/
def lb62_0 : ACode := (.seq (.block 1 (.seq (.drawn [
 ⟨(some 16), none, 0, false, .mv (T 0)⟩,
 ⟨(some 17), none, 1, false, .nilck (T 16)⟩,
 ⟨(some 18), none, 3, false, .faddr 0 (T 17)⟩,
 ⟨(some 19), none, 7, false, .load none (T 18)⟩,
 ⟨(some 20), none, 0, false, .mv (T 0)⟩,
 ⟨(some 21), none, 16, false, .nilck (T 20)⟩,
 ⟨(some 22), none, 48, false, .faddr 1 (T 21)⟩,
 ⟨(some 23), none, 112, false, .load (some 2) (T 22)⟩,
 ⟨(some 24), none, 0, false, .mv (T 1)⟩,
 ⟨(some 25), none, 511, true, .call 65 [(T 19), (T 23), (T 24)]⟩,
 ⟨(some 15), none, 1023, false, .mv (T 25)⟩,
 ⟨(some 26), none, 2047, false, .ext (T 15) 0⟩,
 ⟨(some 27), none, 2047, false, .ext (T 15) 1⟩,
 ⟨(some 7), none, 4095, false, .mv (T 26)⟩,
 ⟨(some 8), none, 16383, false, .mv (T 27)⟩])
 (.seq (.drawn [
 ⟨(some 29), none, 0, false, .mv (T 0)⟩,
 ⟨(some 30), none, 1, false, .nilck (T 29)⟩,
 ⟨(some 31), none, 3, false, .faddr 0 (T 30)⟩,
 ⟨(some 32), none, 7, false, .load none (T 31)⟩,
 ⟨(some 33), none, 0, false, .mv (T 0)⟩,
 ⟨(some 34), none, 16, false, .nilck (T 33)⟩,
 ⟨(some 35), none, 48, false, .faddr 1 (T 34)⟩,
 ⟨(some 36), none, 112, false, .load (some 2) (T 35)⟩,
 ⟨(some 37), none, 0, false, .mv (T 2)⟩,
 ⟨(some 38), none, 511, true, .call 65 [(T 32), (T 36), (T 37)]⟩,
 ⟨(some 28), none, 1023, false, .mv (T 38)⟩,
 ⟨(some 39), none, 2047, false, .ext (T 28) 0⟩,
 ⟨(some 40), none, 2047, false, .ext (T 28) 1⟩,
 ⟨(some 9), none, 4095, false, .mv (T 39)⟩,
 ⟨(some 10), none, 16383, false, .mv (T 40)⟩])
 (.block 2 (.seq (.region [
 D 42 (.mv (T 8)),
 D 43 (.un .not (T 42)),
 D 44 (.mv (T 43)),
 ⟨(some 45), (some (44, false)), 0, true, .mv (T 10)⟩,
 ⟨(some 46), (some (44, false)), 0, true, .un .not (T 45)⟩,
 D 47 (.pick (T 44) (C (.bool true)) (T 46)),
 D 41 (.mv (T 47))])
 (.cond (T 41)
 (.seq (.region [
 D 48 (.mv (T 8)),
 D 49 (.un .not (T 48)),
 D 50 (.mv (T 49)),
 ⟨(some 51), (some (50, true)), 0, true, .mv (T 10)⟩,
 D 52 (.pick (T 50) (T 51) (C (.bool false))),
 D 6 (.mv (T 52))])
 .ret)
 (.seq (.region [
 D 54 (.mv (T 7)),
 D 55 (.mv (T 9)),
 D 56 (.bin .neq (T 54) (T 55)),
 D 53 (.mv (T 56))])
 (.cond (T 53)
 (.seq (.region [
 D 57 (.mv (T 7)),
 D 58 (.mv (T 9)),
 D 59 (.bin .lss (T 57) (T 58)),
 D 6 (.mv (T 59))])
 .ret)
 (.seq (.region [
 D 61 (.mv (T 1)),
 D 62 (.mv (T 2)),
 D 63 (.bin .eql (T 61) (T 62)),
 D 60 (.mv (T 63))])
 (.cond (T 60)
 (.seq (.region [
 D 6 (.mv (C (.bool false)))])
 .ret)
 .skip))))))))))
 (.region [
 D 11 (.mv (T 1)),
 D 12 (.bin .add (T 11) (C (.int .i64 1))),
 D 13 (.mv (T 2)),
 D 14 (.bin .add (T 13) (C (.int .i64 1))),
 D 1 (.mv (T 12)),
 D 2 (.mv (T 14))]))
/-- (*winepress/bwtbucket.sorter).less -/
def ac62 : AFn := ⟨(.seq (.region [
 D 6 (.mv (C (.bool false)))])
 (.block 0 (.loop [0, 2, 1] lb62_0))), [.tmp 6]⟩
theorem ac62_ok : compFn Try.prog Try.f62 = some ac62 := by kernel_rfl
/-- a loop of (*winepress/bwtbucket.sorter).sort; it keeps [3, 0] -/
def lb63_0 : ACode := (.seq (.seq (.region [
 D 10 (.mv (T 0)),
 D 11 (.nilck (T 10)),
 D 12 (.faddr 5 (T 11)),
 D 13 (.load none (T 12)),
 D 14 (.bin .gtr (T 13) (C (.int .i64 1)))])
 (.cond (T 14)
 .skip
 (.exit 0)))
 (.block 1 (.seq (.region [
 D 15 (.mv (T 0)),
 D 16 (.nilck (T 15)),
 D 17 (.faddr 5 (T 16)),
 D 18 (.load none (T 17)),
 D 19 (.bin .sub (T 18) (C (.int .i64 1))),
 D 20 (.nilck (T 15)),
 D 21 (.faddr 5 (T 20)),
 E (.store 1 (T 21) (T 19))])
 (.seq (.drawn [
 ⟨(some 22), none, 0, false, .mv (T 0)⟩,
 ⟨(some 23), none, 1, false, .call 64 [(T 22), (C (.int .i64 0))]⟩,
 ⟨(some 24), none, 0, false, .mv (T 0)⟩,
 ⟨(some 25), none, 0, false, .mv (T 0)⟩,
 ⟨(some 26), none, 8, false, .nilck (T 25)⟩,
 ⟨(some 27), none, 24, false, .faddr 5 (T 26)⟩,
 ⟨(some 28), none, 56, false, .load none (T 27)⟩,
 ⟨(some 29), none, 127, true, .call 64 [(T 24), (T 28)]⟩,
 ⟨(some 4), none, 255, false, .mv (T 23)⟩,
 ⟨(some 5), none, 511, false, .mv (T 29)⟩])
 (.seq (.region [
 D 30 (.mv (T 0)),
 D 31 (.mv (T 5)),
 D 32 (.call 82 [(T 30), (C (.int .i64 0)), (T 31)])])
 (.seq (.region [
 D 33 (.mv (T 0)),
 D 34 (.mv (T 0)),
 D 35 (.nilck (T 34)),
 D 36 (.faddr 5 (T 35)),
 D 37 (.load none (T 36)),
 D 38 (.mv (T 4)),
 D 39 (.call 82 [(T 33), (T 37), (T 38)])])
 (.region [
 D 40 (.mv (T 0)),
 D 41 (.call 83 [(T 40), (C (.int .i64 0))])])))))))
/-- (*winepress/bwtbucket.sorter).sort -/
def ac63 : AFn := ⟨(.seq (.region [
 D 2 (.mv (C (.int .i64 0)))])
 (.seq (.region [
 D 6 (.mv (T 0)),
 D 7 (.nilck (T 6)),
 D 8 (.faddr 5 (T 7)),
 D 9 (.load none (T 8)),
 D 3 (.mv (T 9))])
 (.seq (.block 0 (.loop [3, 0] lb63_0))
 (.seq (.region [
 D 42 (.mv (T 3)),
 D 2 (.mv (T 42))])
 .ret)))), [.tmp 2]⟩
theorem ac63_ok : compFn Try.prog Try.f63 = some ac63 := by kernel_rfl
/-- (*winepress/bwtbucket.sorter).get -/
def ac64 : AFn := ⟨(.seq (.region [
 D 4 (.mv (C (.int .i64 0)))])
 (.seq (.drawn [
 ⟨(some 8), none, 0, false, .mv (T 0)⟩,
 ⟨(some 9), none, 1, false, .nilck (T 8)⟩,
 ⟨(some 10), none, 3, false, .faddr 0 (T 9)⟩,
 ⟨(some 11), none, 7, false, .load none (T 10)⟩,
 ⟨(some 12), none, 0, false, .mv (T 0)⟩,
 ⟨(some 13), none, 16, false, .nilck (T 12)⟩,
 ⟨(some 14), none, 48, false, .faddr 3 (T 13)⟩,
 ⟨(some 15), none, 112, false, .load (some 2) (T 14)⟩,
 ⟨(some 16), none, 0, false, .mv (T 1)⟩,
 ⟨(some 17), none, 511, true, .call 84 [(T 11), (T 15), (T 16)]⟩,
 ⟨(some 7), none, 1023, false, .mv (T 17)⟩,
 ⟨(some 18), none, 2047, false, .ext (T 7) 0⟩,
 ⟨(some 19), none, 2047, false, .ext (T 7) 1⟩,
 ⟨(some 5), none, 4095, false, .mv (T 18)⟩,
 ⟨(some 6), none, 16383, false, .mv (T 19)⟩])
 (.seq (.region [
 D 20 (.mv (T 5)),
 D 21 (.conv .i64 (T 20)),
 D 4 (.mv (T 21))])
 .ret))), [.tmp 4]⟩
theorem ac64_ok : compFn Try.prog Try.f64 = some ac64 := by kernel_rfl
/-- (*winepress/arena.Arena).Byte -/
def ac65 : AFn := ⟨(.seq (.region [
 D 4 (.box true (T 1)),
 D 6 (.mv (C (.int .u8 0))),
 D 7 (.mv (C (.bool false)))])
 (.seq (.region [
 D 9 (.mv (T 0)),
 D 10 (.load (some 2) (T 4)),
 D 11 (.mv (T 2)),
 D 12 (.call 85 [(T 9), (T 10), (T 11), (C (.int .i64 1))]),
 D 8 (.mv (T 12))])
 (.seq (.seq (.region [
 D 13 (.mv (T 8)),
 D 14 (.eqs false .slice (T 13) (C (.slice none 0 0)))])
 (.cond (T 14)
 (.seq (.region [
 D 6 (.mv (C (.int .u8 0))),
 D 7 (.mv (C (.bool false)))])
 .ret)
 .skip))
 (.seq (.region [
 D 15 (.mv (T 8)),
 D 16 (.iaddr 1 (T 15) (C (.int .i64 0))),
 D 17 (.load none (T 16)),
 D 6 (.mv (T 17)),
 D 7 (.mv (C (.bool true)))])
 .ret)))), [.tmp 6, .tmp 7]⟩
theorem ac65_ok : compFn Try.prog Try.f65 = some ac65 := by kernel_rfl
/-- (*winepress/arena.Arena).SetByte -/
def ac66 : AFn := ⟨(.seq (.region [
 D 5 (.box true (T 1)),
 D 8 (.mv (C (.bool false)))])
 (.seq (.region [
 D 10 (.mv (T 0)),
 D 11 (.load (some 2) (T 5)),
 D 12 (.mv (T 2)),
 D 13 (.call 85 [(T 10), (T 11), (T 12), (C (.int .i64 1))]),
 D 9 (.mv (T 13))])
 (.seq (.seq (.region [
 D 14 (.mv (T 9)),
 D 15 (.eqs false .slice (T 14) (C (.slice none 0 0)))])
 (.cond (T 15)
 (.seq (.region [
 D 8 (.mv (C (.bool false)))])
 .ret)
 .skip))
 (.seq (.region [
 D 16 (.mv (T 9)),
 D 17 (.mv (T 3)),
 D 18 (.iaddr 1 (T 16) (C (.int .i64 0))),
 E (.store 1 (T 18) (T 17))])
 (.seq (.region [
 D 8 (.mv (C (.bool true)))])
 .ret))))), [.tmp 8]⟩
theorem ac66_ok : compFn Try.prog Try.f66 = some ac66 := by kernel_rfl
/-- (*winepress/arena.Arena).Has -/
def ac67 : AFn := ⟨(.seq (.region [
 D 3 (.box true (T 1)),
 D 4 (.mv (C (.bool false)))])
 (.seq (.drawn [
 ⟨(some 5), none, 0, false, .mv (T 0)⟩,
 ⟨(some 6), none, 1, false, .eqs true .ptr (T 5) (C (.pointer none))⟩,
 ⟨(some 7), none, 3, false, .mv (T 6)⟩,
 ⟨(some 8), (some (7, true)), 7, false, .faddr 0 (T 3)⟩,
 ⟨(some 9), (some (7, true)), 15, true, .load none (T 8)⟩,
 ⟨(some 10), (some (7, true)), 31, false, .bin .geq (T 9) (C (.int .i64 0))⟩,
 ⟨(some 11), none, 63, false, .pick (T 7) (T 10) (C (.bool false))⟩,
 ⟨(some 12), none, 127, false, .mv (T 11)⟩,
 ⟨(some 13), (some (12, true)), 255, false, .faddr 1 (T 3)⟩,
 ⟨(some 14), (some (12, true)), 511, true, .load none (T 13)⟩,
 ⟨(some 15), (some (12, true)), 1023, false, .bin .geq (T 14) (C (.int .i64 0))⟩,
 ⟨(some 16), none, 2047, false, .pick (T 12) (T 15) (C (.bool false))⟩,
 ⟨(some 17), none, 4095, false, .mv (T 16)⟩,
 ⟨(some 18), (some (17, true)), 8191, false, .faddr 0 (T 3)⟩,
 ⟨(some 19), (some (17, true)), 16383, false, .load none (T 18)⟩,
 ⟨(some 20), (some (17, true)), 8191, false, .mv (T 0)⟩,
 ⟨(some 21), (some (17, true)), 40959, false, .nilck (T 20)⟩,
 ⟨(some 22), (some (17, true)), 106495, false, .faddr 1 (T 21)⟩,
 ⟨(some 23), (some (17, true)), 237567, false, .load none (T 22)⟩,
 ⟨(some 24), (some (17, true)), 524287, false, .bin .leq (T 19) (T 23)⟩,
 ⟨(some 25), none, 1048575, false, .pick (T 17) (T 24) (C (.bool false))⟩,
 ⟨(some 26), none, 2097151, false, .mv (T 25)⟩,
 ⟨(some 27), (some (26, true)), 4194303, false, .faddr 1 (T 3)⟩,
 ⟨(some 28), (some (26, true)), 8388607, false, .load none (T 27)⟩,
 ⟨(some 29), (some (26, true)), 4194303, false, .mv (T 0)⟩,
 ⟨(some 30), (some (26, true)), 20971519, false, .nilck (T 29)⟩,
 ⟨(some 31), (some (26, true)), 54525951, false, .faddr 1 (T 30)⟩,
 ⟨(some 32), (some (26, true)), 121634815, false, .load none (T 31)⟩,
 ⟨(some 33), (some (26, true)), 4194303, false, .faddr 0 (T 3)⟩,
 ⟨(some 34), (some (26, true)), 272629759, false, .load none (T 33)⟩,
 ⟨(some 35), (some (26, true)), 1061158911, false, .bin .sub (T 32) (T 34)⟩,
 ⟨(some 36), (some (26, true)), 2147483647, false, .bin .leq (T 28) (T 35)⟩,
 ⟨(some 37), none, 4294967295, false, .pick (T 26) (T 36) (C (.bool false))⟩,
 ⟨(some 4), none, 8589934591, false, .mv (T 37)⟩])
 .ret)), [.tmp 4]⟩
theorem ac67_ok : compFn Try.prog Try.f67 = some ac67 := by kernel_rfl
/-- a loop of winepress/winepressref17.After; it keeps [7, 8, 0, 3, 4] -/
def lb68_0 : ACode := (.seq (.seq (.region [
 D 31 (.mv (T 8)),
 D 32 (.mv (T 0)),
 D 33 (.len (T 32)),
 D 34 (.bin .lss (T 31) (T 33))])
 (.cond (T 34)
 .skip
 (.exit 4)))
 (.seq (.block 5 (.seq (.region [
 D 37 (.mv (T 0)),
 D 38 (.mv (T 8)),
 D 39 (.iaddr 1 (T 37) (T 38)),
 D 40 (.load none (T 39)),
 D 9 (.mv (T 40))])
 (.seq (.drawn [
 ⟨(some 41), none, 0, false, .mv (T 7)⟩,
 ⟨(some 42), none, 0, false, .mv (T 9)⟩,
 ⟨(some 43), none, 2, false, .iaddra 1 256 (T 3) (T 42)⟩,
 ⟨(some 44), none, 6, false, .load none (T 43)⟩,
 ⟨(some 45), none, 14, false, .bin .add (C (.int .i64 1)) (T 44)⟩,
 ⟨(some 46), none, 0, false, .mv (T 9)⟩,
 ⟨(some 47), none, 32, false, .iaddra 1 256 (T 4) (T 46)⟩,
 ⟨(some 48), none, 96, false, .load none (T 47)⟩,
 ⟨(some 49), none, 254, false, .bin .add (T 45) (T 48)⟩,
 ⟨(some 50), none, 510, false, .bslice true 1 1 [(.int .i64 0)] [(0, 1, (T 49))]⟩,
 ⟨(some 51), none, 1023, true, .append true 1 (T 41) (T 50)⟩,
 ⟨(some 7), none, 2047, false, .mv (T 51)⟩])
 (.region [
 D 52 (.mv (T 9)),
 D 53 (.iaddra 1 256 (T 4) (T 52)),
 D 54 (.load none (T 53)),
 D 55 (.bin .add (T 54) (C (.int .i64 1))),
 D 56 (.iaddra 1 256 (T 4) (T 52)),
 E (.store 1 (T 56) (T 55))]))))
 (.region [
 D 35 (.mv (T 8)),
 D 36 (.bin .add (T 35) (C (.int .i64 1))),
 D 8 (.mv (T 36))])))
/-- a loop of winepress/winepressref17.After; it keeps [6, 4, 0, 5, 3] -/
def lb68_1 : ACode := (.seq (.seq (.region [
 D 22 (.mv (T 6)),
 D 23 (.bin .lss (T 22) (C (.int .i64 256)))])
 (.cond (T 23)
 .skip
 (.exit 2)))
 (.seq (.block 3 (.region [
 D 26 (.mv (T 6)),
 D 27 (.iaddra 1 256 (T 3) (T 26)),
 D 28 (.load none (T 27)),
 D 29 (.bin .add (T 28) (C (.int .i64 1))),
 D 30 (.iaddra 1 256 (T 3) (T 26)),
 E (.store 1 (T 30) (T 29))]))
 (.region [
 D 24 (.mv (T 6)),
 D 25 (.bin .add (T 24) (C (.int .i64 1))),
 D 6 (.mv (T 25))])))
/-- a loop of winepress/winepressref17.After; it keeps [0, 4, 5, 3] -/
def lb68_2 : ACode := (.seq (.seq (.region [
 D 10 (.mv (T 5)),
 D 11 (.mv (T 0)),
 D 12 (.len (T 11)),
 D 13 (.bin .lss (T 10) (T 12))])
 (.cond (T 13)
 .skip
 (.exit 0)))
 (.seq (.block 1 (.seq (.region [
 D 16 (.mv (T 0)),
 D 17 (.mv (T 5)),
 D 18 (.iaddr 1 (T 16) (T 17)),
 D 19 (.load none (T 18)),
 D 20 (.conv .i64 (T 19)),
 D 21 (.bin .add (T 20) (C (.int .i64 1))),
 D 6 (.mv (T 21))])
 (.block 2 (.loop [6, 4, 0, 5, 3] lb68_1))))
 (.region [
 D 14 (.mv (T 5)),
 D 15 (.bin .add (T 14) (C (.int .i64 1))),
 D 5 (.mv (T 15))])))
/-- winepress/winepressref17.After -/
def ac68 : AFn := ⟨(.seq (.region [
 D 2 (.mv (C (.slice none 0 0)))])
 (.seq (.region [
 D 3 (.alloc true (List.replicate 256 (.int .i64 0))),
 D 4 (.alloc true (List.replicate 256 (.int .i64 0)))])
 (.seq (.seq (.region [
 D 5 (.mv (C (.int .i64 0)))])
 (.block 0 (.loop [0, 4, 5, 3] lb68_2)))
 (.seq (.region [
 D 7 (.mv (C (.slice none 0 0)))])
 (.seq (.seq (.region [
 D 8 (.mv (C (.int .i64 0)))])
 (.block 4 (.loop [7, 8, 0, 3, 4] lb68_0)))
 (.seq (.region [
 D 57 (.mv (T 7)),
 D 2 (.mv (T 57))])
 .ret)))))), [.tmp 2]⟩
theorem ac68_ok : compFn Try.prog Try.f68 = some ac68 := by kernel_rfl
/-- a loop of winepress/winepressref17.Turned; it keeps [3, 4, 0] -/
def lb69_0 : ACode := (.seq (.seq (.region [
 D 8 (.mv (T 4)),
 D 9 (.bin .geq (T 8) (C (.int .i64 0)))])
 (.cond (T 9)
 .skip
 (.exit 0)))
 (.seq (.block 1 (.region [
 D 12 (.mv (T 3)),
 D 13 (.mv (T 0)),
 D 14 (.mv (T 4)),
 D 15 (.iaddr 1 (T 13) (T 14)),
 D 16 (.load none (T 15)),
 D 17 (.bslice true 1 1 [(.int .u8 0)] [(0, 1, (T 16))]),
 D 18 (.append true 1 (T 12) (T 17)),
 D 3 (.mv (T 18))]))
 (.region [
 D 10 (.mv (T 4)),
 D 11 (.bin .sub (T 10) (C (.int .i64 1))),
 D 4 (.mv (T 11))])))
/-- winepress/winepressref17.Turned -/
def ac69 : AFn := ⟨(.seq (.region [
 D 2 (.mv (C (.slice none 0 0)))])
 (.seq (.region [
 D 3 (.mv (C (.slice none 0 0)))])
 (.seq (.seq (.region [
 D 5 (.mv (T 0)),
 D 6 (.len (T 5)),
 D 7 (.bin .sub (T 6) (C (.int .i64 1))),
 D 4 (.mv (T 7))])
 (.block 0 (.loop [3, 4, 0] lb69_0)))
 (.seq (.region [
 D 19 (.mv (T 3)),
 D 2 (.mv (T 19))])
 .ret)))), [.tmp 2]⟩
theorem ac69_ok : compFn Try.prog Try.f69 = some ac69 := by kernel_rfl
/-- a loop of winepress/winepressref17.Order; it keeps [5, 0, 4, 3] -/
def lb70_0 : ACode := (.seq (.seq (.region [
 D 15 (.mv (T 5)),
 D 16 (.bin .gtr (T 15) (C (.int .i64 0))),
 D 17 (.mv (T 16)),
 ⟨(some 18), (some (17, true)), 0, true, .mv (T 0)⟩,
 ⟨(some 19), (some (17, true)), 0, true, .mv (T 4)⟩,
 ⟨(some 20), (some (17, true)), 0, true, .mv (T 3)⟩,
 ⟨(some 21), (some (17, true)), 0, true, .mv (T 5)⟩,
 ⟨(some 22), (some (17, true)), 0, true, .bin .sub (T 21) (C (.int .i64 1))⟩,
 ⟨(some 23), (some (17, true)), 0, true, .iaddr 1 (T 20) (T 22)⟩,
 ⟨(some 24), (some (17, true)), 0, true, .load none (T 23)⟩,
 ⟨(some 25), (some (17, true)), 0, true, .call 86 [(T 18), (T 19), (T 24)]⟩,
 D 26 (.pick (T 17) (T 25) (C (.bool false)))])
 (.cond (T 26)
 .skip
 (.exit 2)))
 (.block 3 (.region [
 D 27 (.mv (T 5)),
 D 28 (.bin .sub (T 27) (C (.int .i64 1))),
 D 5 (.mv (T 28))])))
/-- a loop of winepress/winepressref17.Order; it keeps [0, 4, 3] -/
def lb70_1 : ACode := (.seq (.seq (.region [
 D 7 (.mv (T 4)),
 D 8 (.mv (T 0)),
 D 9 (.len (T 8)),
 D 10 (.bin .leq (T 7) (T 9))])
 (.cond (T 10)
 .skip
 (.exit 0)))
 (.seq (.block 1 (.seq (.region [
 D 13 (.mv (T 3)),
 D 14 (.len (T 13)),
 D 5 (.mv (T 14))])
 (.seq (.block 2 (.loop [5, 0, 4, 3] lb70_0))
 (.seq (.region [
 D 6 (.mv (C (.slice none 0 0)))])
 (.seq (.region [
 D 29 (.mv (T 6)),
 D 30 (.mv (T 3)),
 D 31 (.mv (T 5)),
 D 32 (.slice 1 (T 30) none (some (T 31)) none),
 D 33 (.append true 1 (T 29) (T 32)),
 D 6 (.mv (T 33))])
 (.seq (.region [
 D 34 (.mv (T 6)),
 D 35 (.mv (T 4)),
 D 36 (.bslice true 1 1 [(.int .i64 0)] [(0, 1, (T 35))]),
 D 37 (.append true 1 (T 34) (T 36)),
 D 6 (.mv (T 37))])
 (.region [
 D 38 (.mv (T 6)),
 D 39 (.mv (T 3)),
 D 40 (.mv (T 5)),
 D 41 (.slice 1 (T 39) (some (T 40)) none none),
 D 42 (.append true 1 (T 38) (T 41)),
 D 3 (.mv (T 42))])))))))
 (.region [
 D 11 (.mv (T 4)),
 D 12 (.bin .add (T 11) (C (.int .i64 1))),
 D 4 (.mv (T 12))])))
/-- winepress/winepressref17.Order -/
def ac70 : AFn := ⟨(.seq (.region [
 D 2 (.mv (C (.slice none 0 0)))])
 (.seq (.region [
 D 3 (.mv (C (.slice none 0 0)))])
 (.seq (.seq (.region [
 D 4 (.mv (C (.int .i64 0)))])
 (.block 0 (.loop [0, 4, 3] lb70_1)))
 (.seq (.region [
 D 43 (.mv (T 3)),
 D 2 (.mv (T 43))])
 .ret)))), [.tmp 2]⟩
theorem ac70_ok : compFn Try.prog Try.f70 = some ac70 := by kernel_rfl
/-- (*winepress/winepressref01.Arena).in -/
def ac71 : AFn := ⟨(.seq (.region [
 D 5 (.box true (T 1)),
 D 8 (.mv (C (.bool false)))])
 (.seq (.region [
 D 9 (.mv (T 0)),
 D 10 (.load (some 2) (T 5)),
 D 11 (.call 72 [(T 9), (T 10)]),
 D 12 (.mv (T 11)),
 ⟨(some 13), (some (12, true)), 0, true, .mv (T 2)⟩,
 ⟨(some 14), (some (12, true)), 0, true, .bin .geq (T 13) (C (.int .i64 0))⟩,
 D 15 (.pick (T 12) (T 14) (C (.bool false))),
 D 16 (.mv (T 15)),
 ⟨(some 17), (some (16, true)), 0, true, .mv (T 2)⟩,
 ⟨(some 18), (some (16, true)), 0, true, .faddr 1 (T 5)⟩,
 ⟨(some 19), (some (16, true)), 0, true, .load none (T 18)⟩,
 ⟨(some 20), (some (16, true)), 0, true, .bin .leq (T 17) (T 19)⟩,
 D 21 (.pick (T 16) (T 20) (C (.bool false))),
 D 22 (.mv (T 21)),
 ⟨(some 23), (some (22, true)), 0, true, .mv (T 3)⟩,
 ⟨(some 24), (some (22, true)), 0, true, .faddr 1 (T 5)⟩,
 ⟨(some 25), (some (22, true)), 0, true, .load none (T 24)⟩,
 ⟨(some 26), (some (22, true)), 0, true, .mv (T 2)⟩,
 ⟨(some 27), (some (22, true)), 0, true, .bin .sub (T 25) (T 26)⟩,
 ⟨(some 28), (some (22, true)), 0, true, .bin .leq (T 23) (T 27)⟩,
 D 29 (.pick (T 22) (T 28) (C (.bool false))),
 D 8 (.mv (T 29))])
 .ret)), [.tmp 8]⟩
theorem ac71_ok : compFn Try.prog Try.f71 = some ac71 := by kernel_rfl
/-- (*winepress/winepressref01.Arena).Has -/
def ac72 : AFn := ⟨(.seq (.region [
 D 3 (.box true (T 1)),
 D 4 (.mv (C (.bool false)))])
 (.seq (.drawn [
 ⟨(some 5), none, 0, false, .faddr 0 (T 3)⟩,
 ⟨(some 6), none, 1, true, .load none (T 5)⟩,
 ⟨(some 7), none, 3, false, .bin .geq (T 6) (C (.int .i64 0))⟩,
 ⟨(some 8), none, 7, false, .mv (T 7)⟩,
 ⟨(some 9), (some (8, true)), 15, false, .faddr 1 (T 3)⟩,
 ⟨(some 10), (some (8, true)), 31, true, .load none (T 9)⟩,
 ⟨(some 11), (some (8, true)), 63, false, .bin .geq (T 10) (C (.int .i64 0))⟩,
 ⟨(some 12), none, 127, false, .pick (T 8) (T 11) (C (.bool false))⟩,
 ⟨(some 13), none, 255, false, .mv (T 12)⟩,
 ⟨(some 14), (some (13, true)), 511, false, .faddr 0 (T 3)⟩,
 ⟨(some 15), (some (13, true)), 1023, false, .load none (T 14)⟩,
 ⟨(some 16), (some (13, true)), 511, false, .mv (T 0)⟩,
 ⟨(some 17), (some (13, true)), 2559, false, .nilck (T 16)⟩,
 ⟨(some 18), (some (13, true)), 6655, false, .faddr 1 (T 17)⟩,
 ⟨(some 19), (some (13, true)), 14847, false, .load none (T 18)⟩,
 ⟨(some 20), (some (13, true)), 32767, false, .bin .leq (T 15) (T 19)⟩,
 ⟨(some 21), none, 65535, false, .pick (T 13) (T 20) (C (.bool false))⟩,
 ⟨(some 22), none, 131071, false, .mv (T 21)⟩,
 ⟨(some 23), (some (22, true)), 262143, false, .faddr 1 (T 3)⟩,
 ⟨(some 24), (some (22, true)), 524287, false, .load none (T 23)⟩,
 ⟨(some 25), (some (22, true)), 262143, false, .mv (T 0)⟩,
 ⟨(some 26), (some (22, true)), 1310719, false, .nilck (T 25)⟩,
 ⟨(some 27), (some (22, true)), 3407871, false, .faddr 1 (T 26)⟩,
 ⟨(some 28), (some (22, true)), 7602175, false, .load none (T 27)⟩,
 ⟨(some 29), (some (22, true)), 262143, false, .faddr 0 (T 3)⟩,
 ⟨(some 30), (some (22, true)), 17039359, false, .load none (T 29)⟩,
 ⟨(some 31), (some (22, true)), 66322431, false, .bin .sub (T 28) (T 30)⟩,
 ⟨(some 32), (some (22, true)), 134217727, false, .bin .leq (T 24) (T 31)⟩,
 ⟨(some 33), none, 268435455, false, .pick (T 22) (T 32) (C (.bool false))⟩,
 ⟨(some 4), none, 536870911, false, .mv (T 33)⟩])
 .ret)), [.tmp 4]⟩
theorem ac72_ok : compFn Try.prog Try.f72 = some ac72 := by kernel_rfl
/-- a loop of winepress/winepressref19.apart; it keeps [3, 2, 5] -/
def lb73_0 : ACode := (.seq (.seq (.region [
 D 8 (.mv (T 5)),
 D 9 (.faddr 0 (T 2)),
 D 10 (.load none (T 9)),
 D 11 (.faddr 1 (T 2)),
 D 12 (.load none (T 11)),
 D 13 (.bin .add (T 10) (T 12)),
 D 14 (.bin .lss (T 8) (T 13))])
 (.cond (T 14)
 .skip
 (.exit 0)))
 (.seq (.block 1 (.seq (.region [
 D 17 (.mv (T 5)),
 D 18 (.faddr 0 (T 3)),
 D 19 (.load none (T 18)),
 D 20 (.bin .geq (T 17) (T 19)),
 D 21 (.mv (T 20)),
 ⟨(some 22), (some (21, true)), 0, true, .mv (T 5)⟩,
 ⟨(some 23), (some (21, true)), 0, true, .faddr 0 (T 3)⟩,
 ⟨(some 24), (some (21, true)), 0, true, .load none (T 23)⟩,
 ⟨(some 25), (some (21, true)), 0, true, .faddr 1 (T 3)⟩,
 ⟨(some 26), (some (21, true)), 0, true, .load none (T 25)⟩,
 ⟨(some 27), (some (21, true)), 0, true, .bin .add (T 24) (T 26)⟩,
 ⟨(some 28), (some (21, true)), 0, true, .bin .lss (T 22) (T 27)⟩,
 D 29 (.pick (T 21) (T 28) (C (.bool false)))])
 (.cond (T 29)
 (.seq (.region [
 D 4 (.mv (C (.bool false)))])
 .ret)
 .skip)))
 (.region [
 D 15 (.mv (T 5)),
 D 16 (.bin .add (T 15) (C (.int .i64 1))),
 D 5 (.mv (T 16))])))
/-- winepress/winepressref19.apart -/
def ac73 : AFn := ⟨(.seq (.region [
 D 2 (.box true (T 0)),
 D 3 (.box true (T 1)),
 D 4 (.mv (C (.bool false)))])
 (.seq (.seq (.region [
 D 6 (.faddr 0 (T 2)),
 D 7 (.load none (T 6)),
 D 5 (.mv (T 7))])
 (.block 0 (.loop [3, 2, 5] lb73_0)))
 (.seq (.region [
 D 4 (.mv (C (.bool true)))])
 .ret))), [.tmp 4]⟩
theorem ac73_ok : compFn Try.prog Try.f73 = some ac73 := by kernel_rfl
/-- winepress/bwtbucket.apart -/
def ac74 : AFn := ⟨(.seq (.region [
 D 2 (.box true (T 0)),
 D 3 (.box true (T 1)),
 D 4 (.mv (C (.bool false)))])
 (.seq (.region [
 D 5 (.faddr 1 (T 2)),
 D 6 (.load none (T 5)),
 D 7 (.bin .eql (T 6) (C (.int .i64 0))),
 D 8 (.mv (T 7)),
 ⟨(some 9), (some (8, false)), 0, true, .faddr 1 (T 3)⟩,
 ⟨(some 10), (some (8, false)), 0, true, .load none (T 9)⟩,
 ⟨(some 11), (some (8, false)), 0, true, .bin .eql (T 10) (C (.int .i64 0))⟩,
 D 12 (.pick (T 8) (C (.bool true)) (T 11)),
 D 13 (.mv (T 12)),
 ⟨(some 14), (some (13, false)), 0, true, .faddr 0 (T 2)⟩,
 ⟨(some 15), (some (13, false)), 0, true, .load none (T 14)⟩,
 ⟨(some 16), (some (13, false)), 0, true, .faddr 1 (T 2)⟩,
 ⟨(some 17), (some (13, false)), 0, true, .load none (T 16)⟩,
 ⟨(some 18), (some (13, false)), 0, true, .bin .add (T 15) (T 17)⟩,
 ⟨(some 19), (some (13, false)), 0, true, .faddr 0 (T 3)⟩,
 ⟨(some 20), (some (13, false)), 0, true, .load none (T 19)⟩,
 ⟨(some 21), (some (13, false)), 0, true, .bin .leq (T 18) (T 20)⟩,
 D 22 (.pick (T 13) (C (.bool true)) (T 21)),
 D 23 (.mv (T 22)),
 ⟨(some 24), (some (23, false)), 0, true, .faddr 0 (T 3)⟩,
 ⟨(some 25), (some (23, false)), 0, true, .load none (T 24)⟩,
 ⟨(some 26), (some (23, false)), 0, true, .faddr 1 (T 3)⟩,
 ⟨(some 27), (some (23, false)), 0, true, .load none (T 26)⟩,
 ⟨(some 28), (some (23, false)), 0, true, .bin .add (T 25) (T 27)⟩,
 ⟨(some 29), (some (23, false)), 0, true, .faddr 0 (T 2)⟩,
 ⟨(some 30), (some (23, false)), 0, true, .load none (T 29)⟩,
 ⟨(some 31), (some (23, false)), 0, true, .bin .leq (T 28) (T 30)⟩,
 D 32 (.pick (T 23) (C (.bool true)) (T 31)),
 D 4 (.mv (T 32))])
 .ret)), [.tmp 4]⟩
theorem ac74_ok : compFn Try.prog Try.f74 = some ac74 := by kernel_rfl
/-- a loop of (*winepress/bwtbucket.sorter).rise; it keeps [0, 4] -/
def lb81_0 : ACode := (.seq (.seq (.region [
 D 23 (.mv (T 4)),
 D 24 (.bin .gtr (T 23) (C (.int .i64 0)))])
 (.cond (T 24)
 .skip
 (.exit 0)))
 (.block 1 (.seq (.region [
 D 25 (.mv (T 4)),
 D 26 (.bin .sub (T 25) (C (.int .i64 1))),
 D 27 (.bin .quo (T 26) (C (.int .i64 2))),
 D 5 (.mv (T 27))])
 (.seq (.region [
 D 28 (.mv (T 0)),
 D 29 (.mv (T 5)),
 D 30 (.call 64 [(T 28), (T 29)]),
 D 31 (.mv (T 0)),
 D 32 (.mv (T 4)),
 D 33 (.call 64 [(T 31), (T 32)]),
 D 6 (.mv (T 30)),
 D 7 (.mv (T 33))])
 (.seq (.seq (.region [
 D 34 (.mv (T 0)),
 D 35 (.mv (T 6)),
 D 36 (.mv (T 7)),
 D 37 (.call 62 [(T 34), (T 35), (T 36)]),
 D 38 (.un .not (T 37))])
 (.cond (T 38)
 .ret
 .skip))
 (.seq (.region [
 D 39 (.mv (T 0)),
 D 40 (.mv (T 5)),
 D 41 (.mv (T 7)),
 D 42 (.call 82 [(T 39), (T 40), (T 41)])])
 (.seq (.region [
 D 43 (.mv (T 0)),
 D 44 (.mv (T 4)),
 D 45 (.mv (T 6)),
 D 46 (.call 82 [(T 43), (T 44), (T 45)])])
 (.region [
 D 47 (.mv (T 5)),
 D 4 (.mv (T 47))]))))))))
/-- (*winepress/bwtbucket.sorter).rise -/
def ac81 : AFn := ⟨(.seq (.region [
 D 8 (.mv (T 0)),
 D 9 (.nilck (T 8)),
 D 10 (.faddr 5 (T 9)),
 D 11 (.load none (T 10)),
 D 4 (.mv (T 11))])
 (.seq (.region [
 D 12 (.mv (T 0)),
 D 13 (.mv (T 4)),
 D 14 (.mv (T 1)),
 D 15 (.call 82 [(T 12), (T 13), (T 14)])])
 (.seq (.region [
 D 16 (.mv (T 0)),
 D 17 (.nilck (T 16)),
 D 18 (.faddr 5 (T 17)),
 D 19 (.load none (T 18)),
 D 20 (.bin .add (T 19) (C (.int .i64 1))),
 D 21 (.nilck (T 16)),
 D 22 (.faddr 5 (T 21)),
 E (.store 1 (T 22) (T 20))])
 (.block 0 (.loop [0, 4] lb81_0))))), []⟩
theorem ac81_ok : compFn Try.prog Try.f81 = some ac81 := by kernel_rfl
/-- (*winepress/bwtbucket.sorter).set -/
def ac82 : AFn := ⟨(.drawn [
 ⟨(some 6), none, 0, false, .mv (T 0)⟩,
 ⟨(some 7), none, 1, false, .nilck (T 6)⟩,
 ⟨(some 8), none, 3, false, .faddr 0 (T 7)⟩,
 ⟨(some 9), none, 7, false, .load none (T 8)⟩,
 ⟨(some 10), none, 0, false, .mv (T 0)⟩,
 ⟨(some 11), none, 16, false, .nilck (T 10)⟩,
 ⟨(some 12), none, 48, false, .faddr 3 (T 11)⟩,
 ⟨(some 13), none, 112, false, .load (some 2) (T 12)⟩,
 ⟨(some 14), none, 0, false, .mv (T 1)⟩,
 ⟨(some 15), none, 0, false, .mv (T 2)⟩,
 ⟨(some 16), none, 512, false, .conv .u32 (T 15)⟩,
 ⟨(some 17), none, 2047, true, .call 89 [(T 9), (T 13), (T 14), (T 16)]⟩]), []⟩
theorem ac82_ok : compFn Try.prog Try.f82 = some ac82 := by kernel_rfl
/-- a loop of (*winepress/bwtbucket.sorter).sink; it keeps [0, 1] -/
def lb83_0 : ACode := (.block 1 (.seq (.region [
 D 7 (.mv (T 1)),
 D 8 (.bin .mul (C (.int .i64 2)) (T 7)),
 D 9 (.bin .add (T 8) (C (.int .i64 1))),
 D 4 (.mv (T 9))])
 (.seq (.seq (.region [
 D 10 (.mv (T 4)),
 D 11 (.bin .add (T 10) (C (.int .i64 1))),
 D 12 (.mv (T 0)),
 D 13 (.nilck (T 12)),
 D 14 (.faddr 5 (T 13)),
 D 15 (.load none (T 14)),
 D 16 (.bin .lss (T 11) (T 15)),
 D 17 (.mv (T 16)),
 ⟨(some 18), (some (17, true)), 0, true, .mv (T 0)⟩,
 ⟨(some 19), (some (17, true)), 0, true, .mv (T 0)⟩,
 ⟨(some 20), (some (17, true)), 0, true, .mv (T 4)⟩,
 ⟨(some 21), (some (17, true)), 0, true, .call 64 [(T 19), (T 20)]⟩,
 ⟨(some 22), (some (17, true)), 0, true, .mv (T 0)⟩,
 ⟨(some 23), (some (17, true)), 0, true, .mv (T 4)⟩,
 ⟨(some 24), (some (17, true)), 0, true, .bin .add (T 23) (C (.int .i64 1))⟩,
 ⟨(some 25), (some (17, true)), 0, true, .call 64 [(T 22), (T 24)]⟩,
 ⟨(some 26), (some (17, true)), 0, true, .call 62 [(T 18), (T 21), (T 25)]⟩,
 D 27 (.pick (T 17) (T 26) (C (.bool false)))])
 (.cond (T 27)
 (.region [
 D 28 (.mv (T 4)),
 D 29 (.bin .add (T 28) (C (.int .i64 1))),
 D 4 (.mv (T 29))])
 .skip))
 (.seq (.seq (.region [
 D 30 (.mv (T 4)),
 D 31 (.mv (T 0)),
 D 32 (.nilck (T 31)),
 D 33 (.faddr 5 (T 32)),
 D 34 (.load none (T 33)),
 D 35 (.bin .geq (T 30) (T 34)),
 D 36 (.mv (T 35)),
 ⟨(some 37), (some (36, false)), 0, true, .mv (T 0)⟩,
 ⟨(some 38), (some (36, false)), 0, true, .mv (T 0)⟩,
 ⟨(some 39), (some (36, false)), 0, true, .mv (T 1)⟩,
 ⟨(some 40), (some (36, false)), 0, true, .call 64 [(T 38), (T 39)]⟩,
 ⟨(some 41), (some (36, false)), 0, true, .mv (T 0)⟩,
 ⟨(some 42), (some (36, false)), 0, true, .mv (T 4)⟩,
 ⟨(some 43), (some (36, false)), 0, true, .call 64 [(T 41), (T 42)]⟩,
 ⟨(some 44), (some (36, false)), 0, true, .call 62 [(T 37), (T 40), (T 43)]⟩,
 ⟨(some 45), (some (36, false)), 0, true, .un .not (T 44)⟩,
 D 46 (.pick (T 36) (C (.bool true)) (T 45))])
 (.cond (T 46)
 .ret
 .skip))
 (.seq (.region [
 D 47 (.mv (T 0)),
 D 48 (.mv (T 1)),
 D 49 (.call 64 [(T 47), (T 48)]),
 D 50 (.mv (T 0)),
 D 51 (.mv (T 4)),
 D 52 (.call 64 [(T 50), (T 51)]),
 D 5 (.mv (T 49)),
 D 6 (.mv (T 52))])
 (.seq (.region [
 D 53 (.mv (T 0)),
 D 54 (.mv (T 1)),
 D 55 (.mv (T 6)),
 D 56 (.call 82 [(T 53), (T 54), (T 55)])])
 (.seq (.region [
 D 57 (.mv (T 0)),
 D 58 (.mv (T 4)),
 D 59 (.mv (T 5)),
 D 60 (.call 82 [(T 57), (T 58), (T 59)])])
 (.region [
 D 61 (.mv (T 4)),
 D 1 (.mv (T 61))]))))))))
/-- (*winepress/bwtbucket.sorter).sink -/
def ac83 : AFn := ⟨(.block 0 (.loop [0, 1] lb83_0)), []⟩
theorem ac83_ok : compFn Try.prog Try.f83 = some ac83 := by kernel_rfl
/-- a loop of (*winepress/arena.Arena).Word; it keeps [6, 17, 16, 8, 15] -/
def lb84_0 : ACode := (.seq (.region [
 D 18 (.bin .lss (T 17) (T 16))])
 (.seq (.cond (T 18)
 .skip
 (.exit 0))
 (.seq (.block 1 (.seq (.region [
 D 19 (.mv (T 17)),
 D 20 (.iaddr 1 (T 15) (T 17)),
 D 21 (.load none (T 20)),
 D 9 (.mv (T 19)),
 D 10 (.mv (T 21))])
 (.region [
 D 22 (.mv (T 6)),
 D 23 (.mv (T 10)),
 D 24 (.conv .u32 (T 23)),
 D 25 (.mv (T 9)),
 D 26 (.bin .mul (C (.int .i64 8)) (T 25)),
 D 27 (.bin .shl (T 24) (T 26)),
 D 28 (.bin .or (T 22) (T 27)),
 D 6 (.mv (T 28))])))
 (.region [
 D 29 (.bin .add (T 17) (C (.int .i64 1))),
 D 17 (.mv (T 29))]))))
/-- (*winepress/arena.Arena).Word -/
def ac84 : AFn := ⟨(.seq (.region [
 D 4 (.box true (T 1)),
 D 6 (.mv (C (.int .u32 0))),
 D 7 (.mv (C (.bool false)))])
 (.seq (.region [
 D 11 (.mv (T 0)),
 D 12 (.load (some 2) (T 4)),
 D 13 (.mv (T 2)),
 D 14 (.call 90 [(T 11), (T 12), (T 13)]),
 D 8 (.mv (T 14))])
 (.seq (.seq (.region [
 D 15 (.mv (T 8)),
 D 16 (.len (T 15)),
 D 17 (.mv (C (.int .i64 0)))])
 (.block 0 (.loop [6, 17, 16, 8, 15] lb84_0)))
 (.seq (.region [
 D 30 (.mv (T 6)),
 D 31 (.mv (T 8)),
 D 32 (.eqs true .slice (T 31) (C (.slice none 0 0))),
 D 6 (.mv (T 30)),
 D 7 (.mv (T 32))])
 .ret)))), [.tmp 6, .tmp 7]⟩
theorem ac84_ok : compFn Try.prog Try.f84 = some ac84 := by kernel_rfl
/-- (*winepress/arena.Arena).part -/
def ac85 : AFn := ⟨(.seq (.region [
 D 5 (.box true (T 1)),
 D 8 (.mv (C (.slice none 0 0)))])
 (.seq (.seq (.region [
 D 9 (.mv (T 0)),
 D 10 (.load (some 2) (T 5)),
 D 11 (.call 67 [(T 9), (T 10)]),
 D 12 (.un .not (T 11)),
 D 13 (.mv (T 12)),
 ⟨(some 14), (some (13, false)), 0, true, .mv (T 2)⟩,
 ⟨(some 15), (some (13, false)), 0, true, .bin .lss (T 14) (C (.int .i64 0))⟩,
 D 16 (.pick (T 13) (C (.bool true)) (T 15)),
 D 17 (.mv (T 16)),
 ⟨(some 18), (some (17, false)), 0, true, .mv (T 2)⟩,
 ⟨(some 19), (some (17, false)), 0, true, .faddr 1 (T 5)⟩,
 ⟨(some 20), (some (17, false)), 0, true, .load none (T 19)⟩,
 ⟨(some 21), (some (17, false)), 0, true, .mv (T 3)⟩,
 ⟨(some 22), (some (17, false)), 0, true, .bin .sub (T 20) (T 21)⟩,
 ⟨(some 23), (some (17, false)), 0, true, .bin .gtr (T 18) (T 22)⟩,
 D 24 (.pick (T 17) (C (.bool true)) (T 23))])
 (.cond (T 24)
 (.seq (.region [
 D 8 (.mv (C (.slice none 0 0)))])
 .ret)
 .skip))
 (.seq (.region [
 D 25 (.mv (T 2)),
 D 26 (.faddr 0 (T 5)),
 D 27 (.load none (T 26)),
 D 28 (.bin .add (T 25) (T 27)),
 D 2 (.mv (T 28))])
 (.seq (.region [
 D 29 (.mv (T 0)),
 D 30 (.nilck (T 29)),
 D 31 (.faddr 0 (T 30)),
 D 32 (.load none (T 31)),
 D 33 (.mv (T 2)),
 D 34 (.mv (T 2)),
 D 35 (.mv (T 3)),
 D 36 (.bin .add (T 34) (T 35)),
 D 37 (.mv (T 2)),
 D 38 (.mv (T 3)),
 D 39 (.bin .add (T 37) (T 38)),
 D 40 (.slice 1 (T 32) (some (T 33)) (some (T 36)) (some (T 39))),
 D 8 (.mv (T 40))])
 .ret)))), [.tmp 8]⟩
theorem ac85_ok : compFn Try.prog Try.f85 = some ac85 := by kernel_rfl
/-- a loop of winepress/winepressref17.Less; it keeps [1, 2, 0] -/
def lb86_0 : ACode := (.seq (.seq (.drawn [
 ⟨(some 25), none, 0, false, .mv (T 1)⟩,
 ⟨(some 26), none, 0, false, .mv (T 0)⟩,
 ⟨(some 27), none, 2, false, .len (T 26)⟩,
 ⟨(some 28), none, 7, false, .bin .lss (T 25) (T 27)⟩,
 ⟨(some 29), none, 15, false, .mv (T 28)⟩,
 ⟨(some 30), (some (29, true)), 31, false, .mv (T 2)⟩,
 ⟨(some 31), (some (29, true)), 31, false, .mv (T 0)⟩,
 ⟨(some 32), (some (29, true)), 95, false, .len (T 31)⟩,
 ⟨(some 33), (some (29, true)), 255, false, .bin .lss (T 30) (T 32)⟩,
 ⟨(some 34), none, 511, false, .pick (T 29) (T 33) (C (.bool false))⟩,
 ⟨(some 35), none, 1023, false, .mv (T 34)⟩,
 ⟨(some 36), (some (35, true)), 2047, false, .mv (T 0)⟩,
 ⟨(some 37), (some (35, true)), 2047, false, .mv (T 1)⟩,
 ⟨(some 38), (some (35, true)), 8191, false, .iaddr 1 (T 36) (T 37)⟩,
 ⟨(some 39), (some (35, true)), 16383, false, .load none (T 38)⟩,
 ⟨(some 40), (some (35, true)), 2047, false, .mv (T 0)⟩,
 ⟨(some 41), (some (35, true)), 2047, false, .mv (T 2)⟩,
 ⟨(some 42), (some (35, true)), 100351, false, .iaddr 1 (T 40) (T 41)⟩,
 ⟨(some 43), (some (35, true)), 231423, false, .load none (T 42)⟩,
 ⟨(some 44), (some (35, true)), 524287, false, .bin .eql (T 39) (T 43)⟩,
 ⟨(some 45), none, 1048575, false, .pick (T 35) (T 44) (C (.bool false))⟩,
 ⟨(some 46), none, 2097151, false, .mv (T 45)⟩,
 ⟨(some 47), (some (46, true)), 4194303, false, .mv (T 1)⟩,
 ⟨(some 48), (some (46, true)), 4194303, false, .mv (T 2)⟩,
 ⟨(some 49), (some (46, true)), 16777215, false, .bin .neq (T 47) (T 48)⟩,
 ⟨(some 50), none, 33554431, false, .pick (T 46) (T 49) (C (.bool false))⟩])
 (.cond (T 50)
 .skip
 (.exit 0)))
 (.block 1 (.seq (.region [
 D 51 (.mv (T 1)),
 D 52 (.bin .add (T 51) (C (.int .i64 1))),
 D 1 (.mv (T 52))])
 (.region [
 D 53 (.mv (T 2)),
 D 54 (.bin .add (T 53) (C (.int .i64 1))),
 D 2 (.mv (T 54))]))))
/-- winepress/winepressref17.Less -/
def ac86 : AFn := ⟨(.seq (.region [
 D 6 (.mv (C (.bool false)))])
 (.seq (.seq (.region [
 D 7 (.mv (T 1)),
 D 8 (.bin .lss (T 7) (C (.int .i64 0))),
 D 9 (.mv (T 8)),
 ⟨(some 10), (some (9, false)), 0, true, .mv (T 1)⟩,
 ⟨(some 11), (some (9, false)), 0, true, .mv (T 0)⟩,
 ⟨(some 12), (some (9, false)), 0, true, .len (T 11)⟩,
 ⟨(some 13), (some (9, false)), 0, true, .bin .gtr (T 10) (T 12)⟩,
 D 14 (.pick (T 9) (C (.bool true)) (T 13)),
 D 15 (.mv (T 14)),
 ⟨(some 16), (some (15, false)), 0, true, .mv (T 2)⟩,
 ⟨(some 17), (some (15, false)), 0, true, .bin .lss (T 16) (C (.int .i64 0))⟩,
 D 18 (.pick (T 15) (C (.bool true)) (T 17)),
 D 19 (.mv (T 18)),
 ⟨(some 20), (some (19, false)), 0, true, .mv (T 2)⟩,
 ⟨(some 21), (some (19, false)), 0, true, .mv (T 0)⟩,
 ⟨(some 22), (some (19, false)), 0, true, .len (T 21)⟩,
 ⟨(some 23), (some (19, false)), 0, true, .bin .gtr (T 20) (T 22)⟩,
 D 24 (.pick (T 19) (C (.bool true)) (T 23))])
 (.cond (T 24)
 (.seq (.region [
 D 6 (.mv (C (.bool false)))])
 .ret)
 .skip))
 (.seq (.block 0 (.loop [1, 2, 0] lb86_0))
 (.seq (.seq (.region [
 D 55 (.mv (T 1)),
 D 56 (.mv (T 2)),
 D 57 (.bin .eql (T 55) (T 56)),
 D 58 (.mv (T 57)),
 ⟨(some 59), (some (58, false)), 0, true, .mv (T 2)⟩,
 ⟨(some 60), (some (58, false)), 0, true, .mv (T 0)⟩,
 ⟨(some 61), (some (58, false)), 0, true, .len (T 60)⟩,
 ⟨(some 62), (some (58, false)), 0, true, .bin .eql (T 59) (T 61)⟩,
 D 63 (.pick (T 58) (C (.bool true)) (T 62))])
 (.cond (T 63)
 (.seq (.region [
 D 6 (.mv (C (.bool false)))])
 .ret)
 .skip))
 (.seq (.drawn [
 ⟨(some 64), none, 0, false, .mv (T 1)⟩,
 ⟨(some 65), none, 0, false, .mv (T 0)⟩,
 ⟨(some 66), none, 2, false, .len (T 65)⟩,
 ⟨(some 67), none, 7, false, .bin .eql (T 64) (T 66)⟩,
 ⟨(some 68), none, 15, false, .mv (T 67)⟩,
 ⟨(some 69), (some (68, false)), 31, false, .mv (T 0)⟩,
 ⟨(some 70), (some (68, false)), 31, false, .mv (T 1)⟩,
 ⟨(some 71), (some (68, false)), 127, false, .iaddr 1 (T 69) (T 70)⟩,
 ⟨(some 72), (some (68, false)), 255, false, .load none (T 71)⟩,
 ⟨(some 73), (some (68, false)), 31, false, .mv (T 0)⟩,
 ⟨(some 74), (some (68, false)), 31, false, .mv (T 2)⟩,
 ⟨(some 75), (some (68, false)), 1567, false, .iaddr 1 (T 73) (T 74)⟩,
 ⟨(some 76), (some (68, false)), 3615, false, .load none (T 75)⟩,
 ⟨(some 77), (some (68, false)), 8191, false, .bin .lss (T 72) (T 76)⟩,
 ⟨(some 78), none, 16383, false, .pick (T 68) (C (.bool true)) (T 77)⟩,
 ⟨(some 6), none, 32767, false, .mv (T 78)⟩])
 .ret))))), [.tmp 6]⟩
theorem ac86_ok : compFn Try.prog Try.f86 = some ac86 := by kernel_rfl
/-- a loop of (*winepress/arena.Arena).SetWord; it keeps [17, 16, 9, 3] -/
def lb89_0 : ACode := (.seq (.region [
 D 18 (.bin .lss (T 17) (T 16))])
 (.seq (.cond (T 18)
 .skip
 (.exit 0))
 (.seq (.block 1 (.seq (.region [
 D 19 (.mv (T 17)),
 D 10 (.mv (T 19))])
 (.region [
 D 20 (.mv (T 9)),
 D 21 (.mv (T 10)),
 D 22 (.mv (T 3)),
 D 23 (.mv (T 10)),
 D 24 (.bin .mul (C (.int .i64 8)) (T 23)),
 D 25 (.bin .shr (T 22) (T 24)),
 D 26 (.conv .u8 (T 25)),
 D 27 (.iaddr 1 (T 20) (T 21)),
 E (.store 1 (T 27) (T 26))])))
 (.region [
 D 28 (.bin .add (T 17) (C (.int .i64 1))),
 D 17 (.mv (T 28))]))))
/-- (*winepress/arena.Arena).SetWord -/
def ac89 : AFn := ⟨(.seq (.region [
 D 5 (.box true (T 1)),
 D 8 (.mv (C (.bool false)))])
 (.seq (.region [
 D 11 (.mv (T 0)),
 D 12 (.load (some 2) (T 5)),
 D 13 (.mv (T 2)),
 D 14 (.call 90 [(T 11), (T 12), (T 13)]),
 D 9 (.mv (T 14))])
 (.seq (.seq (.region [
 D 15 (.mv (T 9)),
 D 16 (.len (T 15)),
 D 17 (.mv (C (.int .i64 0)))])
 (.block 0 (.loop [17, 16, 9, 3] lb89_0)))
 (.seq (.region [
 D 29 (.mv (T 9)),
 D 30 (.eqs true .slice (T 29) (C (.slice none 0 0))),
 D 8 (.mv (T 30))])
 .ret)))), [.tmp 8]⟩
theorem ac89_ok : compFn Try.prog Try.f89 = some ac89 := by kernel_rfl
/-- (*winepress/arena.Arena).word -/
def ac90 : AFn := ⟨(.seq (.region [
 D 4 (.box true (T 1)),
 D 6 (.mv (C (.slice none 0 0)))])
 (.seq (.seq (.region [
 D 7 (.mv (T 2)),
 D 8 (.bin .lss (T 7) (C (.int .i64 0))),
 D 9 (.mv (T 8)),
 ⟨(some 10), (some (9, false)), 0, true, .mv (T 2)⟩,
 ⟨(some 11), (some (9, false)), 0, true, .bin .gtr (T 10) (C (.int .i64 1048576))⟩,
 D 12 (.pick (T 9) (C (.bool true)) (T 11))])
 (.cond (T 12)
 (.seq (.region [
 D 6 (.mv (C (.slice none 0 0)))])
 .ret)
 .skip))
 (.seq (.region [
 D 13 (.mv (T 0)),
 D 14 (.load (some 2) (T 4)),
 D 15 (.mv (T 2)),
 D 16 (.bin .shl (T 15) (C (.int .u64 2))),
 D 17 (.call 85 [(T 13), (T 14), (T 16), (C (.int .i64 4))]),
 D 6 (.mv (T 17))])
 .ret))), [.tmp 6]⟩
theorem ac90_ok : compFn Try.prog Try.f90 = some ac90 := by kernel_rfl
def env0L : List (Nat × AFn) := [(7, ac7), (8, ac8), (9, ac9), (26, ac26), (27, ac27), (28, ac28), (29, ac29), (30, ac30), (31, ac31), (32, ac32), (33, ac33), (34, ac34), (35, ac35), (36, ac36), (37, ac37), (38, ac38), (39, ac39), (40, ac40), (41, ac41), (42, ac42), (43, ac43), (44, ac44), (45, ac45), (59, ac59), (60, ac60), (61, ac61), (62, ac62), (63, ac63), (64, ac64), (65, ac65), (66, ac66), (67, ac67), (68, ac68), (69, ac69), (70, ac70), (71, ac71), (72, ac72), (73, ac73), (74, ac74), (81, ac81), (82, ac82), (83, ac83), (84, ac84), (85, ac85), (86, ac86), (89, ac89), (90, ac90)]
def env0 : Env := .base env0L
theorem env0_ok : EnvOk Try.prog env0 :=
 EnvOk.cons Try.func7 ac7_ok (of_decide_eq_true (by kernel_rfl)) <|
 EnvOk.cons Try.func8 ac8_ok (of_decide_eq_true (by kernel_rfl)) <|
 EnvOk.cons Try.func9 ac9_ok (of_decide_eq_true (by kernel_rfl)) <|
 EnvOk.cons Try.func26 ac26_ok (of_decide_eq_true (by kernel_rfl)) <|
 EnvOk.cons Try.func27 ac27_ok (of_decide_eq_true (by kernel_rfl)) <|
 EnvOk.cons Try.func28 ac28_ok (of_decide_eq_true (by kernel_rfl)) <|
 EnvOk.cons Try.func29 ac29_ok (of_decide_eq_true (by kernel_rfl)) <|
 EnvOk.cons Try.func30 ac30_ok (of_decide_eq_true (by kernel_rfl)) <|
 EnvOk.cons Try.func31 ac31_ok (of_decide_eq_true (by kernel_rfl)) <|
 EnvOk.cons Try.func32 ac32_ok (of_decide_eq_true (by kernel_rfl)) <|
 EnvOk.cons Try.func33 ac33_ok (of_decide_eq_true (by kernel_rfl)) <|
 EnvOk.cons Try.func34 ac34_ok (of_decide_eq_true (by kernel_rfl)) <|
 EnvOk.cons Try.func35 ac35_ok (of_decide_eq_true (by kernel_rfl)) <|
 EnvOk.cons Try.func36 ac36_ok (of_decide_eq_true (by kernel_rfl)) <|
 EnvOk.cons Try.func37 ac37_ok (of_decide_eq_true (by kernel_rfl)) <|
 EnvOk.cons Try.func38 ac38_ok (of_decide_eq_true (by kernel_rfl)) <|
 EnvOk.cons Try.func39 ac39_ok (of_decide_eq_true (by kernel_rfl)) <|
 EnvOk.cons Try.func40 ac40_ok (of_decide_eq_true (by kernel_rfl)) <|
 EnvOk.cons Try.func41 ac41_ok (of_decide_eq_true (by kernel_rfl)) <|
 EnvOk.cons Try.func42 ac42_ok (of_decide_eq_true (by kernel_rfl)) <|
 EnvOk.cons Try.func43 ac43_ok (of_decide_eq_true (by kernel_rfl)) <|
 EnvOk.cons Try.func44 ac44_ok (of_decide_eq_true (by kernel_rfl)) <|
 EnvOk.cons Try.func45 ac45_ok (of_decide_eq_true (by kernel_rfl)) <|
 EnvOk.cons Try.func59 ac59_ok (of_decide_eq_true (by kernel_rfl)) <|
 EnvOk.cons Try.func60 ac60_ok (of_decide_eq_true (by kernel_rfl)) <|
 EnvOk.cons Try.func61 ac61_ok (of_decide_eq_true (by kernel_rfl)) <|
 EnvOk.cons Try.func62 ac62_ok (of_decide_eq_true (by kernel_rfl)) <|
 EnvOk.cons Try.func63 ac63_ok (of_decide_eq_true (by kernel_rfl)) <|
 EnvOk.cons Try.func64 ac64_ok (of_decide_eq_true (by kernel_rfl)) <|
 EnvOk.cons Try.func65 ac65_ok (of_decide_eq_true (by kernel_rfl)) <|
 EnvOk.cons Try.func66 ac66_ok (of_decide_eq_true (by kernel_rfl)) <|
 EnvOk.cons Try.func67 ac67_ok (of_decide_eq_true (by kernel_rfl)) <|
 EnvOk.cons Try.func68 ac68_ok (of_decide_eq_true (by kernel_rfl)) <|
 EnvOk.cons Try.func69 ac69_ok (of_decide_eq_true (by kernel_rfl)) <|
 EnvOk.cons Try.func70 ac70_ok (of_decide_eq_true (by kernel_rfl)) <|
 EnvOk.cons Try.func71 ac71_ok (of_decide_eq_true (by kernel_rfl)) <|
 EnvOk.cons Try.func72 ac72_ok (of_decide_eq_true (by kernel_rfl)) <|
 EnvOk.cons Try.func73 ac73_ok (of_decide_eq_true (by kernel_rfl)) <|
 EnvOk.cons Try.func74 ac74_ok (of_decide_eq_true (by kernel_rfl)) <|
 EnvOk.cons Try.func81 ac81_ok (of_decide_eq_true (by kernel_rfl)) <|
 EnvOk.cons Try.func82 ac82_ok (of_decide_eq_true (by kernel_rfl)) <|
 EnvOk.cons Try.func83 ac83_ok (of_decide_eq_true (by kernel_rfl)) <|
 EnvOk.cons Try.func84 ac84_ok (of_decide_eq_true (by kernel_rfl)) <|
 EnvOk.cons Try.func85 ac85_ok (of_decide_eq_true (by kernel_rfl)) <|
 EnvOk.cons Try.func86 ac86_ok (of_decide_eq_true (by kernel_rfl)) <|
 EnvOk.cons Try.func89 ac89_ok (of_decide_eq_true (by kernel_rfl)) <|
 EnvOk.cons Try.func90 ac90_ok (of_decide_eq_true (by kernel_rfl)) <|
 EnvOk.nil
theorem mixed : Try.prog.follows .mixedOrders = true := by kernel_rfl
def env : Env := .base (env0L)
theorem env_or : EnvOr Try.prog env :=
 EnvOr.of env0_ok
theorem fn7 : env.fn 7 = some ac7 := rfl
theorem fn8 : env.fn 8 = some ac8 := rfl
theorem fn9 : env.fn 9 = some ac9 := rfl
theorem fn26 : env.fn 26 = some ac26 := rfl
theorem fn27 : env.fn 27 = some ac27 := rfl
theorem fn28 : env.fn 28 = some ac28 := rfl
theorem fn29 : env.fn 29 = some ac29 := rfl
theorem fn30 : env.fn 30 = some ac30 := rfl
theorem fn31 : env.fn 31 = some ac31 := rfl
theorem fn32 : env.fn 32 = some ac32 := rfl
theorem fn33 : env.fn 33 = some ac33 := rfl
theorem fn34 : env.fn 34 = some ac34 := rfl
theorem fn35 : env.fn 35 = some ac35 := rfl
theorem fn36 : env.fn 36 = some ac36 := rfl
theorem fn37 : env.fn 37 = some ac37 := rfl
theorem fn38 : env.fn 38 = some ac38 := rfl
theorem fn39 : env.fn 39 = some ac39 := rfl
theorem fn40 : env.fn 40 = some ac40 := rfl
theorem fn41 : env.fn 41 = some ac41 := rfl
theorem fn42 : env.fn 42 = some ac42 := rfl
theorem fn43 : env.fn 43 = some ac43 := rfl
theorem fn44 : env.fn 44 = some ac44 := rfl
theorem fn45 : env.fn 45 = some ac45 := rfl
theorem fn59 : env.fn 59 = some ac59 := rfl
theorem fn60 : env.fn 60 = some ac60 := rfl
theorem fn61 : env.fn 61 = some ac61 := rfl
theorem fn62 : env.fn 62 = some ac62 := rfl
theorem fn63 : env.fn 63 = some ac63 := rfl
theorem fn64 : env.fn 64 = some ac64 := rfl
theorem fn65 : env.fn 65 = some ac65 := rfl
theorem fn66 : env.fn 66 = some ac66 := rfl
theorem fn67 : env.fn 67 = some ac67 := rfl
theorem fn68 : env.fn 68 = some ac68 := rfl
theorem fn69 : env.fn 69 = some ac69 := rfl
theorem fn70 : env.fn 70 = some ac70 := rfl
theorem fn71 : env.fn 71 = some ac71 := rfl
theorem fn72 : env.fn 72 = some ac72 := rfl
theorem fn73 : env.fn 73 = some ac73 := rfl
theorem fn74 : env.fn 74 = some ac74 := rfl
theorem fn81 : env.fn 81 = some ac81 := rfl
theorem fn82 : env.fn 82 = some ac82 := rfl
theorem fn83 : env.fn 83 = some ac83 := rfl
theorem fn84 : env.fn 84 = some ac84 := rfl
theorem fn85 : env.fn 85 = some ac85 := rfl
theorem fn86 : env.fn 86 = some ac86 := rfl
theorem fn89 : env.fn 89 = some ac89 := rfl
theorem fn90 : env.fn 90 = some ac90 := rfl
end ArEnv
end Go.Proofs.Ytlphmnhkkhcjfaa
