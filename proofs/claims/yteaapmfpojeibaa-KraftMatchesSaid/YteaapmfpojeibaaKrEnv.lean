/-
  THE TRANSLATED FUNCTIONS, printed by a program, and that they are the program's functions. Conditions: none.
-/
import Derived.Test.YteaapmfpojeibaaProg
import Derived.Test.YteaapmfpojeibaaAOr
import Derived.KernelRfl
import Derived.Test.YteaapmfpojeibaaKraftOr
namespace Go.Proofs.Yteaapmfpojeibaa
namespace KrEnv
open Go AM
abbrev T (n : Nat) : Operand := .tmp n
abbrev C (v : Value) : Operand := .const v
abbrev D (d : Nat) (o : AOp) : AOper := ⟨some d, none, 0, true, o⟩
abbrev E (o : AOp) : AOper := ⟨none, none, 0, true, o⟩
/-- winepress/winepresslaw08.KraftMatches -/
def ac8 : AFn := ⟨(.seq (.region [
    D 3 (.box true (T 0)),
    D 4 (.box true (T 1)),
    D 6 (.mv (C (.bool false)))])
  (.seq (.seq (.region [
    D 8 (.mv (T 2)),
    D 9 (.len (T 8)),
    D 10 (.bin .gtr (T 9) (C (.int .i64 20)))])
  (.cond (T 10)
   (.seq (.region [
     D 11 (.call 26 []),
     D 6 (.mv (T 11))])
   .ret)
   .skip))
  (.seq (.region [
    D 12 (.load (some 258) (T 3)),
    D 13 (.call 27 [(T 12)]),
    D 7 (.mv (T 13))])
  (.seq (.seq (.drawn [
    D 14 (.load (some 258) (T 3)),
    ⟨(some 15), none, 1, true, .call 28 [(T 14)]⟩,
    ⟨(some 16), none, 0, false, .mv (T 7)⟩,
    ⟨(some 17), none, 7, false, .bin .neq (T 15) (T 16)⟩,
    ⟨(some 18), none, 15, false, .mv (T 17)⟩,
    ⟨(some 19), (some (18, false)), 31, true, .load (some 258) (T 3)⟩,
    ⟨(some 20), (some (18, false)), 63, true, .call 29 [(T 19)]⟩,
    ⟨(some 21), (some (18, false)), 31, false, .mv (T 7)⟩,
    ⟨(some 22), (some (18, false)), 159, false, .bin .leq (T 21) (C (.int .i64 32768))⟩,
    ⟨(some 23), (some (18, false)), 511, false, .eqs true .bool (T 20) (T 22)⟩,
    ⟨(some 24), none, 1023, false, .pick (T 18) (C (.bool true)) (T 23)⟩,
    ⟨(some 25), none, 2047, false, .mv (T 24)⟩,
    ⟨(some 26), (some (25, false)), 4095, true, .load (some 258) (T 3)⟩,
    ⟨(some 27), (some (25, false)), 8191, true, .call 30 [(T 26)]⟩,
    ⟨(some 28), (some (25, false)), 4095, false, .mv (T 7)⟩,
    ⟨(some 29), (some (25, false)), 20479, false, .bin .eql (T 28) (C (.int .i64 32768))⟩,
    ⟨(some 30), (some (25, false)), 65535, false, .eqs true .bool (T 27) (T 29)⟩,
    ⟨(some 31), none, 131071, false, .pick (T 25) (C (.bool true)) (T 30)⟩,
    ⟨(some 32), none, 262143, false, .mv (T 31)⟩,
    ⟨(some 33), (some (32, false)), 524287, false, .load (some 258) (T 3)⟩,
    ⟨(some 34), (some (32, false)), 1048575, false, .call 31 [(T 33)]⟩,
    ⟨(some 35), (some (32, false)), 524287, false, .load (some 258) (T 3)⟩,
    ⟨(some 36), (some (32, false)), 4194303, true, .call 32 [(T 35)]⟩,
    ⟨(some 37), (some (32, false)), 8388607, false, .eqs true .bool (T 34) (T 36)⟩,
    ⟨(some 38), none, 16777215, false, .pick (T 32) (C (.bool true)) (T 37)⟩])
  (.cond (T 38)
   (.seq (.region [
     D 6 (.mv (C (.bool false)))])
   .ret)
   .skip))
  (.seq (.drawn [
    ⟨(some 39), none, 0, false, .load (some 258) (T 3)⟩,
    ⟨(some 40), none, 1, false, .call 33 [(T 39)]⟩,
    ⟨(some 41), none, 0, false, .load (some 258) (T 3)⟩,
    ⟨(some 42), none, 7, true, .call 34 [(T 41)]⟩,
    ⟨(some 43), none, 15, false, .eqs false (.agg (List.replicate 16 .nu)) (T 40) (T 42)⟩,
    ⟨(some 44), none, 31, false, .mv (T 43)⟩,
    ⟨(some 45), (some (44, true)), 63, false, .load (some 258) (T 4)⟩,
    ⟨(some 46), (some (44, true)), 63, false, .load (some 258) (T 3)⟩,
    ⟨(some 47), (some (44, true)), 255, false, .call 35 [(T 45), (T 46)]⟩,
    ⟨(some 48), (some (44, true)), 63, false, .load (some 258) (T 4)⟩,
    ⟨(some 49), (some (44, true)), 63, false, .load (some 258) (T 3)⟩,
    ⟨(some 50), (some (44, true)), 2047, true, .call 36 [(T 48), (T 49)]⟩,
    ⟨(some 51), (some (44, true)), 4095, false, .bin .eql (T 47) (T 50)⟩,
    ⟨(some 52), none, 8191, false, .pick (T 44) (T 51) (C (.bool false))⟩,
    ⟨(some 53), none, 16383, false, .mv (T 52)⟩,
    ⟨(some 54), (some (53, true)), 32767, false, .mv (T 2)⟩,
    ⟨(some 55), (some (53, true)), 65535, true, .call 37 [(T 54)]⟩,
    ⟨(some 56), (some (53, true)), 32767, false, .mv (T 2)⟩,
    ⟨(some 57), (some (53, true)), 262143, true, .call 38 [(T 56)]⟩,
    ⟨(some 58), (some (53, true)), 524287, false, .bin .eql (T 55) (T 57)⟩,
    ⟨(some 59), none, 1048575, false, .pick (T 53) (T 58) (C (.bool false))⟩,
    ⟨(some 60), none, 2097151, false, .mv (T 59)⟩,
    ⟨(some 61), (some (60, true)), 4194303, true, .call 26 []⟩,
    ⟨(some 62), none, 8388607, false, .pick (T 60) (T 61) (C (.bool false))⟩,
    ⟨(some 6), none, 16777215, false, .mv (T 62)⟩])
  .ret))))), [.tmp 6]⟩
theorem ac8_ok : compFn Try.prog Try.f8 = some ac8 := by kernel_rfl
/-- winepress/winepresslaw08.KraftLonger -/
def ac9 : AFn := ⟨(.seq (.region [
    D 2 (.box true (T 0)),
    D 4 (.mv (C (.bool false)))])
  (.seq (.seq (.region [
    D 9 (.mv (T 1)),
    D 10 (.bin .lss (T 9) (C (.int .i64 0))),
    D 11 (.mv (T 10)),
    ⟨(some 12), (some (11, false)), 0, true, .mv (T 1)⟩,
    ⟨(some 13), (some (11, false)), 0, true, .bin .geq (T 12) (C (.int .i64 258))⟩,
    D 14 (.pick (T 11) (C (.bool true)) (T 13))])
  (.cond (T 14)
   (.seq (.region [
     D 15 (.call 26 []),
     D 4 (.mv (T 15))])
   .ret)
   .skip))
  (.seq (.region [
    D 16 (.mv (T 1)),
    D 17 (.iaddra 1 258 (T 2) (T 16)),
    D 18 (.load none (T 17)),
    D 5 (.mv (T 18))])
  (.seq (.seq (.region [
    D 19 (.mv (T 5)),
    D 20 (.bin .lss (T 19) (C (.int .u8 1))),
    D 21 (.mv (T 20)),
    ⟨(some 22), (some (21, false)), 0, true, .mv (T 5)⟩,
    ⟨(some 23), (some (21, false)), 0, true, .bin .gtr (T 22) (C (.int .u8 14))⟩,
    D 24 (.pick (T 21) (C (.bool true)) (T 23))])
  (.cond (T 24)
   (.seq (.region [
     D 25 (.call 26 []),
     D 4 (.mv (T 25))])
   .ret)
   .skip))
  (.seq (.region [
    D 26 (.load (some 258) (T 2)),
    D 27 (.call 28 [(T 26)]),
    D 6 (.mv (T 27))])
  (.seq (.region [
    D 28 (.load (some 258) (T 2)),
    D 7 (.alloc true (List.replicate 258 (.int .u8 0))),
    E (.store 258 (T 7) (T 28))])
  (.seq (.region [
    D 29 (.mv (T 1)),
    D 30 (.mv (T 5)),
    D 31 (.bin .add (T 30) (C (.int .u8 1))),
    D 32 (.iaddra 1 258 (T 7) (T 29)),
    E (.store 1 (T 32) (T 31))])
  (.seq (.region [
    D 33 (.load (some 258) (T 7)),
    D 34 (.call 28 [(T 33)]),
    D 8 (.mv (T 34))])
  (.seq (.seq (.region [
    D 35 (.mv (T 6)),
    D 36 (.mv (T 8)),
    D 37 (.bin .sub (T 35) (T 36)),
    D 38 (.mv (T 5)),
    D 39 (.conv .u64 (T 38)),
    D 40 (.bin .add (T 39) (C (.int .u64 1))),
    D 41 (.bin .shr (C (.int .i64 32768)) (T 40)),
    D 42 (.bin .neq (T 37) (T 41)),
    D 43 (.mv (T 42)),
    ⟨(some 44), (some (43, false)), 0, true, .load (some 258) (T 2)⟩,
    ⟨(some 45), (some (43, false)), 0, true, .call 29 [(T 44)]⟩,
    ⟨(some 46), (some (43, false)), 0, true, .mv (T 45)⟩,
    ⟨(some 47), (some (46, true)), 0, true, .load (some 258) (T 7)⟩,
    ⟨(some 48), (some (46, true)), 0, true, .call 29 [(T 47)]⟩,
    ⟨(some 49), (some (46, true)), 0, true, .un .not (T 48)⟩,
    ⟨(some 50), (some (46, true)), 0, true, .mv (T 49)⟩,
    ⟨(some 51), (some (50, false)), 0, true, .load (some 258) (T 7)⟩,
    ⟨(some 52), (some (50, false)), 0, true, .call 30 [(T 51)]⟩,
    ⟨(some 53), (some (46, true)), 0, true, .pick (T 50) (C (.bool true)) (T 52)⟩,
    ⟨(some 54), (some (43, false)), 0, true, .pick (T 46) (T 53) (C (.bool false))⟩,
    D 55 (.pick (T 43) (C (.bool true)) (T 54))])
  (.cond (T 55)
   (.seq (.region [
     D 4 (.mv (C (.bool false)))])
   .ret)
   .skip))
  (.seq (.seq (.region [
    D 56 (.mv (T 5)),
    D 57 (.bin .eql (T 56) (C (.int .u8 1)))])
  (.cond (T 57)
   (.seq (.region [
     D 58 (.call 26 []),
     D 4 (.mv (T 58))])
   .ret)
   .skip))
  (.seq (.region [
    D 59 (.mv (T 1)),
    D 60 (.mv (T 5)),
    D 61 (.bin .sub (T 60) (C (.int .u8 1))),
    D 62 (.iaddra 1 258 (T 7) (T 59)),
    E (.store 1 (T 62) (T 61))])
  (.seq (.region [
    D 63 (.load (some 258) (T 7)),
    D 64 (.call 28 [(T 63)]),
    D 65 (.mv (T 6)),
    D 66 (.bin .sub (T 64) (T 65)),
    D 67 (.mv (T 5)),
    D 68 (.conv .u64 (T 67)),
    D 69 (.bin .shr (C (.int .i64 32768)) (T 68)),
    D 70 (.bin .eql (T 66) (T 69)),
    D 71 (.mv (T 70)),
    ⟨(some 72), (some (71, true)), 0, true, .call 26 []⟩,
    D 73 (.pick (T 71) (T 72) (C (.bool false))),
    D 4 (.mv (T 73))])
  .ret)))))))))))), [.tmp 4]⟩
theorem ac9_ok : compFn Try.prog Try.f9 = some ac9 := by kernel_rfl
/-- a loop of winepress/winepresslaw08.KraftPairs; it keeps [4, 6, 3, 1] -/
def lb10_0 : ACode := (.seq (.seq (.region [
     D 27 (.mv (T 6)),
     D 28 (.bin .gtr (T 27) (C (.int .i64 0)))])
   (.cond (T 28)
    .skip
    (.exit 2)))
   (.seq (.block 3 (.seq (.region [
     D 31 (.mv (T 6)),
     D 32 (.iaddra 1 16 (T 3) (T 31)),
     D 33 (.load none (T 32)),
     D 34 (.bin .gtr (T 33) (C (.int .i64 0)))])
   (.cond (T 34)
    (.seq (.region [
      D 35 (.mv (T 4)),
      D 36 (.bin .eql (T 35) (C (.int .i64 258))),
      D 37 (.mv (T 36)),
      ⟨(some 38), (some (37, true)), 0, true, .mv (T 6)⟩,
      ⟨(some 39), (some (37, true)), 0, true, .iaddra 1 16 (T 3) (T 38)⟩,
      ⟨(some 40), (some (37, true)), 0, true, .load none (T 39)⟩,
      ⟨(some 41), (some (37, true)), 0, true, .bin .rem (T 40) (C (.int .i64 2))⟩,
      ⟨(some 42), (some (37, true)), 0, true, .bin .eql (T 41) (C (.int .i64 0))⟩,
      D 43 (.pick (T 37) (T 42) (C (.bool false))),
      D 44 (.mv (T 43)),
      ⟨(some 45), (some (44, true)), 0, true, .load (some 258) (T 1)⟩,
      ⟨(some 46), (some (44, true)), 0, true, .call 29 [(T 45)]⟩,
      D 47 (.pick (T 44) (T 46) (C (.bool false))),
      D 48 (.mv (T 47)),
      ⟨(some 49), (some (48, true)), 0, true, .call 26 []⟩,
      D 50 (.pick (T 48) (T 49) (C (.bool false))),
      D 2 (.mv (T 50))])
    .ret)
    .skip)))
   (.region [
     D 29 (.mv (T 6)),
     D 30 (.bin .sub (T 29) (C (.int .i64 1))),
     D 6 (.mv (T 30))])))
/-- a loop of winepress/winepresslaw08.KraftPairs; it keeps [4, 5, 1, 3] -/
def lb10_1 : ACode := (.seq (.seq (.region [
     D 18 (.mv (T 5)),
     D 19 (.bin .lss (T 18) (C (.int .i64 16)))])
   (.cond (T 19)
    .skip
    (.exit 0)))
   (.seq (.block 1 (.region [
     D 22 (.mv (T 4)),
     D 23 (.mv (T 5)),
     D 24 (.iaddra 1 16 (T 3) (T 23)),
     D 25 (.load none (T 24)),
     D 26 (.bin .add (T 22) (T 25)),
     D 4 (.mv (T 26))]))
   (.region [
     D 20 (.mv (T 5)),
     D 21 (.bin .add (T 20) (C (.int .i64 1))),
     D 5 (.mv (T 21))])))
/-- winepress/winepresslaw08.KraftPairs -/
def ac10 : AFn := ⟨(.seq (.region [
    D 1 (.box true (T 0)),
    D 2 (.mv (C (.bool false)))])
  (.seq (.seq (.region [
    D 7 (.load (some 258) (T 1)),
    D 8 (.call 30 [(T 7)]),
    D 9 (.un .not (T 8))])
  (.cond (T 9)
   (.seq (.region [
     D 10 (.load (some 258) (T 1)),
     D 11 (.call 31 [(T 10)]),
     D 12 (.un .not (T 11)),
     D 13 (.mv (T 12)),
     ⟨(some 14), (some (13, true)), 0, true, .call 26 []⟩,
     D 15 (.pick (T 13) (T 14) (C (.bool false))),
     D 2 (.mv (T 15))])
   .ret)
   .skip))
  (.seq (.region [
    D 16 (.load (some 258) (T 1)),
    D 17 (.call 33 [(T 16)]),
    D 3 (.alloc true (List.replicate 16 (.int .i64 0))),
    E (.store 16 (T 3) (T 17))])
  (.seq (.region [
    D 4 (.mv (C (.int .i64 0)))])
  (.seq (.seq (.region [
    D 5 (.mv (C (.int .i64 0)))])
  (.block 0 (.loop [4, 5, 1, 3] lb10_1)))
  (.seq (.seq (.region [
    D 6 (.mv (C (.int .i64 15)))])
  (.block 2 (.loop [4, 6, 3, 1] lb10_0)))
  (.seq (.region [
    D 2 (.mv (C (.bool false)))])
  .ret))))))), [.tmp 2]⟩
theorem ac10_ok : compFn Try.prog Try.f10 = some ac10 := by kernel_rfl
/-- winepress/winepresslaw08.KraftRoom -/
def ac11 : AFn := ⟨(.seq (.region [
    D 2 (.box true (T 0)),
    D 4 (.mv (C (.bool false)))])
  (.seq (.seq (.region [
    D 6 (.mv (T 1)),
    D 7 (.bin .lss (T 6) (C (.int .i64 0))),
    D 8 (.mv (T 7)),
    ⟨(some 9), (some (8, false)), 0, true, .mv (T 1)⟩,
    ⟨(some 10), (some (8, false)), 0, true, .bin .geq (T 9) (C (.int .i64 258))⟩,
    D 11 (.pick (T 8) (C (.bool true)) (T 10)),
    D 12 (.mv (T 11)),
    ⟨(some 13), (some (12, false)), 0, true, .mv (T 1)⟩,
    ⟨(some 14), (some (12, false)), 0, true, .iaddra 1 258 (T 2) (T 13)⟩,
    ⟨(some 15), (some (12, false)), 0, true, .load none (T 14)⟩,
    ⟨(some 16), (some (12, false)), 0, true, .bin .neq (T 15) (C (.int .u8 0))⟩,
    D 17 (.pick (T 12) (C (.bool true)) (T 16))])
  (.cond (T 17)
   (.seq (.region [
     D 18 (.call 26 []),
     D 4 (.mv (T 18))])
   .ret)
   .skip))
  (.seq (.region [
    D 19 (.load (some 258) (T 2)),
    D 5 (.alloc true (List.replicate 258 (.int .u8 0))),
    E (.store 258 (T 5) (T 19))])
  (.seq (.region [
    D 20 (.mv (T 1)),
    D 21 (.iaddra 1 258 (T 5) (T 20)),
    E (.store 1 (T 21) (C (.int .u8 15)))])
  (.seq (.drawn [
    ⟨(some 22), none, 0, false, .load (some 258) (T 5)⟩,
    ⟨(some 23), none, 1, false, .call 28 [(T 22)]⟩,
    ⟨(some 24), none, 0, false, .load (some 258) (T 2)⟩,
    ⟨(some 25), none, 7, true, .call 28 [(T 24)]⟩,
    ⟨(some 26), none, 15, false, .bin .add (T 25) (C (.int .i64 1))⟩,
    ⟨(some 27), none, 31, false, .bin .eql (T 23) (T 26)⟩,
    ⟨(some 28), none, 63, false, .mv (T 27)⟩,
    ⟨(some 29), (some (28, true)), 127, false, .load (some 258) (T 5)⟩,
    ⟨(some 30), (some (28, true)), 255, false, .call 29 [(T 29)]⟩,
    ⟨(some 31), (some (28, true)), 127, false, .load (some 258) (T 2)⟩,
    ⟨(some 32), (some (28, true)), 1023, true, .call 28 [(T 31)]⟩,
    ⟨(some 33), (some (28, true)), 2047, false, .bin .lss (T 32) (C (.int .i64 32768))⟩,
    ⟨(some 34), (some (28, true)), 4095, false, .eqs false .bool (T 30) (T 33)⟩,
    ⟨(some 35), none, 8191, false, .pick (T 28) (T 34) (C (.bool false))⟩,
    ⟨(some 36), none, 16383, false, .mv (T 35)⟩,
    ⟨(some 37), (some (36, true)), 32767, true, .call 26 []⟩,
    ⟨(some 38), none, 65535, false, .pick (T 36) (T 37) (C (.bool false))⟩,
    ⟨(some 4), none, 131071, false, .mv (T 38)⟩])
  .ret))))), [.tmp 4]⟩
theorem ac11_ok : compFn Try.prog Try.f11 = some ac11 := by kernel_rfl
/-- winepress/winepresslaw08.wakes -/
def ac26 : AFn := ⟨(.seq (.region [
    D 0 (.mv (C (.bool false)))])
  (.seq (.region [
    D 1 (.alloc true (List.replicate 258 (.int .u8 0))),
    D 2 (.alloc true (List.replicate 258 (.int .u8 0))),
    D 3 (.alloc true (List.replicate 258 (.int .u8 0))),
    D 4 (.alloc true (List.replicate 258 (.int .u8 0)))])
  (.seq (.region [
    D 7 (.iaddra 1 258 (T 1) (C (.int .i64 0))),
    E (.store 1 (T 7) (C (.int .u8 1))),
    D 8 (.iaddra 1 258 (T 1) (C (.int .i64 1))),
    E (.store 1 (T 8) (C (.int .u8 2))),
    D 9 (.iaddra 1 258 (T 1) (C (.int .i64 257))),
    E (.store 1 (T 9) (C (.int .u8 2)))])
  (.seq (.region [
    D 10 (.iaddra 1 258 (T 2) (C (.int .i64 0))),
    E (.store 1 (T 10) (C (.int .u8 1))),
    D 11 (.iaddra 1 258 (T 2) (C (.int .i64 1))),
    E (.store 1 (T 11) (C (.int .u8 1))),
    D 12 (.iaddra 1 258 (T 2) (C (.int .i64 257))),
    E (.store 1 (T 12) (C (.int .u8 15)))])
  (.seq (.region [
    D 13 (.iaddra 1 258 (T 3) (C (.int .i64 257))),
    E (.store 1 (T 13) (C (.int .u8 1)))])
  (.seq (.region [
    D 14 (.iaddra 1 258 (T 4) (C (.int .i64 5))),
    E (.store 1 (T 14) (C (.int .u8 16)))])
  (.seq (.region [
    D 15 (.load (some 258) (T 1)),
    D 16 (.call 33 [(T 15)]),
    D 5 (.alloc true (List.replicate 16 (.int .i64 0))),
    E (.store 16 (T 5) (T 16))])
  (.seq (.region [
    D 6 (.alloc true (List.replicate 258 (.int .i64 0)))])
  (.seq (.region [
    D 17 (.iaddra 1 258 (T 6) (C (.int .i64 0))),
    E (.store 1 (T 17) (C (.int .i64 5))),
    D 18 (.iaddra 1 258 (T 6) (C (.int .i64 1))),
    E (.store 1 (T 18) (C (.int .i64 2))),
    D 19 (.iaddra 1 258 (T 6) (C (.int .i64 9))),
    E (.store 1 (T 19) (C (.int .i64 7)))])
  (.seq (.region [
    D 20 (.load (some 258) (T 1)),
    D 21 (.call 28 [(T 20)]),
    D 22 (.bin .eql (T 21) (C (.int .i64 32768))),
    D 23 (.mv (T 22)),
    ⟨(some 24), (some (23, true)), 0, true, .load (some 258) (T 1)⟩,
    ⟨(some 25), (some (23, true)), 0, true, .call 29 [(T 24)]⟩,
    D 26 (.pick (T 23) (T 25) (C (.bool false))),
    D 27 (.mv (T 26)),
    ⟨(some 28), (some (27, true)), 0, true, .load (some 258) (T 1)⟩,
    ⟨(some 29), (some (27, true)), 0, true, .call 30 [(T 28)]⟩,
    D 30 (.pick (T 27) (T 29) (C (.bool false))),
    D 31 (.mv (T 30)),
    ⟨(some 32), (some (31, true)), 0, true, .load (some 258) (T 1)⟩,
    ⟨(some 33), (some (31, true)), 0, true, .call 31 [(T 32)]⟩,
    D 34 (.pick (T 31) (T 33) (C (.bool false))),
    D 35 (.mv (T 34)),
    ⟨(some 36), (some (35, true)), 0, true, .load (some 258) (T 2)⟩,
    ⟨(some 37), (some (35, true)), 0, true, .call 28 [(T 36)]⟩,
    ⟨(some 38), (some (35, true)), 0, true, .bin .eql (T 37) (C (.int .i64 32769))⟩,
    D 39 (.pick (T 35) (T 38) (C (.bool false))),
    D 40 (.mv (T 39)),
    ⟨(some 41), (some (40, true)), 0, true, .load (some 258) (T 2)⟩,
    ⟨(some 42), (some (40, true)), 0, true, .call 29 [(T 41)]⟩,
    ⟨(some 43), (some (40, true)), 0, true, .un .not (T 42)⟩,
    D 44 (.pick (T 40) (T 43) (C (.bool false))),
    D 45 (.mv (T 44)),
    ⟨(some 46), (some (45, true)), 0, true, .load (some 258) (T 2)⟩,
    ⟨(some 47), (some (45, true)), 0, true, .call 30 [(T 46)]⟩,
    ⟨(some 48), (some (45, true)), 0, true, .un .not (T 47)⟩,
    D 49 (.pick (T 45) (T 48) (C (.bool false))),
    D 50 (.mv (T 49)),
    ⟨(some 51), (some (50, true)), 0, true, .load (some 258) (T 3)⟩,
    ⟨(some 52), (some (50, true)), 0, true, .call 28 [(T 51)]⟩,
    ⟨(some 53), (some (50, true)), 0, true, .bin .eql (T 52) (C (.int .i64 16384))⟩,
    D 54 (.pick (T 50) (T 53) (C (.bool false))),
    D 55 (.mv (T 54)),
    ⟨(some 56), (some (55, true)), 0, true, .load (some 258) (T 3)⟩,
    ⟨(some 57), (some (55, true)), 0, true, .call 29 [(T 56)]⟩,
    D 58 (.pick (T 55) (T 57) (C (.bool false))),
    D 59 (.mv (T 58)),
    ⟨(some 60), (some (59, true)), 0, true, .load (some 258) (T 3)⟩,
    ⟨(some 61), (some (59, true)), 0, true, .call 30 [(T 60)]⟩,
    ⟨(some 62), (some (59, true)), 0, true, .un .not (T 61)⟩,
    D 63 (.pick (T 59) (T 62) (C (.bool false))),
    D 64 (.mv (T 63)),
    ⟨(some 65), (some (64, true)), 0, true, .load (some 258) (T 4)⟩,
    ⟨(some 66), (some (64, true)), 0, true, .call 28 [(T 65)]⟩,
    ⟨(some 67), (some (64, true)), 0, true, .bin .eql (T 66) (C (.int .i64 32769))⟩,
    D 68 (.pick (T 64) (T 67) (C (.bool false))),
    D 69 (.mv (T 68)),
    ⟨(some 70), (some (69, true)), 0, true, .load (some 258) (T 4)⟩,
    ⟨(some 71), (some (69, true)), 0, true, .call 29 [(T 70)]⟩,
    ⟨(some 72), (some (69, true)), 0, true, .un .not (T 71)⟩,
    D 73 (.pick (T 69) (T 72) (C (.bool false))),
    D 74 (.mv (T 73)),
    ⟨(some 75), (some (74, true)), 0, true, .iaddra 1 16 (T 5) (C (.int .i64 0))⟩,
    ⟨(some 76), (some (74, true)), 0, true, .load none (T 75)⟩,
    ⟨(some 77), (some (74, true)), 0, true, .bin .eql (T 76) (C (.int .i64 255))⟩,
    D 78 (.pick (T 74) (T 77) (C (.bool false))),
    D 79 (.mv (T 78)),
    ⟨(some 80), (some (79, true)), 0, true, .iaddra 1 16 (T 5) (C (.int .i64 1))⟩,
    ⟨(some 81), (some (79, true)), 0, true, .load none (T 80)⟩,
    ⟨(some 82), (some (79, true)), 0, true, .bin .eql (T 81) (C (.int .i64 1))⟩,
    D 83 (.pick (T 79) (T 82) (C (.bool false))),
    D 84 (.mv (T 83)),
    ⟨(some 85), (some (84, true)), 0, true, .iaddra 1 16 (T 5) (C (.int .i64 2))⟩,
    ⟨(some 86), (some (84, true)), 0, true, .load none (T 85)⟩,
    ⟨(some 87), (some (84, true)), 0, true, .bin .eql (T 86) (C (.int .i64 2))⟩,
    D 88 (.pick (T 84) (T 87) (C (.bool false))),
    D 89 (.mv (T 88)),
    ⟨(some 90), (some (89, true)), 0, true, .load (some 258) (T 6)⟩,
    ⟨(some 91), (some (89, true)), 0, true, .load (some 258) (T 1)⟩,
    ⟨(some 92), (some (89, true)), 0, true, .call 35 [(T 90), (T 91)]⟩,
    ⟨(some 93), (some (89, true)), 0, true, .bin .eql (T 92) (C (.int .i64 9))⟩,
    D 94 (.pick (T 89) (T 93) (C (.bool false))),
    D 95 (.mv (T 94)),
    ⟨(some 96), (some (95, true)), 0, true, .build (List.replicate 258 (.int .i64 0)) [(0, 1, (C (.int .i64 (-1))))]⟩,
    ⟨(some 97), (some (95, true)), 0, true, .load (some 258) (T 1)⟩,
    ⟨(some 98), (some (95, true)), 0, true, .call 35 [(T 96), (T 97)]⟩,
    ⟨(some 99), (some (95, true)), 0, true, .bin .eql (T 98) (C (.int .i64 0))⟩,
    D 100 (.pick (T 95) (T 99) (C (.bool false))),
    D 101 (.mv (T 100)),
    ⟨(some 102), (some (101, true)), 0, true, .load (some 258) (T 1)⟩,
    ⟨(some 103), (some (101, true)), 0, true, .load (some 258) (T 2)⟩,
    ⟨(some 104), (some (101, true)), 0, true, .load (some 258) (T 1)⟩,
    ⟨(some 105), (some (101, true)), 0, true, .bslice true 258 3 (List.replicate 774 (.int .u8 0)) [(0, 258, (T 102)), (258, 258, (T 103)), (516, 258, (T 104))]⟩,
    ⟨(some 106), (some (101, true)), 0, true, .call 37 [(T 105)]⟩,
    ⟨(some 107), (some (101, true)), 0, true, .bin .eql (T 106) (C (.int .i64 2))⟩,
    D 108 (.pick (T 101) (T 107) (C (.bool false))),
    D 0 (.mv (T 108))])
  .ret)))))))))), [.tmp 0]⟩
theorem ac26_ok : compFn Try.prog Try.f26 = some ac26 := by kernel_rfl
/-- a loop of winepress/winepressref08.Sum; it keeps [3, 4, 1] -/
def lb27_0 : ACode := (.seq (.seq (.region [
     D 5 (.mv (T 4)),
     D 6 (.bin .lss (T 5) (C (.int .i64 258)))])
   (.cond (T 6)
    .skip
    (.exit 0)))
   (.seq (.block 1 (.region [
     D 9 (.mv (T 3)),
     D 10 (.mv (T 4)),
     D 11 (.iaddra 1 258 (T 1) (T 10)),
     D 12 (.load none (T 11)),
     D 13 (.call 40 [(T 12)]),
     D 14 (.bin .add (T 9) (T 13)),
     D 3 (.mv (T 14))]))
   (.region [
     D 7 (.mv (T 4)),
     D 8 (.bin .add (T 7) (C (.int .i64 1))),
     D 4 (.mv (T 8))])))
/-- winepress/winepressref08.Sum -/
def ac27 : AFn := ⟨(.seq (.region [
    D 1 (.box true (T 0)),
    D 2 (.mv (C (.int .i64 0)))])
  (.seq (.region [
    D 3 (.mv (C (.int .i64 0)))])
  (.seq (.seq (.region [
    D 4 (.mv (C (.int .i64 0)))])
  (.block 0 (.loop [3, 4, 1] lb27_0)))
  (.seq (.region [
    D 15 (.mv (T 3)),
    D 2 (.mv (T 15))])
  .ret)))), [.tmp 2]⟩
theorem ac27_ok : compFn Try.prog Try.f27 = some ac27 := by kernel_rfl
/-- a loop of winepress/kraft.Sum; it keeps [2, 6, 5] -/
def lb28_0 : ACode := (.seq (.region [
     D 7 (.bin .lss (T 6) (C (.int .i64 258)))])
   (.seq (.cond (T 7)
    .skip
    (.exit 0))
   (.seq (.block 1 (.seq (.region [
     D 8 (.idx 1 258 none (T 5) (T 6)),
     D 4 (.mv (T 8))])
   (.region [
     D 9 (.mv (T 2)),
     D 10 (.mv (T 4)),
     D 11 (.call 41 [(T 10)]),
     D 12 (.bin .add (T 9) (T 11)),
     D 2 (.mv (T 12))])))
   (.region [
     D 13 (.bin .add (T 6) (C (.int .i64 1))),
     D 6 (.mv (T 13))]))))
/-- winepress/kraft.Sum -/
def ac28 : AFn := ⟨(.seq (.region [
    D 1 (.box true (T 0)),
    D 2 (.mv (C (.int .i64 0)))])
  (.seq (.seq (.region [
    D 5 (.load (some 258) (T 1)),
    D 6 (.mv (C (.int .i64 0)))])
  (.block 0 (.loop [2, 6, 5] lb28_0)))
  (.seq (.region [
    D 14 (.mv (T 2)),
    D 2 (.mv (T 14))])
  .ret))), [.tmp 2]⟩
theorem ac28_ok : compFn Try.prog Try.f28 = some ac28 := by kernel_rfl
/-- winepress/kraft.Fits -/
def ac29 : AFn := ⟨(.seq (.region [
    D 1 (.box true (T 0)),
    D 2 (.mv (C (.bool false)))])
  (.seq (.region [
    D 3 (.load (some 258) (T 1)),
    D 4 (.call 28 [(T 3)]),
    D 5 (.bin .leq (T 4) (C (.int .i64 32768))),
    D 2 (.mv (T 5))])
  .ret)), [.tmp 2]⟩
theorem ac29_ok : compFn Try.prog Try.f29 = some ac29 := by kernel_rfl
/-- winepress/kraft.Complete -/
def ac30 : AFn := ⟨(.seq (.region [
    D 1 (.box true (T 0)),
    D 2 (.mv (C (.bool false)))])
  (.seq (.region [
    D 3 (.load (some 258) (T 1)),
    D 4 (.call 28 [(T 3)]),
    D 5 (.bin .eql (T 4) (C (.int .i64 32768))),
    D 2 (.mv (T 5))])
  .ret)), [.tmp 2]⟩
theorem ac30_ok : compFn Try.prog Try.f30 = some ac30 := by kernel_rfl
/-- winepress/kraft.Table -/
def ac31 : AFn := ⟨(.seq (.region [
    D 1 (.box true (T 0)),
    D 2 (.mv (C (.bool false)))])
  (.seq (.region [
    D 3 (.load (some 258) (T 1)),
    D 4 (.call 30 [(T 3)]),
    D 5 (.mv (T 4)),
    ⟨(some 6), (some (5, true)), 0, true, .iaddra 1 258 (T 1) (C (.int .i64 257))⟩,
    ⟨(some 7), (some (5, true)), 0, true, .load none (T 6)⟩,
    ⟨(some 8), (some (5, true)), 0, true, .bin .gtr (T 7) (C (.int .u8 0))⟩,
    D 9 (.pick (T 5) (T 8) (C (.bool false))),
    D 2 (.mv (T 9))])
  .ret)), [.tmp 2]⟩
theorem ac31_ok : compFn Try.prog Try.f31 = some ac31 := by kernel_rfl
/-- winepress/winepressref08.Table -/
def ac32 : AFn := ⟨(.seq (.region [
    D 1 (.box true (T 0)),
    D 2 (.mv (C (.bool false)))])
  (.seq (.region [
    D 3 (.load (some 258) (T 1)),
    D 4 (.call 27 [(T 3)]),
    D 5 (.bin .eql (T 4) (C (.int .i64 32768))),
    D 6 (.mv (T 5)),
    ⟨(some 7), (some (6, true)), 0, true, .iaddra 1 258 (T 1) (C (.int .i64 257))⟩,
    ⟨(some 8), (some (6, true)), 0, true, .load none (T 7)⟩,
    ⟨(some 9), (some (6, true)), 0, true, .bin .neq (T 8) (C (.int .u8 0))⟩,
    D 10 (.pick (T 6) (T 9) (C (.bool false))),
    D 2 (.mv (T 10))])
  .ret)), [.tmp 2]⟩
theorem ac32_ok : compFn Try.prog Try.f32 = some ac32 := by kernel_rfl
/-- a loop of winepress/kraft.Counts; it keeps [6, 5, 2] -/
def lb33_0 : ACode := (.seq (.region [
     D 7 (.bin .lss (T 6) (C (.int .i64 258)))])
   (.seq (.cond (T 7)
    .skip
    (.exit 0))
   (.seq (.block 1 (.seq (.region [
     D 8 (.idx 1 258 none (T 5) (T 6)),
     D 4 (.mv (T 8))])
   (.seq (.region [
     D 9 (.mv (T 4)),
     D 10 (.conv .i64 (T 9)),
     D 11 (.bin .lss (T 10) (C (.int .i64 16)))])
   (.cond (T 11)
    (.region [
      D 12 (.mv (T 4)),
      D 13 (.iaddra 1 16 (T 2) (T 12)),
      D 14 (.load none (T 13)),
      D 15 (.bin .add (T 14) (C (.int .i64 1))),
      D 16 (.iaddra 1 16 (T 2) (T 12)),
      E (.store 1 (T 16) (T 15))])
    .skip))))
   (.region [
     D 17 (.bin .add (T 6) (C (.int .i64 1))),
     D 6 (.mv (T 17))]))))
/-- winepress/kraft.Counts -/
def ac33 : AFn := ⟨(.seq (.region [
    D 1 (.box true (T 0)),
    D 2 (.alloc true (List.replicate 16 (.int .i64 0)))])
  (.seq (.seq (.region [
    D 5 (.load (some 258) (T 1)),
    D 6 (.mv (C (.int .i64 0)))])
  (.block 0 (.loop [6, 5, 2] lb33_0)))
  (.seq (.region [
    D 18 (.load (some 16) (T 2)),
    E (.store 16 (T 2) (T 18))])
  .ret))), [.cell 2 (some 16)]⟩
theorem ac33_ok : compFn Try.prog Try.f33 = some ac33 := by kernel_rfl
/-- a loop of winepress/winepressref08.Counts; it keeps [5, 2, 1, 4, 3] -/
def lb34_0 : ACode := (.seq (.seq (.region [
      D 10 (.mv (T 5)),
      D 11 (.bin .lss (T 10) (C (.int .i64 258)))])
    (.cond (T 11)
     .skip
     (.exit 2)))
    (.seq (.block 3 (.seq (.region [
      D 14 (.mv (T 5)),
      D 15 (.iaddra 1 258 (T 1) (T 14)),
      D 16 (.load none (T 15)),
      D 17 (.conv .i64 (T 16)),
      D 18 (.mv (T 4)),
      D 19 (.bin .eql (T 17) (T 18))])
    (.cond (T 19)
     (.region [
       D 20 (.mv (T 4)),
       D 21 (.iaddra 1 16 (T 3) (T 20)),
       D 22 (.load none (T 21)),
       D 23 (.bin .add (T 22) (C (.int .i64 1))),
       D 24 (.iaddra 1 16 (T 3) (T 20)),
       E (.store 1 (T 24) (T 23))])
     .skip)))
    (.region [
      D 12 (.mv (T 5)),
      D 13 (.bin .add (T 12) (C (.int .i64 1))),
      D 5 (.mv (T 13))])))
/-- a loop of winepress/winepressref08.Counts; it keeps [2, 1, 4, 3] -/
def lb34_1 : ACode := (.seq (.seq (.region [
     D 6 (.mv (T 4)),
     D 7 (.bin .lss (T 6) (C (.int .i64 16)))])
   (.cond (T 7)
    .skip
    (.exit 0)))
   (.seq (.block 1 (.seq (.region [
     D 5 (.mv (C (.int .i64 0)))])
   (.block 2 (.loop [5, 2, 1, 4, 3] lb34_0))))
   (.region [
     D 8 (.mv (T 4)),
     D 9 (.bin .add (T 8) (C (.int .i64 1))),
     D 4 (.mv (T 9))])))
/-- winepress/winepressref08.Counts -/
def ac34 : AFn := ⟨(.seq (.region [
    D 1 (.box true (T 0)),
    D 2 (.alloc true (List.replicate 16 (.int .i64 0)))])
  (.seq (.region [
    D 3 (.alloc true (List.replicate 16 (.int .i64 0)))])
  (.seq (.seq (.region [
    D 4 (.mv (C (.int .i64 0)))])
  (.block 0 (.loop [2, 1, 4, 3] lb34_1)))
  (.seq (.region [
    D 25 (.load (some 16) (T 3)),
    E (.store 16 (T 2) (T 25))])
  .ret)))), [.cell 2 (some 16)]⟩
theorem ac34_ok : compFn Try.prog Try.f34 = some ac34 := by kernel_rfl
/-- a loop of winepress/kraft.Cost; it keeps [4, 11, 10, 3] -/
def lb35_0 : ACode := (.seq (.region [
     D 12 (.bin .lss (T 11) (C (.int .i64 258)))])
   (.seq (.cond (T 12)
    .skip
    (.exit 0))
   (.seq (.block 1 (.seq (.region [
     D 13 (.mv (T 11)),
     D 14 (.idx 1 258 none (T 10) (T 11)),
     D 5 (.mv (T 13)),
     D 6 (.mv (T 14))])
   (.region [
     D 15 (.mv (T 4)),
     D 16 (.mv (T 6)),
     D 17 (.mv (T 5)),
     D 18 (.iaddra 1 258 (T 3) (T 17)),
     D 19 (.load none (T 18)),
     D 20 (.conv .i64 (T 19)),
     D 21 (.bin .mul (T 16) (T 20)),
     D 22 (.bin .add (T 15) (T 21)),
     D 4 (.mv (T 22))])))
   (.region [
     D 23 (.bin .add (T 11) (C (.int .i64 1))),
     D 11 (.mv (T 23))]))))
/-- winepress/kraft.Cost -/
def ac35 : AFn := ⟨(.seq (.region [
    D 2 (.box true (T 0)),
    D 3 (.box true (T 1)),
    D 4 (.mv (C (.int .i64 0)))])
  (.seq (.seq (.region [
    D 7 (.load (some 258) (T 2)),
    D 8 (.call 42 [(T 7)]),
    D 9 (.un .not (T 8))])
  (.cond (T 9)
   (.seq (.region [
     D 4 (.mv (C (.int .i64 0)))])
   .ret)
   .skip))
  (.seq (.seq (.region [
    D 10 (.load (some 258) (T 2)),
    D 11 (.mv (C (.int .i64 0)))])
  (.block 0 (.loop [4, 11, 10, 3] lb35_0)))
  (.seq (.region [
    D 24 (.mv (T 4)),
    D 4 (.mv (T 24))])
  .ret)))), [.tmp 4]⟩
theorem ac35_ok : compFn Try.prog Try.f35 = some ac35 := by kernel_rfl
/-- a loop of winepress/winepressref08.Cost; it keeps [5, 6, 2, 3] -/
def lb36_0 : ACode := (.seq (.seq (.region [
     D 7 (.mv (T 6)),
     D 8 (.bin .lss (T 7) (C (.int .i64 258))),
     D 9 (.mv (T 8)),
     ⟨(some 10), (some (9, true)), 0, true, .load (some 258) (T 2)⟩,
     ⟨(some 11), (some (9, true)), 0, true, .call 43 [(T 10)]⟩,
     D 12 (.pick (T 9) (T 11) (C (.bool false)))])
   (.cond (T 12)
    .skip
    (.exit 0)))
   (.seq (.block 1 (.drawn [
     ⟨(some 15), none, 0, false, .mv (T 5)⟩,
     ⟨(some 16), none, 0, false, .mv (T 6)⟩,
     ⟨(some 17), none, 2, false, .iaddra 1 258 (T 2) (T 16)⟩,
     ⟨(some 18), none, 6, false, .load none (T 17)⟩,
     ⟨(some 19), none, 0, false, .mv (T 6)⟩,
     ⟨(some 20), none, 16, false, .iaddra 1 258 (T 3) (T 19)⟩,
     ⟨(some 21), none, 48, false, .load none (T 20)⟩,
     ⟨(some 22), none, 112, false, .conv .i64 (T 21)⟩,
     ⟨(some 23), none, 254, false, .bin .mul (T 18) (T 22)⟩,
     ⟨(some 24), none, 511, false, .bin .add (T 15) (T 23)⟩,
     ⟨(some 5), none, 1023, false, .mv (T 24)⟩]))
   (.region [
     D 13 (.mv (T 6)),
     D 14 (.bin .add (T 13) (C (.int .i64 1))),
     D 6 (.mv (T 14))])))
/-- winepress/winepressref08.Cost -/
def ac36 : AFn := ⟨(.seq (.region [
    D 2 (.box true (T 0)),
    D 3 (.box true (T 1)),
    D 4 (.mv (C (.int .i64 0)))])
  (.seq (.region [
    D 5 (.mv (C (.int .i64 0)))])
  (.seq (.seq (.region [
    D 6 (.mv (C (.int .i64 0)))])
  (.block 0 (.loop [5, 6, 2, 3] lb36_0)))
  (.seq (.region [
    D 25 (.mv (T 5)),
    D 4 (.mv (T 25))])
  .ret)))), [.tmp 4]⟩
theorem ac36_ok : compFn Try.prog Try.f36 = some ac36 := by kernel_rfl
/-- a loop of winepress/winepressref08.Different; it keeps [5, 0, 4, 3] -/
def lb38_0 : ACode := (.seq (.seq (.drawn [
      ⟨(some 12), none, 0, false, .mv (T 0)⟩,
      ⟨(some 13), none, 0, false, .mv (T 5)⟩,
      ⟨(some 14), none, 3, false, .iaddr 258 (T 12) (T 13)⟩,
      ⟨(some 15), none, 7, false, .load (some 258) (T 14)⟩,
      ⟨(some 16), none, 0, false, .mv (T 0)⟩,
      ⟨(some 17), none, 0, false, .mv (T 4)⟩,
      ⟨(some 18), none, 48, false, .iaddr 258 (T 16) (T 17)⟩,
      ⟨(some 19), none, 112, false, .load (some 258) (T 18)⟩,
      ⟨(some 20), none, 255, false, .eqs true (.agg (List.replicate 258 .nu)) (T 15) (T 19)⟩])
    (.cond (T 20)
     .skip
     (.exit 2)))
    (.block 3 (.region [
      D 21 (.mv (T 5)),
      D 22 (.bin .add (T 21) (C (.int .i64 1))),
      D 5 (.mv (T 22))])))
/-- a loop of winepress/winepressref08.Different; it keeps [0, 4, 3] -/
def lb38_1 : ACode := (.seq (.seq (.region [
     D 6 (.mv (T 4)),
     D 7 (.mv (T 0)),
     D 8 (.len (T 7)),
     D 9 (.bin .lss (T 6) (T 8))])
   (.cond (T 9)
    .skip
    (.exit 0)))
   (.seq (.block 1 (.seq (.region [
     D 5 (.mv (C (.int .i64 0)))])
   (.seq (.block 2 (.loop [5, 0, 4, 3] lb38_0))
   (.seq (.region [
     D 23 (.mv (T 5)),
     D 24 (.mv (T 4)),
     D 25 (.bin .eql (T 23) (T 24))])
   (.cond (T 25)
    (.region [
      D 26 (.mv (T 3)),
      D 27 (.bin .add (T 26) (C (.int .i64 1))),
      D 3 (.mv (T 27))])
    .skip)))))
   (.region [
     D 10 (.mv (T 4)),
     D 11 (.bin .add (T 10) (C (.int .i64 1))),
     D 4 (.mv (T 11))])))
/-- winepress/winepressref08.Different -/
def ac38 : AFn := ⟨(.seq (.region [
    D 2 (.mv (C (.int .i64 0)))])
  (.seq (.region [
    D 3 (.mv (C (.int .i64 0)))])
  (.seq (.seq (.region [
    D 4 (.mv (C (.int .i64 0)))])
  (.block 0 (.loop [0, 4, 3] lb38_1)))
  (.seq (.region [
    D 28 (.mv (T 3)),
    D 2 (.mv (T 28))])
  .ret)))), [.tmp 2]⟩
theorem ac38_ok : compFn Try.prog Try.f38 = some ac38 := by kernel_rfl
/-- a loop of winepress/winepressref08.Share; it keeps [3, 4, 0] -/
def lb40_0 : ACode := (.seq (.seq (.region [
     D 9 (.mv (T 4)),
     D 10 (.mv (T 0)),
     D 11 (.bin .lss (T 9) (T 10))])
   (.cond (T 11)
    .skip
    (.exit 0)))
   (.seq (.block 1 (.region [
     D 14 (.mv (T 3)),
     D 15 (.bin .quo (T 14) (C (.int .i64 2))),
     D 3 (.mv (T 15))]))
   (.region [
     D 12 (.mv (T 4)),
     D 13 (.bin .add (T 12) (C (.int .u8 1))),
     D 4 (.mv (T 13))])))
/-- winepress/winepressref08.Share -/
def ac40 : AFn := ⟨(.seq (.region [
    D 2 (.mv (C (.int .i64 0)))])
  (.seq (.seq (.region [
    D 5 (.mv (T 0)),
    D 6 (.bin .eql (T 5) (C (.int .u8 0)))])
  (.cond (T 6)
   (.seq (.region [
     D 2 (.mv (C (.int .i64 0)))])
   .ret)
   .skip))
  (.seq (.seq (.region [
    D 7 (.mv (T 0)),
    D 8 (.bin .gtr (T 7) (C (.int .u8 15)))])
  (.cond (T 8)
   (.seq (.region [
     D 2 (.mv (C (.int .i64 32769)))])
   .ret)
   .skip))
  (.seq (.region [
    D 3 (.mv (C (.int .i64 32768)))])
  (.seq (.seq (.region [
    D 4 (.mv (C (.int .u8 0)))])
  (.block 0 (.loop [3, 4, 0] lb40_0)))
  (.seq (.region [
    D 16 (.mv (T 3)),
    D 2 (.mv (T 16))])
  .ret)))))), [.tmp 2]⟩
theorem ac40_ok : compFn Try.prog Try.f40 = some ac40 := by kernel_rfl
/-- winepress/kraft.share -/
def ac41 : AFn := ⟨(.seq (.region [
    D 2 (.mv (C (.int .i64 0)))])
  (.seq (.block 0 (.seq (.region [
    D 4 (.mv (T 0)),
    D 5 (.bin .eql (T 4) (C (.int .u8 0))),
    D 3 (.mv (T 5))])
  (.cond (T 3)
   (.seq (.region [
     D 2 (.mv (C (.int .i64 0)))])
   .ret)
   (.seq (.region [
     D 7 (.mv (T 0)),
     D 8 (.bin .gtr (T 7) (C (.int .u8 15))),
     D 6 (.mv (T 8))])
   (.cond (T 6)
    (.seq (.region [
      D 2 (.mv (C (.int .i64 32769)))])
    .ret)
    .skip)))))
  (.seq (.region [
    D 9 (.mv (T 0)),
    D 10 (.bin .shr (C (.int .i64 32768)) (T 9)),
    D 2 (.mv (T 10))])
  .ret))), [.tmp 2]⟩
theorem ac41_ok : compFn Try.prog Try.f41 = some ac41 := by kernel_rfl
/-- a loop of winepress/histogram.Valid; it keeps [5, 6] -/
def lb42_0 : ACode := (.seq (.region [
     D 7 (.bin .lss (T 6) (C (.int .i64 258)))])
   (.seq (.cond (T 7)
    .skip
    (.exit 0))
   (.seq (.block 1 (.seq (.region [
     D 8 (.idx 1 258 none (T 5) (T 6)),
     D 4 (.mv (T 8))])
   (.seq (.region [
     D 9 (.mv (T 4)),
     D 10 (.bin .lss (T 9) (C (.int .i64 0))),
     D 11 (.mv (T 10)),
     ⟨(some 12), (some (11, false)), 0, true, .mv (T 4)⟩,
     ⟨(some 13), (some (11, false)), 0, true, .bin .gtr (T 12) (C (.int .i64 2147483647))⟩,
     D 14 (.pick (T 11) (C (.bool true)) (T 13))])
   (.cond (T 14)
    (.seq (.region [
      D 2 (.mv (C (.bool false)))])
    .ret)
    .skip))))
   (.region [
     D 15 (.bin .add (T 6) (C (.int .i64 1))),
     D 6 (.mv (T 15))]))))
/-- winepress/histogram.Valid -/
def ac42 : AFn := ⟨(.seq (.region [
    D 1 (.box true (T 0)),
    D 2 (.mv (C (.bool false)))])
  (.seq (.seq (.region [
    D 5 (.load (some 258) (T 1)),
    D 6 (.mv (C (.int .i64 0)))])
  (.block 0 (.loop [5, 6] lb42_0)))
  (.seq (.region [
    D 2 (.mv (C (.bool true)))])
  .ret))), [.tmp 2]⟩
theorem ac42_ok : compFn Try.prog Try.f42 = some ac42 := by kernel_rfl
/-- a loop of winepress/winepressref06.Valid; it keeps [1, 3] -/
def lb43_0 : ACode := (.seq (.seq (.region [
     D 4 (.mv (T 3)),
     D 5 (.bin .lss (T 4) (C (.int .i64 258)))])
   (.cond (T 5)
    .skip
    (.exit 0)))
   (.seq (.block 1 (.seq (.region [
     D 8 (.mv (T 3)),
     D 9 (.iaddra 1 258 (T 1) (T 8)),
     D 10 (.load none (T 9)),
     D 11 (.bin .lss (T 10) (C (.int .i64 0))),
     D 12 (.mv (T 11)),
     ⟨(some 13), (some (12, false)), 0, true, .mv (T 3)⟩,
     ⟨(some 14), (some (12, false)), 0, true, .iaddra 1 258 (T 1) (T 13)⟩,
     ⟨(some 15), (some (12, false)), 0, true, .load none (T 14)⟩,
     ⟨(some 16), (some (12, false)), 0, true, .bin .gtr (T 15) (C (.int .i64 2147483647))⟩,
     D 17 (.pick (T 12) (C (.bool true)) (T 16))])
   (.cond (T 17)
    (.seq (.region [
      D 2 (.mv (C (.bool false)))])
    .ret)
    .skip)))
   (.region [
     D 6 (.mv (T 3)),
     D 7 (.bin .add (T 6) (C (.int .i64 1))),
     D 3 (.mv (T 7))])))
/-- winepress/winepressref06.Valid -/
def ac43 : AFn := ⟨(.seq (.region [
    D 1 (.box true (T 0)),
    D 2 (.mv (C (.bool false)))])
  (.seq (.seq (.region [
    D 3 (.mv (C (.int .i64 0)))])
  (.block 0 (.loop [1, 3] lb43_0)))
  (.seq (.region [
    D 2 (.mv (C (.bool true)))])
  .ret))), [.tmp 2]⟩
theorem ac43_ok : compFn Try.prog Try.f43 = some ac43 := by kernel_rfl
def env0 : Env := [(8, ac8), (9, ac9), (10, ac10), (11, ac11), (26, ac26), (27, ac27), (28, ac28), (29, ac29), (30, ac30), (31, ac31), (32, ac32), (33, ac33), (34, ac34), (35, ac35), (36, ac36), (38, ac38), (40, ac40), (41, ac41), (42, ac42), (43, ac43)]
theorem env0_ok : EnvOk Try.prog env0 :=
  EnvOk.cons Try.func8 ac8_ok (of_decide_eq_true (by kernel_rfl)) <|
  EnvOk.cons Try.func9 ac9_ok (of_decide_eq_true (by kernel_rfl)) <|
  EnvOk.cons Try.func10 ac10_ok (of_decide_eq_true (by kernel_rfl)) <|
  EnvOk.cons Try.func11 ac11_ok (of_decide_eq_true (by kernel_rfl)) <|
  EnvOk.cons Try.func26 ac26_ok (of_decide_eq_true (by kernel_rfl)) <|
  EnvOk.cons Try.func27 ac27_ok (of_decide_eq_true (by kernel_rfl)) <|
  EnvOk.cons Try.func28 ac28_ok (of_decide_eq_true (by kernel_rfl)) <|
  EnvOk.cons Try.func29 ac29_ok (of_decide_eq_true (by kernel_rfl)) <|
  EnvOk.cons Try.func30 ac30_ok (of_decide_eq_true (by kernel_rfl)) <|
  EnvOk.cons Try.func31 ac31_ok (of_decide_eq_true (by kernel_rfl)) <|
  EnvOk.cons Try.func32 ac32_ok (of_decide_eq_true (by kernel_rfl)) <|
  EnvOk.cons Try.func33 ac33_ok (of_decide_eq_true (by kernel_rfl)) <|
  EnvOk.cons Try.func34 ac34_ok (of_decide_eq_true (by kernel_rfl)) <|
  EnvOk.cons Try.func35 ac35_ok (of_decide_eq_true (by kernel_rfl)) <|
  EnvOk.cons Try.func36 ac36_ok (of_decide_eq_true (by kernel_rfl)) <|
  EnvOk.cons Try.func38 ac38_ok (of_decide_eq_true (by kernel_rfl)) <|
  EnvOk.cons Try.func40 ac40_ok (of_decide_eq_true (by kernel_rfl)) <|
  EnvOk.cons Try.func41 ac41_ok (of_decide_eq_true (by kernel_rfl)) <|
  EnvOk.cons Try.func42 ac42_ok (of_decide_eq_true (by kernel_rfl)) <|
  EnvOk.cons Try.func43 ac43_ok (of_decide_eq_true (by kernel_rfl)) <|
  EnvOk.nil
theorem mixed : Try.prog.follows .mixedOrders = true := by kernel_rfl
def env1 : Env := (37, natFn diffK) :: env0
theorem env1_or : EnvOr Try.prog env1 :=
  EnvOr.cons Try.func37 (of_decide_eq_true (by kernel_rfl)) (by kernel_rfl) diff_or <|
  EnvOr.of env0_ok
def env : Env := env1
theorem env_or : EnvOr Try.prog env :=
  env1_or
theorem fn37 : env.fn 37 = some (natFn diffK) := rfl
theorem fn8 : env.fn 8 = some ac8 := rfl
theorem fn9 : env.fn 9 = some ac9 := rfl
theorem fn10 : env.fn 10 = some ac10 := rfl
theorem fn11 : env.fn 11 = some ac11 := rfl
theorem fn26 : env.fn 26 = some ac26 := rfl
theorem fn27 : env.fn 27 = some ac27 := rfl
theorem fn28 : env.fn 28 = some ac28 := rfl
theorem fn29 : env.fn 29 = some ac29 := rfl
theorem fn30 : env.fn 30 = some ac30 := rfl
theorem fn31 : env.fn 31 = some ac31 := rfl
theorem fn32 : env.fn 32 = some ac32 := rfl
theorem fn33 : env.fn 33 = some ac33 := rfl
theorem fn34 : env.fn 34 = some ac34 := rfl
theorem fn35 : env.fn 35 = some ac35 := rfl
theorem fn36 : env.fn 36 = some ac36 := rfl
theorem fn38 : env.fn 38 = some ac38 := rfl
theorem fn40 : env.fn 40 = some ac40 := rfl
theorem fn41 : env.fn 41 = some ac41 := rfl
theorem fn42 : env.fn 42 = some ac42 := rfl
theorem fn43 : env.fn 43 = some ac43 := rfl
end KrEnv
end Go.Proofs.Yteaapmfpojeibaa
