/-
  No cell of these rows narrows 'for every input' (looked for: loops, veiled, ifaces, maps, wideKeys, modest, calm, conditions, laid).
  DERIVED. THE GIVEN ROWS OF THIS SEAT. 7 by the template 'for every input the law returns true; each argument reads behind the call as it read before'; 0 by the template 'total and deterministic' (their statements: YtlphmnhkkhcjfaaTotals.lean).
  GIVEN WITH THE SEED: the statements are not yours to turn. If you find one false, say at which input.
  Laid BY PROGRAM, IN A SANDBOX (cutbox-rows.mjs): the forced cells as the released guide's own fill.sh prints them over the translation 6bc7b8855a39073f… (all of the seat's roots in one cut). By AI agents, Wed Nov 11 2026. No macro, syntax, notation, axiom, sorry.
-/
import Derived.Test.YtlphmnhkkhcjfaaChecked
import GoSem.Claim
import GoSem.ClaimJoined
import GoSem.ClaimMapViews
import Derived.JoinedTies
import Derived.KernelRfl
namespace Go.Proofs.Ytlphmnhkkhcjfaa
/- THE CELL 'sum', in the pinned program and in every row, IS THE sha256 OF THE DUMP (.gsa) THAT YtlphmnhkkhcjfaaProg.lean LOADS. Nothing in Lean hashes anything: it is a label: what it is worth is what the hold of that sum in a sandbox is worth. -/
noncomputable def Try.pinned : Pinned := { name := "ytlphmnhkkhcjfaa", sum := "6bc7b8855a39073f1aff56aecadd324aee1b2074094f7355938fe9a10db8053e", checked := Try.checked }
namespace Rows
def none {H : Type} : Left H := { results := [], args := [] }

/-- 'winepresslaw10.LengthTableBack': WHATEVER THE INPUT: true; the input reads as it did. -/
def lengthTableBackSpec : ChangeSpec := { name := "lengthTableBack", fn := fun _ => fun
  | [d1, d2, d3] => { results := [.lit (.bool true)], args := [d1, d2, d3] }
  | _ => none }
def lengthTableBackRow : OpenClaim := { program := "ytlphmnhkkhcjfaa", sum := "6bc7b8855a39073f1aff56aecadd324aee1b2074094f7355938fe9a10db8053e", func := "winepress/winepresslaw10.LengthTableBack", spec := "lengthTableBack", unfollowed := true, recurses := true, apart := false }
def LengthTableBackSaid : Prop := lengthTableBackRow.holds Try.pinned (OpenSpec.ofChange lengthTableBackSpec)

/-- ITS FALSE NEIGHBOUR: 'it returns false'. Refute it at one input. -/
def lengthTableBackWrong : ChangeSpec := { name := "lengthTableBack", fn := fun _ => fun
  | [d1, d2, d3] => { results := [.lit (.bool false)], args := [d1, d2, d3] }
  | _ => none }
def LengthTableBackWrongFalsely : Prop := lengthTableBackRow.holds Try.pinned (OpenSpec.ofChange lengthTableBackWrong)

/-- 'winepresslaw10.LengthTableAny': WHATEVER THE INPUT: true; the input reads as it did. -/
def lengthTableAnySpec : ChangeSpec := { name := "lengthTableAny", fn := fun _ => fun
  | [d] => { results := [.lit (.bool true)], args := [d] }
  | _ => none }
def lengthTableAnyRow : OpenClaim := { program := "ytlphmnhkkhcjfaa", sum := "6bc7b8855a39073f1aff56aecadd324aee1b2074094f7355938fe9a10db8053e", func := "winepress/winepresslaw10.LengthTableAny", spec := "lengthTableAny", unfollowed := true, recurses := true, apart := false }
def LengthTableAnySaid : Prop := lengthTableAnyRow.holds Try.pinned (OpenSpec.ofChange lengthTableAnySpec)

/-- ITS FALSE NEIGHBOUR: 'it returns false'. Refute it at one input. -/
def lengthTableAnyWrong : ChangeSpec := { name := "lengthTableAny", fn := fun _ => fun
  | [d] => { results := [.lit (.bool false)], args := [d] }
  | _ => none }
def LengthTableAnyWrongFalsely : Prop := lengthTableAnyRow.holds Try.pinned (OpenSpec.ofChange lengthTableAnyWrong)

/-- 'winepresslaw10.LengthTableWays': WHATEVER THE INPUT: true; the input reads as it did. -/
def lengthTableWaysSpec : ChangeSpec := { name := "lengthTableWays", fn := fun _ => fun
  | [d1, d2, d3] => { results := [.lit (.bool true)], args := [d1, d2, d3] }
  | _ => none }
def lengthTableWaysRow : OpenClaim := { program := "ytlphmnhkkhcjfaa", sum := "6bc7b8855a39073f1aff56aecadd324aee1b2074094f7355938fe9a10db8053e", func := "winepress/winepresslaw10.LengthTableWays", spec := "lengthTableWays", unfollowed := true, recurses := true, apart := false }
def LengthTableWaysSaid : Prop := lengthTableWaysRow.holds Try.pinned (OpenSpec.ofChange lengthTableWaysSpec)

/-- ITS FALSE NEIGHBOUR: 'it returns false'. Refute it at one input. -/
def lengthTableWaysWrong : ChangeSpec := { name := "lengthTableWays", fn := fun _ => fun
  | [d1, d2, d3] => { results := [.lit (.bool false)], args := [d1, d2, d3] }
  | _ => none }
def LengthTableWaysWrongFalsely : Prop := lengthTableWaysRow.holds Try.pinned (OpenSpec.ofChange lengthTableWaysWrong)

/-- 'winepresslaw10.LengthTableMatches': WHATEVER THE INPUT: true; the input reads as it did. -/
def lengthTableMatchesSpec : ChangeSpec := { name := "lengthTableMatches", fn := fun _ => fun
  | [d1, d2, d3, d4] => { results := [.lit (.bool true)], args := [d1, d2, d3, d4] }
  | _ => none }
def lengthTableMatchesRow : OpenClaim := { program := "ytlphmnhkkhcjfaa", sum := "6bc7b8855a39073f1aff56aecadd324aee1b2074094f7355938fe9a10db8053e", func := "winepress/winepresslaw10.LengthTableMatches", spec := "lengthTableMatches", unfollowed := true, recurses := true, apart := false }
def LengthTableMatchesSaid : Prop := lengthTableMatchesRow.holds Try.pinned (OpenSpec.ofChange lengthTableMatchesSpec)

/-- ITS FALSE NEIGHBOUR: 'it returns false'. Refute it at one input. -/
def lengthTableMatchesWrong : ChangeSpec := { name := "lengthTableMatches", fn := fun _ => fun
  | [d1, d2, d3, d4] => { results := [.lit (.bool false)], args := [d1, d2, d3, d4] }
  | _ => none }
def LengthTableMatchesWrongFalsely : Prop := lengthTableMatchesRow.holds Try.pinned (OpenSpec.ofChange lengthTableMatchesWrong)

/-- 'winepresslaw19.BwtBucketRooms': WHATEVER THE INPUT: true; the input reads as it did. -/
def bwtBucketRoomsSpec : ChangeSpec := { name := "bwtBucketRooms", fn := fun _ => fun
  | [d1, d2, d3] => { results := [.lit (.bool true)], args := [d1, d2, d3] }
  | _ => none }
def bwtBucketRoomsRow : OpenClaim := { program := "ytlphmnhkkhcjfaa", sum := "6bc7b8855a39073f1aff56aecadd324aee1b2074094f7355938fe9a10db8053e", func := "winepress/winepresslaw19.BwtBucketRooms", spec := "bwtBucketRooms", unfollowed := true, recurses := true, apart := false }
def BwtBucketRoomsSaid : Prop := bwtBucketRoomsRow.holds Try.pinned (OpenSpec.ofChange bwtBucketRoomsSpec)

/-- ITS FALSE NEIGHBOUR: 'it returns false'. Refute it at one input. -/
def bwtBucketRoomsWrong : ChangeSpec := { name := "bwtBucketRooms", fn := fun _ => fun
  | [d1, d2, d3] => { results := [.lit (.bool false)], args := [d1, d2, d3] }
  | _ => none }
def BwtBucketRoomsWrongFalsely : Prop := bwtBucketRoomsRow.holds Try.pinned (OpenSpec.ofChange bwtBucketRoomsWrong)

/-- 'winepresslaw19.BwtBucketPlaced': WHATEVER THE INPUT: true; the input reads as it did. -/
def bwtBucketPlacedSpec : ChangeSpec := { name := "bwtBucketPlaced", fn := fun _ => fun
  | [d1, d2, d3, d4] => { results := [.lit (.bool true)], args := [d1, d2, d3, d4] }
  | _ => none }
def bwtBucketPlacedRow : OpenClaim := { program := "ytlphmnhkkhcjfaa", sum := "6bc7b8855a39073f1aff56aecadd324aee1b2074094f7355938fe9a10db8053e", func := "winepress/winepresslaw19.BwtBucketPlaced", spec := "bwtBucketPlaced", unfollowed := true, recurses := true, apart := false }
def BwtBucketPlacedSaid : Prop := bwtBucketPlacedRow.holds Try.pinned (OpenSpec.ofChange bwtBucketPlacedSpec)

/-- ITS FALSE NEIGHBOUR: 'it returns false'. Refute it at one input. -/
def bwtBucketPlacedWrong : ChangeSpec := { name := "bwtBucketPlaced", fn := fun _ => fun
  | [d1, d2, d3, d4] => { results := [.lit (.bool false)], args := [d1, d2, d3, d4] }
  | _ => none }
def BwtBucketPlacedWrongFalsely : Prop := bwtBucketPlacedRow.holds Try.pinned (OpenSpec.ofChange bwtBucketPlacedWrong)

/-- 'winepresslaw19.BwtBucketMatches': WHATEVER THE INPUT: true; the input reads as it did. -/
def bwtBucketMatchesSpec : ChangeSpec := { name := "bwtBucketMatches", fn := fun _ => fun
  | [d1, d2, d3, d4, d5, d6, d7] => { results := [.lit (.bool true)], args := [d1, d2, d3, d4, d5, d6, d7] }
  | _ => none }
def bwtBucketMatchesRow : OpenClaim := { program := "ytlphmnhkkhcjfaa", sum := "6bc7b8855a39073f1aff56aecadd324aee1b2074094f7355938fe9a10db8053e", func := "winepress/winepresslaw19.BwtBucketMatches", spec := "bwtBucketMatches", unfollowed := true, recurses := true, apart := false }
def BwtBucketMatchesSaid : Prop := bwtBucketMatchesRow.holds Try.pinned (OpenSpec.ofChange bwtBucketMatchesSpec)

/-- ITS FALSE NEIGHBOUR: 'it returns false'. Refute it at one input. -/
def bwtBucketMatchesWrong : ChangeSpec := { name := "bwtBucketMatches", fn := fun _ => fun
  | [d1, d2, d3, d4, d5, d6, d7] => { results := [.lit (.bool false)], args := [d1, d2, d3, d4, d5, d6, d7] }
  | _ => none }
def BwtBucketMatchesWrongFalsely : Prop := bwtBucketMatchesRow.holds Try.pinned (OpenSpec.ofChange bwtBucketMatchesWrong)

/- THE SECOND FORM. 'bulk': how many values and letters a reading holds, each counted each time it is reached (what is shared counts as often as it is met; a slice's spare places count too). A statement '..UptoSaid' is the law's where the arguments, and the package variables that the reading takes, are together of bulk at most 1048576: NARROWER than '..Said'. Prove '..Said' where nothing that the law and all that it calls make is longer than what came in: it says more and counts as full. Else prove '..UptoSaid'. A law counts once. -/
mutual
def uptoBulk {H : Type} : DataW H → Nat
  | .lit (.string bytes) => bytes.length + 1
  | .lit _ => 1
  | .nil => 1
  | .ptr d => uptoBulk d + 1
  | .slice elems spare => uptoBulkAll elems + uptoBulkAll spare + 1
  | .agg parts => uptoBulkAll parts + 1
  | .iface _ d => uptoBulk d + 1
  | .map entries => uptoBulkEntries entries + 1
  | .held _ => 1
def uptoBulkAll {H : Type} : List (DataW H) → Nat
  | [] => 0
  | d :: r => uptoBulk d + uptoBulkAll r
def uptoBulkEntries {H : Type} : List (Lit × DataW H) → Nat
  | [] => 0
  | x :: r => uptoBulkEntry x + uptoBulkEntries r
def uptoBulkEntry {H : Type} : Lit × DataW H → Nat
  | (.string bytes, d) => bytes.length + uptoBulk d + 1
  | (_, d) => uptoBulk d + 1
 end
def uptoSmall : (H : Type) → List (DataW H) → Bool := fun _ ds => decide (uptoBulkAll ds ≤ 1048576)
def OpenSpec.upto (s : _root_.Go.ChangeSpec) : _root_.Go.OpenSpec := { _root_.Go.OpenSpec.ofChange s with cond := some uptoSmall }

/-- 'winepresslaw10.LengthTableBack', WHERE WHAT IT READS IS OF BULK AT MOST 1048576: true; the input reads as it did. -/
def lengthTableBackUptoRow : OpenClaim := { program := "ytlphmnhkkhcjfaa", sum := "6bc7b8855a39073f1aff56aecadd324aee1b2074094f7355938fe9a10db8053e", func := "winepress/winepresslaw10.LengthTableBack", spec := "lengthTableBack", unfollowed := true, recurses := true, apart := false, narrowed := true }
def LengthTableBackUptoSaid : Prop := lengthTableBackUptoRow.holds Try.pinned (OpenSpec.upto lengthTableBackSpec)

/-- 'winepresslaw10.LengthTableAny', WHERE WHAT IT READS IS OF BULK AT MOST 1048576: true; the input reads as it did. -/
def lengthTableAnyUptoRow : OpenClaim := { program := "ytlphmnhkkhcjfaa", sum := "6bc7b8855a39073f1aff56aecadd324aee1b2074094f7355938fe9a10db8053e", func := "winepress/winepresslaw10.LengthTableAny", spec := "lengthTableAny", unfollowed := true, recurses := true, apart := false, narrowed := true }
def LengthTableAnyUptoSaid : Prop := lengthTableAnyUptoRow.holds Try.pinned (OpenSpec.upto lengthTableAnySpec)

/-- 'winepresslaw10.LengthTableWays', WHERE WHAT IT READS IS OF BULK AT MOST 1048576: true; the input reads as it did. -/
def lengthTableWaysUptoRow : OpenClaim := { program := "ytlphmnhkkhcjfaa", sum := "6bc7b8855a39073f1aff56aecadd324aee1b2074094f7355938fe9a10db8053e", func := "winepress/winepresslaw10.LengthTableWays", spec := "lengthTableWays", unfollowed := true, recurses := true, apart := false, narrowed := true }
def LengthTableWaysUptoSaid : Prop := lengthTableWaysUptoRow.holds Try.pinned (OpenSpec.upto lengthTableWaysSpec)

/-- 'winepresslaw10.LengthTableMatches', WHERE WHAT IT READS IS OF BULK AT MOST 1048576: true; the input reads as it did. -/
def lengthTableMatchesUptoRow : OpenClaim := { program := "ytlphmnhkkhcjfaa", sum := "6bc7b8855a39073f1aff56aecadd324aee1b2074094f7355938fe9a10db8053e", func := "winepress/winepresslaw10.LengthTableMatches", spec := "lengthTableMatches", unfollowed := true, recurses := true, apart := false, narrowed := true }
def LengthTableMatchesUptoSaid : Prop := lengthTableMatchesUptoRow.holds Try.pinned (OpenSpec.upto lengthTableMatchesSpec)

/-- 'winepresslaw19.BwtBucketRooms', WHERE WHAT IT READS IS OF BULK AT MOST 1048576: true; the input reads as it did. -/
def bwtBucketRoomsUptoRow : OpenClaim := { program := "ytlphmnhkkhcjfaa", sum := "6bc7b8855a39073f1aff56aecadd324aee1b2074094f7355938fe9a10db8053e", func := "winepress/winepresslaw19.BwtBucketRooms", spec := "bwtBucketRooms", unfollowed := true, recurses := true, apart := false, narrowed := true }
def BwtBucketRoomsUptoSaid : Prop := bwtBucketRoomsUptoRow.holds Try.pinned (OpenSpec.upto bwtBucketRoomsSpec)

/-- 'winepresslaw19.BwtBucketPlaced', WHERE WHAT IT READS IS OF BULK AT MOST 1048576: true; the input reads as it did. -/
def bwtBucketPlacedUptoRow : OpenClaim := { program := "ytlphmnhkkhcjfaa", sum := "6bc7b8855a39073f1aff56aecadd324aee1b2074094f7355938fe9a10db8053e", func := "winepress/winepresslaw19.BwtBucketPlaced", spec := "bwtBucketPlaced", unfollowed := true, recurses := true, apart := false, narrowed := true }
def BwtBucketPlacedUptoSaid : Prop := bwtBucketPlacedUptoRow.holds Try.pinned (OpenSpec.upto bwtBucketPlacedSpec)

/-- 'winepresslaw19.BwtBucketMatches', WHERE WHAT IT READS IS OF BULK AT MOST 1048576: true; the input reads as it did. -/
def bwtBucketMatchesUptoRow : OpenClaim := { program := "ytlphmnhkkhcjfaa", sum := "6bc7b8855a39073f1aff56aecadd324aee1b2074094f7355938fe9a10db8053e", func := "winepress/winepresslaw19.BwtBucketMatches", spec := "bwtBucketMatches", unfollowed := true, recurses := true, apart := false, narrowed := true }
def BwtBucketMatchesUptoSaid : Prop := bwtBucketMatchesUptoRow.holds Try.pinned (OpenSpec.upto bwtBucketMatchesSpec)

end Rows
end Go.Proofs.Ytlphmnhkkhcjfaa
