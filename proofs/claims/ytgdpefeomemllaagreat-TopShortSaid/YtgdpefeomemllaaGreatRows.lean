/-
  No cell of these rows narrows 'for every input' (looked for: loops, veiled, ifaces, maps, wideKeys, modest, calm, conditions, laid).
  DERIVED. THE GIVEN ROWS OF THIS SEAT. 6 by the template 'for every input the law returns true; each argument reads behind the call as it read before'; 0 by the template 'total and deterministic' (their statements: YtgdpefeomemllaaGreatTotals.lean).
  GIVEN WITH THE SEED: the statements are not yours to turn. If you find one false, say at which input.
  Laid BY PROGRAM, IN A SANDBOX (cutbox-rows.mjs): the forced cells as the released guide's own fill.sh prints them over the translation 30010484213b58fa… (all of the seat's roots in one cut). By AI agents, Wed Nov 11 2026. No macro, syntax, notation, axiom, sorry.
-/
import Derived.Test.YtgdpefeomemllaaGreatChecked
import GoSem.Claim
import GoSem.ClaimJoined
import GoSem.ClaimMapViews
import Derived.JoinedTies
import Derived.KernelRfl
namespace Go.Proofs.YtgdpefeomemllaaGreat
/- THE CELL 'sum', in the pinned program and in every row, IS THE sha256 OF THE DUMP (.gsa) THAT YtgdpefeomemllaaGreatProg.lean LOADS. Nothing in Lean hashes anything: it is a label: what it is worth is what the hold of that sum in a sandbox is worth. -/
noncomputable def Tryz.pinned : Pinned := { name := "ytgdpefeomemllaagreat", sum := "30010484213b58fa23f803f174cbc4a37727d0120fa1e5dbf13d27011e972985", checked := Tryz.checked }
namespace Rows
def none {H : Type} : Left H := { results := [], args := [] }

/-- 'winepresstop.TopRound': WHATEVER THE INPUT: true; the input reads as it did. -/
def topRoundSpec : ChangeSpec := { name := "topRound", fn := fun _ => fun
  | [d1, d2, d3, d4, d5, d6] => { results := [.lit (.bool true)], args := [d1, d2, d3, d4, d5, d6] }
  | _ => none }
def topRoundRow : OpenClaim := { program := "ytgdpefeomemllaagreat", sum := "30010484213b58fa23f803f174cbc4a37727d0120fa1e5dbf13d27011e972985", func := "winepress/winepresstop.TopRound", spec := "topRound", inPlace := ["internal/bytealg.IndexByte", "internal/bytealg.MakeNoZero"], unfollowed := true, recurses := true, plainKeys := false, apart := false }
def TopRoundSaid : Prop := topRoundRow.holds Tryz.pinned (OpenSpec.ofChange topRoundSpec)

/-- ITS FALSE NEIGHBOUR: 'it returns false'. Refute it at one input. -/
def topRoundWrong : ChangeSpec := { name := "topRound", fn := fun _ => fun
  | [d1, d2, d3, d4, d5, d6] => { results := [.lit (.bool false)], args := [d1, d2, d3, d4, d5, d6] }
  | _ => none }
def TopRoundWrongFalsely : Prop := topRoundRow.holds Tryz.pinned (OpenSpec.ofChange topRoundWrong)

/-- 'winepresstop.TopEngines': WHATEVER THE INPUT: true; the input reads as it did. -/
def topEnginesSpec : ChangeSpec := { name := "topEngines", fn := fun _ => fun
  | [d1, d2] => { results := [.lit (.bool true)], args := [d1, d2] }
  | _ => none }
def topEnginesRow : OpenClaim := { program := "ytgdpefeomemllaagreat", sum := "30010484213b58fa23f803f174cbc4a37727d0120fa1e5dbf13d27011e972985", func := "winepress/winepresstop.TopEngines", spec := "topEngines", inPlace := ["internal/bytealg.IndexByte", "internal/bytealg.MakeNoZero"], unfollowed := true, recurses := true, plainKeys := false, apart := false }
def TopEnginesSaid : Prop := topEnginesRow.holds Tryz.pinned (OpenSpec.ofChange topEnginesSpec)

/-- ITS FALSE NEIGHBOUR: 'it returns false'. Refute it at one input. -/
def topEnginesWrong : ChangeSpec := { name := "topEngines", fn := fun _ => fun
  | [d1, d2] => { results := [.lit (.bool false)], args := [d1, d2] }
  | _ => none }
def TopEnginesWrongFalsely : Prop := topEnginesRow.holds Tryz.pinned (OpenSpec.ofChange topEnginesWrong)

/-- 'winepresstop.TopShort': WHATEVER THE INPUT: true; the input reads as it did. -/
def topShortSpec : ChangeSpec := { name := "topShort", fn := fun _ => fun
  | [d1, d2] => { results := [.lit (.bool true)], args := [d1, d2] }
  | _ => none }
def topShortRow : OpenClaim := { program := "ytgdpefeomemllaagreat", sum := "30010484213b58fa23f803f174cbc4a37727d0120fa1e5dbf13d27011e972985", func := "winepress/winepresstop.TopShort", spec := "topShort", inPlace := ["internal/bytealg.IndexByte", "internal/bytealg.MakeNoZero"], unfollowed := true, recurses := true, plainKeys := false, apart := false }
def TopShortSaid : Prop := topShortRow.holds Tryz.pinned (OpenSpec.ofChange topShortSpec)

/-- ITS FALSE NEIGHBOUR: 'it returns false'. Refute it at one input. -/
def topShortWrong : ChangeSpec := { name := "topShort", fn := fun _ => fun
  | [d1, d2] => { results := [.lit (.bool false)], args := [d1, d2] }
  | _ => none }
def TopShortWrongFalsely : Prop := topShortRow.holds Tryz.pinned (OpenSpec.ofChange topShortWrong)

/-- 'winepresstop.TopSymbols': WHATEVER THE INPUT: true; the input reads as it did. -/
def topSymbolsSpec : ChangeSpec := { name := "topSymbols", fn := fun _ => fun
  | [d1, d2] => { results := [.lit (.bool true)], args := [d1, d2] }
  | _ => none }
def topSymbolsRow : OpenClaim := { program := "ytgdpefeomemllaagreat", sum := "30010484213b58fa23f803f174cbc4a37727d0120fa1e5dbf13d27011e972985", func := "winepress/winepresstop.TopSymbols", spec := "topSymbols", inPlace := ["internal/bytealg.IndexByte", "internal/bytealg.MakeNoZero"], unfollowed := true, recurses := true, plainKeys := false, apart := false }
def TopSymbolsSaid : Prop := topSymbolsRow.holds Tryz.pinned (OpenSpec.ofChange topSymbolsSpec)

/-- ITS FALSE NEIGHBOUR: 'it returns false'. Refute it at one input. -/
def topSymbolsWrong : ChangeSpec := { name := "topSymbols", fn := fun _ => fun
  | [d1, d2] => { results := [.lit (.bool false)], args := [d1, d2] }
  | _ => none }
def TopSymbolsWrongFalsely : Prop := topSymbolsRow.holds Tryz.pinned (OpenSpec.ofChange topSymbolsWrong)

/-- 'winepresstop.TopFront': WHATEVER THE INPUT: true; the input reads as it did. -/
def topFrontSpec : ChangeSpec := { name := "topFront", fn := fun _ => fun
  | [d1, d2, d3, d4, d5] => { results := [.lit (.bool true)], args := [d1, d2, d3, d4, d5] }
  | _ => none }
def topFrontRow : OpenClaim := { program := "ytgdpefeomemllaagreat", sum := "30010484213b58fa23f803f174cbc4a37727d0120fa1e5dbf13d27011e972985", func := "winepress/winepresstop.TopFront", spec := "topFront", inPlace := ["internal/bytealg.IndexByte", "internal/bytealg.MakeNoZero"], unfollowed := true, recurses := true, plainKeys := false, apart := false }
def TopFrontSaid : Prop := topFrontRow.holds Tryz.pinned (OpenSpec.ofChange topFrontSpec)

/-- ITS FALSE NEIGHBOUR: 'it returns false'. Refute it at one input. -/
def topFrontWrong : ChangeSpec := { name := "topFront", fn := fun _ => fun
  | [d1, d2, d3, d4, d5] => { results := [.lit (.bool false)], args := [d1, d2, d3, d4, d5] }
  | _ => none }
def TopFrontWrongFalsely : Prop := topFrontRow.holds Tryz.pinned (OpenSpec.ofChange topFrontWrong)

/-- 'winepresstop.TopHeads': WHATEVER THE INPUT: true; the input reads as it did. -/
def topHeadsSpec : ChangeSpec := { name := "topHeads", fn := fun _ => fun
  | [d1, d2] => { results := [.lit (.bool true)], args := [d1, d2] }
  | _ => none }
def topHeadsRow : OpenClaim := { program := "ytgdpefeomemllaagreat", sum := "30010484213b58fa23f803f174cbc4a37727d0120fa1e5dbf13d27011e972985", func := "winepress/winepresstop.TopHeads", spec := "topHeads", inPlace := ["internal/bytealg.IndexByte", "internal/bytealg.MakeNoZero"], unfollowed := true, recurses := true, plainKeys := false, apart := false }
def TopHeadsSaid : Prop := topHeadsRow.holds Tryz.pinned (OpenSpec.ofChange topHeadsSpec)

/-- ITS FALSE NEIGHBOUR: 'it returns false'. Refute it at one input. -/
def topHeadsWrong : ChangeSpec := { name := "topHeads", fn := fun _ => fun
  | [d1, d2] => { results := [.lit (.bool false)], args := [d1, d2] }
  | _ => none }
def TopHeadsWrongFalsely : Prop := topHeadsRow.holds Tryz.pinned (OpenSpec.ofChange topHeadsWrong)

/- THE SECOND FORM. 'bulk': how many values and letters a reading holds, each counted each time it is reached (what is shared counts as often as it is met; a slice's spare places count too). A statement '..UptoSaid' is the law's where the arguments, and the package variables that the reading takes, are together of bulk at most 1048576: NARROWER than '..Said'. Prove '..Said' where nothing that the law and all that it calls make is longer than what came in: it says more and counts as full. Else prove '..UptoSaid'. A law counts once. -/
mutual
def uptoBulk {H : Type} : DataW H → Nat
  | .lit (.string bytes) => bytes.length + 1
  | .lit _ => 1
  | .nil => 1
  | .ptr d => uptoBulk d + 1
  | .slice elems spare => uptoBulkAll elems + uptoBulkAll spare + 1
  | .agg parts => uptoBulkAll parts + 1
  | .iface _ d => uptoBulk d + 1
  | .map entries => uptoBulkEntries entries + 1
  | .held _ => 1
def uptoBulkAll {H : Type} : List (DataW H) → Nat
  | [] => 0
  | d :: r => uptoBulk d + uptoBulkAll r
def uptoBulkEntries {H : Type} : List (Lit × DataW H) → Nat
  | [] => 0
  | x :: r => uptoBulkEntry x + uptoBulkEntries r
def uptoBulkEntry {H : Type} : Lit × DataW H → Nat
  | (.string bytes, d) => bytes.length + uptoBulk d + 1
  | (_, d) => uptoBulk d + 1
 end
def uptoSmall : (H : Type) → List (DataW H) → Bool := fun _ ds => decide (uptoBulkAll ds ≤ 1048576)
def OpenSpec.upto (s : _root_.Go.ChangeSpec) : _root_.Go.OpenSpec := { _root_.Go.OpenSpec.ofChange s with cond := some uptoSmall }

/-- 'winepresstop.TopRound', WHERE WHAT IT READS IS OF BULK AT MOST 1048576: true; the input reads as it did. -/
def topRoundUptoRow : OpenClaim := { program := "ytgdpefeomemllaagreat", sum := "30010484213b58fa23f803f174cbc4a37727d0120fa1e5dbf13d27011e972985", func := "winepress/winepresstop.TopRound", spec := "topRound", inPlace := ["internal/bytealg.IndexByte", "internal/bytealg.MakeNoZero"], unfollowed := true, recurses := true, plainKeys := false, apart := false, narrowed := true }
def TopRoundUptoSaid : Prop := topRoundUptoRow.holds Tryz.pinned (OpenSpec.upto topRoundSpec)

/-- 'winepresstop.TopEngines', WHERE WHAT IT READS IS OF BULK AT MOST 1048576: true; the input reads as it did. -/
def topEnginesUptoRow : OpenClaim := { program := "ytgdpefeomemllaagreat", sum := "30010484213b58fa23f803f174cbc4a37727d0120fa1e5dbf13d27011e972985", func := "winepress/winepresstop.TopEngines", spec := "topEngines", inPlace := ["internal/bytealg.IndexByte", "internal/bytealg.MakeNoZero"], unfollowed := true, recurses := true, plainKeys := false, apart := false, narrowed := true }
def TopEnginesUptoSaid : Prop := topEnginesUptoRow.holds Tryz.pinned (OpenSpec.upto topEnginesSpec)

/-- 'winepresstop.TopShort', WHERE WHAT IT READS IS OF BULK AT MOST 1048576: true; the input reads as it did. -/
def topShortUptoRow : OpenClaim := { program := "ytgdpefeomemllaagreat", sum := "30010484213b58fa23f803f174cbc4a37727d0120fa1e5dbf13d27011e972985", func := "winepress/winepresstop.TopShort", spec := "topShort", inPlace := ["internal/bytealg.IndexByte", "internal/bytealg.MakeNoZero"], unfollowed := true, recurses := true, plainKeys := false, apart := false, narrowed := true }
def TopShortUptoSaid : Prop := topShortUptoRow.holds Tryz.pinned (OpenSpec.upto topShortSpec)

/-- 'winepresstop.TopSymbols', WHERE WHAT IT READS IS OF BULK AT MOST 1048576: true; the input reads as it did. -/
def topSymbolsUptoRow : OpenClaim := { program := "ytgdpefeomemllaagreat", sum := "30010484213b58fa23f803f174cbc4a37727d0120fa1e5dbf13d27011e972985", func := "winepress/winepresstop.TopSymbols", spec := "topSymbols", inPlace := ["internal/bytealg.IndexByte", "internal/bytealg.MakeNoZero"], unfollowed := true, recurses := true, plainKeys := false, apart := false, narrowed := true }
def TopSymbolsUptoSaid : Prop := topSymbolsUptoRow.holds Tryz.pinned (OpenSpec.upto topSymbolsSpec)

/-- 'winepresstop.TopFront', WHERE WHAT IT READS IS OF BULK AT MOST 1048576: true; the input reads as it did. -/
def topFrontUptoRow : OpenClaim := { program := "ytgdpefeomemllaagreat", sum := "30010484213b58fa23f803f174cbc4a37727d0120fa1e5dbf13d27011e972985", func := "winepress/winepresstop.TopFront", spec := "topFront", inPlace := ["internal/bytealg.IndexByte", "internal/bytealg.MakeNoZero"], unfollowed := true, recurses := true, plainKeys := false, apart := false, narrowed := true }
def TopFrontUptoSaid : Prop := topFrontUptoRow.holds Tryz.pinned (OpenSpec.upto topFrontSpec)

/-- 'winepresstop.TopHeads', WHERE WHAT IT READS IS OF BULK AT MOST 1048576: true; the input reads as it did. -/
def topHeadsUptoRow : OpenClaim := { program := "ytgdpefeomemllaagreat", sum := "30010484213b58fa23f803f174cbc4a37727d0120fa1e5dbf13d27011e972985", func := "winepress/winepresstop.TopHeads", spec := "topHeads", inPlace := ["internal/bytealg.IndexByte", "internal/bytealg.MakeNoZero"], unfollowed := true, recurses := true, plainKeys := false, apart := false, narrowed := true }
def TopHeadsUptoSaid : Prop := topHeadsUptoRow.holds Tryz.pinned (OpenSpec.upto topHeadsSpec)

end Rows
end Go.Proofs.YtgdpefeomemllaaGreat
