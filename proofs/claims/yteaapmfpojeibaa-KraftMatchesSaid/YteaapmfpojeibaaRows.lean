/-
  No cell of these rows narrows 'for every input' (looked for: loops, veiled, ifaces, maps, wideKeys, modest, calm, conditions, laid).
  DERIVED. THE GIVEN ROWS OF THIS SEAT. 9 by the template 'for every input the law returns true; each argument reads behind the call as it read before'; 0 by the template 'total and deterministic' (their statements: YteaapmfpojeibaaTotals.lean).
  GIVEN WITH THE SEED: the statements are not yours to turn. If you find one false, say at which input.
  Laid BY PROGRAM, IN A SANDBOX (cutbox-rows.mjs): the forced cells as the released guide's own fill.sh prints them over the translation 6355623b4fa9ead7… (all of the seat's roots in one cut). By AI agents, Wed Nov 11 2026. No macro, syntax, notation, axiom, sorry.
-/
import Derived.Test.YteaapmfpojeibaaChecked
import GoSem.Claim
import GoSem.ClaimJoined
import GoSem.ClaimMapViews
import Derived.JoinedTies
import Derived.KernelRfl
namespace Go.Proofs.Yteaapmfpojeibaa
/- THE CELL 'sum', in the pinned program and in every row, IS THE sha256 OF THE DUMP (.gsa) THAT YteaapmfpojeibaaProg.lean LOADS. Nothing in Lean hashes anything: it is a label: what it is worth is what the hold of that sum in a sandbox is worth. -/
noncomputable def Try.pinned : Pinned := { name := "yteaapmfpojeibaa", sum := "6355623b4fa9ead7819e59b5628890e36e8fb60a04bc5617543d63d8da7acfc1", checked := Try.checked }
namespace Rows
def none {H : Type} : Left H := { results := [], args := [] }

/-- 'winepresslaw04.CrcMatches': WHATEVER THE INPUT: true; the input reads as it did. -/
def crcMatchesSpec : ChangeSpec := { name := "crcMatches", fn := fun _ => fun
  | [d1, d2, d3, d4] => { results := [.lit (.bool true)], args := [d1, d2, d3, d4] }
  | _ => none }
def crcMatchesRow : OpenClaim := { program := "yteaapmfpojeibaa", sum := "6355623b4fa9ead7819e59b5628890e36e8fb60a04bc5617543d63d8da7acfc1", func := "winepress/winepresslaw04.CrcMatches", spec := "crcMatches", plainKeys := false, apart := false }
def CrcMatchesSaid : Prop := crcMatchesRow.holds Try.pinned (OpenSpec.ofChange crcMatchesSpec)

/-- ITS FALSE NEIGHBOUR: 'it returns false'. Refute it at one input. -/
def crcMatchesWrong : ChangeSpec := { name := "crcMatches", fn := fun _ => fun
  | [d1, d2, d3, d4] => { results := [.lit (.bool false)], args := [d1, d2, d3, d4] }
  | _ => none }
def CrcMatchesWrongFalsely : Prop := crcMatchesRow.holds Try.pinned (OpenSpec.ofChange crcMatchesWrong)

/-- 'winepresslaw04.CrcParts': WHATEVER THE INPUT: true; the input reads as it did. -/
def crcPartsSpec : ChangeSpec := { name := "crcParts", fn := fun _ => fun
  | [d1, d2, d3] => { results := [.lit (.bool true)], args := [d1, d2, d3] }
  | _ => none }
def crcPartsRow : OpenClaim := { program := "yteaapmfpojeibaa", sum := "6355623b4fa9ead7819e59b5628890e36e8fb60a04bc5617543d63d8da7acfc1", func := "winepress/winepresslaw04.CrcParts", spec := "crcParts", plainKeys := false, apart := false }
def CrcPartsSaid : Prop := crcPartsRow.holds Try.pinned (OpenSpec.ofChange crcPartsSpec)

/-- ITS FALSE NEIGHBOUR: 'it returns false'. Refute it at one input. -/
def crcPartsWrong : ChangeSpec := { name := "crcParts", fn := fun _ => fun
  | [d1, d2, d3] => { results := [.lit (.bool false)], args := [d1, d2, d3] }
  | _ => none }
def CrcPartsWrongFalsely : Prop := crcPartsRow.holds Try.pinned (OpenSpec.ofChange crcPartsWrong)

/-- 'winepresslaw04.CrcSums': WHATEVER THE INPUT: true; the input reads as it did. -/
def crcSumsSpec : ChangeSpec := { name := "crcSums", fn := fun _ => fun
  | [d1, d2, d3] => { results := [.lit (.bool true)], args := [d1, d2, d3] }
  | _ => none }
def crcSumsRow : OpenClaim := { program := "yteaapmfpojeibaa", sum := "6355623b4fa9ead7819e59b5628890e36e8fb60a04bc5617543d63d8da7acfc1", func := "winepress/winepresslaw04.CrcSums", spec := "crcSums", plainKeys := false, apart := false }
def CrcSumsSaid : Prop := crcSumsRow.holds Try.pinned (OpenSpec.ofChange crcSumsSpec)

/-- ITS FALSE NEIGHBOUR: 'it returns false'. Refute it at one input. -/
def crcSumsWrong : ChangeSpec := { name := "crcSums", fn := fun _ => fun
  | [d1, d2, d3] => { results := [.lit (.bool false)], args := [d1, d2, d3] }
  | _ => none }
def CrcSumsWrongFalsely : Prop := crcSumsRow.holds Try.pinned (OpenSpec.ofChange crcSumsWrong)

/-- 'winepresslaw04.CrcBurst': WHATEVER THE INPUT: true; the input reads as it did. -/
def crcBurstSpec : ChangeSpec := { name := "crcBurst", fn := fun _ => fun
  | [d1, d2, d3] => { results := [.lit (.bool true)], args := [d1, d2, d3] }
  | _ => none }
def crcBurstRow : OpenClaim := { program := "yteaapmfpojeibaa", sum := "6355623b4fa9ead7819e59b5628890e36e8fb60a04bc5617543d63d8da7acfc1", func := "winepress/winepresslaw04.CrcBurst", spec := "crcBurst", plainKeys := false, apart := false }
def CrcBurstSaid : Prop := crcBurstRow.holds Try.pinned (OpenSpec.ofChange crcBurstSpec)

/-- ITS FALSE NEIGHBOUR: 'it returns false'. Refute it at one input. -/
def crcBurstWrong : ChangeSpec := { name := "crcBurst", fn := fun _ => fun
  | [d1, d2, d3] => { results := [.lit (.bool false)], args := [d1, d2, d3] }
  | _ => none }
def CrcBurstWrongFalsely : Prop := crcBurstRow.holds Try.pinned (OpenSpec.ofChange crcBurstWrong)

/-- 'winepresslaw04.CrcBack': WHATEVER THE INPUT: true; the input reads as it did. -/
def crcBackSpec : ChangeSpec := { name := "crcBack", fn := fun _ => fun
  | [d1, d2] => { results := [.lit (.bool true)], args := [d1, d2] }
  | _ => none }
def crcBackRow : OpenClaim := { program := "yteaapmfpojeibaa", sum := "6355623b4fa9ead7819e59b5628890e36e8fb60a04bc5617543d63d8da7acfc1", func := "winepress/winepresslaw04.CrcBack", spec := "crcBack", plainKeys := false, apart := false }
def CrcBackSaid : Prop := crcBackRow.holds Try.pinned (OpenSpec.ofChange crcBackSpec)

/-- ITS FALSE NEIGHBOUR: 'it returns false'. Refute it at one input. -/
def crcBackWrong : ChangeSpec := { name := "crcBack", fn := fun _ => fun
  | [d1, d2] => { results := [.lit (.bool false)], args := [d1, d2] }
  | _ => none }
def CrcBackWrongFalsely : Prop := crcBackRow.holds Try.pinned (OpenSpec.ofChange crcBackWrong)

/-- 'winepresslaw08.KraftMatches': WHATEVER THE INPUT: true; the input reads as it did. -/
def kraftMatchesSpec : ChangeSpec := { name := "kraftMatches", fn := fun _ => fun
  | [d1, d2, d3] => { results := [.lit (.bool true)], args := [d1, d2, d3] }
  | _ => none }
def kraftMatchesRow : OpenClaim := { program := "yteaapmfpojeibaa", sum := "6355623b4fa9ead7819e59b5628890e36e8fb60a04bc5617543d63d8da7acfc1", func := "winepress/winepresslaw08.KraftMatches", spec := "kraftMatches", plainKeys := false, apart := false }
def KraftMatchesSaid : Prop := kraftMatchesRow.holds Try.pinned (OpenSpec.ofChange kraftMatchesSpec)

/-- ITS FALSE NEIGHBOUR: 'it returns false'. Refute it at one input. -/
def kraftMatchesWrong : ChangeSpec := { name := "kraftMatches", fn := fun _ => fun
  | [d1, d2, d3] => { results := [.lit (.bool false)], args := [d1, d2, d3] }
  | _ => none }
def KraftMatchesWrongFalsely : Prop := kraftMatchesRow.holds Try.pinned (OpenSpec.ofChange kraftMatchesWrong)

/-- 'winepresslaw08.KraftLonger': WHATEVER THE INPUT: true; the input reads as it did. -/
def kraftLongerSpec : ChangeSpec := { name := "kraftLonger", fn := fun _ => fun
  | [d1, d2] => { results := [.lit (.bool true)], args := [d1, d2] }
  | _ => none }
def kraftLongerRow : OpenClaim := { program := "yteaapmfpojeibaa", sum := "6355623b4fa9ead7819e59b5628890e36e8fb60a04bc5617543d63d8da7acfc1", func := "winepress/winepresslaw08.KraftLonger", spec := "kraftLonger", plainKeys := false, apart := false }
def KraftLongerSaid : Prop := kraftLongerRow.holds Try.pinned (OpenSpec.ofChange kraftLongerSpec)

/-- ITS FALSE NEIGHBOUR: 'it returns false'. Refute it at one input. -/
def kraftLongerWrong : ChangeSpec := { name := "kraftLonger", fn := fun _ => fun
  | [d1, d2] => { results := [.lit (.bool false)], args := [d1, d2] }
  | _ => none }
def KraftLongerWrongFalsely : Prop := kraftLongerRow.holds Try.pinned (OpenSpec.ofChange kraftLongerWrong)

/-- 'winepresslaw08.KraftPairs': WHATEVER THE INPUT: true; the input reads as it did. -/
def kraftPairsSpec : ChangeSpec := { name := "kraftPairs", fn := fun _ => fun
  | [d] => { results := [.lit (.bool true)], args := [d] }
  | _ => none }
def kraftPairsRow : OpenClaim := { program := "yteaapmfpojeibaa", sum := "6355623b4fa9ead7819e59b5628890e36e8fb60a04bc5617543d63d8da7acfc1", func := "winepress/winepresslaw08.KraftPairs", spec := "kraftPairs", plainKeys := false, apart := false }
def KraftPairsSaid : Prop := kraftPairsRow.holds Try.pinned (OpenSpec.ofChange kraftPairsSpec)

/-- ITS FALSE NEIGHBOUR: 'it returns false'. Refute it at one input. -/
def kraftPairsWrong : ChangeSpec := { name := "kraftPairs", fn := fun _ => fun
  | [d] => { results := [.lit (.bool false)], args := [d] }
  | _ => none }
def KraftPairsWrongFalsely : Prop := kraftPairsRow.holds Try.pinned (OpenSpec.ofChange kraftPairsWrong)

/-- 'winepresslaw08.KraftRoom': WHATEVER THE INPUT: true; the input reads as it did. -/
def kraftRoomSpec : ChangeSpec := { name := "kraftRoom", fn := fun _ => fun
  | [d1, d2] => { results := [.lit (.bool true)], args := [d1, d2] }
  | _ => none }
def kraftRoomRow : OpenClaim := { program := "yteaapmfpojeibaa", sum := "6355623b4fa9ead7819e59b5628890e36e8fb60a04bc5617543d63d8da7acfc1", func := "winepress/winepresslaw08.KraftRoom", spec := "kraftRoom", plainKeys := false, apart := false }
def KraftRoomSaid : Prop := kraftRoomRow.holds Try.pinned (OpenSpec.ofChange kraftRoomSpec)

/-- ITS FALSE NEIGHBOUR: 'it returns false'. Refute it at one input. -/
def kraftRoomWrong : ChangeSpec := { name := "kraftRoom", fn := fun _ => fun
  | [d1, d2] => { results := [.lit (.bool false)], args := [d1, d2] }
  | _ => none }
def KraftRoomWrongFalsely : Prop := kraftRoomRow.holds Try.pinned (OpenSpec.ofChange kraftRoomWrong)

/- THE SECOND FORM. 'bulk': how many values and letters a reading holds, each counted each time it is reached (what is shared counts as often as it is met; a slice's spare places count too). A statement '..UptoSaid' is the law's where the arguments, and the package variables that the reading takes, are together of bulk at most 1048576: NARROWER than '..Said'. Prove '..Said' where nothing that the law and all that it calls make is longer than what came in: it says more and counts as full. Else prove '..UptoSaid'. A law counts once. -/
mutual
def uptoBulk {H : Type} : DataW H → Nat
  | .lit (.string bytes) => bytes.length + 1
  | .lit _ => 1
  | .nil => 1
  | .ptr d => uptoBulk d + 1
  | .slice elems spare => uptoBulkAll elems + uptoBulkAll spare + 1
  | .agg parts => uptoBulkAll parts + 1
  | .iface _ d => uptoBulk d + 1
  | .map entries => uptoBulkEntries entries + 1
  | .held _ => 1
def uptoBulkAll {H : Type} : List (DataW H) → Nat
  | [] => 0
  | d :: r => uptoBulk d + uptoBulkAll r
def uptoBulkEntries {H : Type} : List (Lit × DataW H) → Nat
  | [] => 0
  | x :: r => uptoBulkEntry x + uptoBulkEntries r
def uptoBulkEntry {H : Type} : Lit × DataW H → Nat
  | (.string bytes, d) => bytes.length + uptoBulk d + 1
  | (_, d) => uptoBulk d + 1
 end
def uptoSmall : (H : Type) → List (DataW H) → Bool := fun _ ds => decide (uptoBulkAll ds ≤ 1048576)
def OpenSpec.upto (s : _root_.Go.ChangeSpec) : _root_.Go.OpenSpec := { _root_.Go.OpenSpec.ofChange s with cond := some uptoSmall }

/-- 'winepresslaw04.CrcMatches', WHERE WHAT IT READS IS OF BULK AT MOST 1048576: true; the input reads as it did. -/
def crcMatchesUptoRow : OpenClaim := { program := "yteaapmfpojeibaa", sum := "6355623b4fa9ead7819e59b5628890e36e8fb60a04bc5617543d63d8da7acfc1", func := "winepress/winepresslaw04.CrcMatches", spec := "crcMatches", plainKeys := false, apart := false, narrowed := true }
def CrcMatchesUptoSaid : Prop := crcMatchesUptoRow.holds Try.pinned (OpenSpec.upto crcMatchesSpec)

/-- 'winepresslaw04.CrcParts', WHERE WHAT IT READS IS OF BULK AT MOST 1048576: true; the input reads as it did. -/
def crcPartsUptoRow : OpenClaim := { program := "yteaapmfpojeibaa", sum := "6355623b4fa9ead7819e59b5628890e36e8fb60a04bc5617543d63d8da7acfc1", func := "winepress/winepresslaw04.CrcParts", spec := "crcParts", plainKeys := false, apart := false, narrowed := true }
def CrcPartsUptoSaid : Prop := crcPartsUptoRow.holds Try.pinned (OpenSpec.upto crcPartsSpec)

/-- 'winepresslaw04.CrcSums', WHERE WHAT IT READS IS OF BULK AT MOST 1048576: true; the input reads as it did. -/
def crcSumsUptoRow : OpenClaim := { program := "yteaapmfpojeibaa", sum := "6355623b4fa9ead7819e59b5628890e36e8fb60a04bc5617543d63d8da7acfc1", func := "winepress/winepresslaw04.CrcSums", spec := "crcSums", plainKeys := false, apart := false, narrowed := true }
def CrcSumsUptoSaid : Prop := crcSumsUptoRow.holds Try.pinned (OpenSpec.upto crcSumsSpec)

/-- 'winepresslaw04.CrcBurst', WHERE WHAT IT READS IS OF BULK AT MOST 1048576: true; the input reads as it did. -/
def crcBurstUptoRow : OpenClaim := { program := "yteaapmfpojeibaa", sum := "6355623b4fa9ead7819e59b5628890e36e8fb60a04bc5617543d63d8da7acfc1", func := "winepress/winepresslaw04.CrcBurst", spec := "crcBurst", plainKeys := false, apart := false, narrowed := true }
def CrcBurstUptoSaid : Prop := crcBurstUptoRow.holds Try.pinned (OpenSpec.upto crcBurstSpec)

/-- 'winepresslaw04.CrcBack', WHERE WHAT IT READS IS OF BULK AT MOST 1048576: true; the input reads as it did. -/
def crcBackUptoRow : OpenClaim := { program := "yteaapmfpojeibaa", sum := "6355623b4fa9ead7819e59b5628890e36e8fb60a04bc5617543d63d8da7acfc1", func := "winepress/winepresslaw04.CrcBack", spec := "crcBack", plainKeys := false, apart := false, narrowed := true }
def CrcBackUptoSaid : Prop := crcBackUptoRow.holds Try.pinned (OpenSpec.upto crcBackSpec)

/-- 'winepresslaw08.KraftMatches', WHERE WHAT IT READS IS OF BULK AT MOST 1048576: true; the input reads as it did. -/
def kraftMatchesUptoRow : OpenClaim := { program := "yteaapmfpojeibaa", sum := "6355623b4fa9ead7819e59b5628890e36e8fb60a04bc5617543d63d8da7acfc1", func := "winepress/winepresslaw08.KraftMatches", spec := "kraftMatches", plainKeys := false, apart := false, narrowed := true }
def KraftMatchesUptoSaid : Prop := kraftMatchesUptoRow.holds Try.pinned (OpenSpec.upto kraftMatchesSpec)

/-- 'winepresslaw08.KraftLonger', WHERE WHAT IT READS IS OF BULK AT MOST 1048576: true; the input reads as it did. -/
def kraftLongerUptoRow : OpenClaim := { program := "yteaapmfpojeibaa", sum := "6355623b4fa9ead7819e59b5628890e36e8fb60a04bc5617543d63d8da7acfc1", func := "winepress/winepresslaw08.KraftLonger", spec := "kraftLonger", plainKeys := false, apart := false, narrowed := true }
def KraftLongerUptoSaid : Prop := kraftLongerUptoRow.holds Try.pinned (OpenSpec.upto kraftLongerSpec)

/-- 'winepresslaw08.KraftPairs', WHERE WHAT IT READS IS OF BULK AT MOST 1048576: true; the input reads as it did. -/
def kraftPairsUptoRow : OpenClaim := { program := "yteaapmfpojeibaa", sum := "6355623b4fa9ead7819e59b5628890e36e8fb60a04bc5617543d63d8da7acfc1", func := "winepress/winepresslaw08.KraftPairs", spec := "kraftPairs", plainKeys := false, apart := false, narrowed := true }
def KraftPairsUptoSaid : Prop := kraftPairsUptoRow.holds Try.pinned (OpenSpec.upto kraftPairsSpec)

/-- 'winepresslaw08.KraftRoom', WHERE WHAT IT READS IS OF BULK AT MOST 1048576: true; the input reads as it did. -/
def kraftRoomUptoRow : OpenClaim := { program := "yteaapmfpojeibaa", sum := "6355623b4fa9ead7819e59b5628890e36e8fb60a04bc5617543d63d8da7acfc1", func := "winepress/winepresslaw08.KraftRoom", spec := "kraftRoom", plainKeys := false, apart := false, narrowed := true }
def KraftRoomUptoSaid : Prop := kraftRoomUptoRow.holds Try.pinned (OpenSpec.upto kraftRoomSpec)

end Rows
end Go.Proofs.Yteaapmfpojeibaa
