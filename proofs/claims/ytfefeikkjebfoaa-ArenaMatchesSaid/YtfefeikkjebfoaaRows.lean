/-
  No cell of these rows narrows 'for every input' (looked for: loops, veiled, ifaces, maps, wideKeys, modest, calm, conditions, laid).
  DERIVED. THE GIVEN ROWS OF THIS SEAT. 12 by the template 'for every input the law returns true; each argument reads behind the call as it read before'; 0 by the template 'total and deterministic' (their statements: YtfefeikkjebfoaaTotals.lean).
  GIVEN WITH THE SEED: the statements are not yours to turn. If you find one false, say at which input.
  Laid BY PROGRAM, IN A SANDBOX (cutbox-rows.mjs): the forced cells as the released guide's own fill.sh prints them over the translation 516cd1d6b9a0db35… (all of the seat's roots in one cut). By AI agents, Wed Nov 11 2026. No macro, syntax, notation, axiom, sorry.
-/
import Derived.Test.YtfefeikkjebfoaaChecked
import GoSem.Claim
import GoSem.ClaimJoined
import GoSem.ClaimMapViews
import Derived.JoinedTies
import Derived.KernelRfl
namespace Go.Proofs.Ytfefeikkjebfoaa
/- THE CELL 'sum', in the pinned program and in every row, IS THE sha256 OF THE DUMP (.gsa) THAT YtfefeikkjebfoaaProg.lean LOADS. Nothing in Lean hashes anything: it is a label: what it is worth is what the hold of that sum in a sandbox is worth. -/
noncomputable def Try.pinned : Pinned := { name := "ytfefeikkjebfoaa", sum := "516cd1d6b9a0db35e51a871c4d0b901f8c6ce33c88208ef27f79f34d16c82bcf", checked := Try.checked }
namespace Rows
def none {H : Type} : Left H := { results := [], args := [] }

/-- 'winepresslaw01.ArenaWords': WHATEVER THE INPUT: true; the input reads as it did. -/
def arenaWordsSpec : ChangeSpec := { name := "arenaWords", fn := fun _ => fun
  | [d1, d2, d3] => { results := [.lit (.bool true)], args := [d1, d2, d3] }
  | _ => none }
def arenaWordsRow : OpenClaim := { program := "ytfefeikkjebfoaa", sum := "516cd1d6b9a0db35e51a871c4d0b901f8c6ce33c88208ef27f79f34d16c82bcf", func := "winepress/winepresslaw01.ArenaWords", spec := "arenaWords", apart := false }
def ArenaWordsSaid : Prop := arenaWordsRow.holds Try.pinned (OpenSpec.ofChange arenaWordsSpec)

/-- ITS FALSE NEIGHBOUR: 'it returns false'. Refute it at one input. -/
def arenaWordsWrong : ChangeSpec := { name := "arenaWords", fn := fun _ => fun
  | [d1, d2, d3] => { results := [.lit (.bool false)], args := [d1, d2, d3] }
  | _ => none }
def ArenaWordsWrongFalsely : Prop := arenaWordsRow.holds Try.pinned (OpenSpec.ofChange arenaWordsWrong)

/-- 'winepresslaw01.ArenaReleases': WHATEVER THE INPUT: true; the input reads as it did. -/
def arenaReleasesSpec : ChangeSpec := { name := "arenaReleases", fn := fun _ => fun
  | [d1, d2, d3] => { results := [.lit (.bool true)], args := [d1, d2, d3] }
  | _ => none }
def arenaReleasesRow : OpenClaim := { program := "ytfefeikkjebfoaa", sum := "516cd1d6b9a0db35e51a871c4d0b901f8c6ce33c88208ef27f79f34d16c82bcf", func := "winepress/winepresslaw01.ArenaReleases", spec := "arenaReleases", apart := false }
def ArenaReleasesSaid : Prop := arenaReleasesRow.holds Try.pinned (OpenSpec.ofChange arenaReleasesSpec)

/-- ITS FALSE NEIGHBOUR: 'it returns false'. Refute it at one input. -/
def arenaReleasesWrong : ChangeSpec := { name := "arenaReleases", fn := fun _ => fun
  | [d1, d2, d3] => { results := [.lit (.bool false)], args := [d1, d2, d3] }
  | _ => none }
def ArenaReleasesWrongFalsely : Prop := arenaReleasesRow.holds Try.pinned (OpenSpec.ofChange arenaReleasesWrong)

/-- 'winepresslaw01.ArenaMatches': WHATEVER THE INPUT: true; the input reads as it did. -/
def arenaMatchesSpec : ChangeSpec := { name := "arenaMatches", fn := fun _ => fun
  | [d1, d2] => { results := [.lit (.bool true)], args := [d1, d2] }
  | _ => none }
def arenaMatchesRow : OpenClaim := { program := "ytfefeikkjebfoaa", sum := "516cd1d6b9a0db35e51a871c4d0b901f8c6ce33c88208ef27f79f34d16c82bcf", func := "winepress/winepresslaw01.ArenaMatches", spec := "arenaMatches", apart := false }
def ArenaMatchesSaid : Prop := arenaMatchesRow.holds Try.pinned (OpenSpec.ofChange arenaMatchesSpec)

/-- ITS FALSE NEIGHBOUR: 'it returns false'. Refute it at one input. -/
def arenaMatchesWrong : ChangeSpec := { name := "arenaMatches", fn := fun _ => fun
  | [d1, d2] => { results := [.lit (.bool false)], args := [d1, d2] }
  | _ => none }
def ArenaMatchesWrongFalsely : Prop := arenaMatchesRow.holds Try.pinned (OpenSpec.ofChange arenaMatchesWrong)

/-- 'winepresslaw01.ArenaApart': WHATEVER THE INPUT: true; the input reads as it did. -/
def arenaApartSpec : ChangeSpec := { name := "arenaApart", fn := fun _ => fun
  | [d1, d2, d3, d4] => { results := [.lit (.bool true)], args := [d1, d2, d3, d4] }
  | _ => none }
def arenaApartRow : OpenClaim := { program := "ytfefeikkjebfoaa", sum := "516cd1d6b9a0db35e51a871c4d0b901f8c6ce33c88208ef27f79f34d16c82bcf", func := "winepress/winepresslaw01.ArenaApart", spec := "arenaApart", apart := false }
def ArenaApartSaid : Prop := arenaApartRow.holds Try.pinned (OpenSpec.ofChange arenaApartSpec)

/-- ITS FALSE NEIGHBOUR: 'it returns false'. Refute it at one input. -/
def arenaApartWrong : ChangeSpec := { name := "arenaApart", fn := fun _ => fun
  | [d1, d2, d3, d4] => { results := [.lit (.bool false)], args := [d1, d2, d3, d4] }
  | _ => none }
def ArenaApartWrongFalsely : Prop := arenaApartRow.holds Try.pinned (OpenSpec.ofChange arenaApartWrong)

/-- 'winepresslaw01.ArenaOverlaps': WHATEVER THE INPUT: true; the input reads as it did. -/
def arenaOverlapsSpec : ChangeSpec := { name := "arenaOverlaps", fn := fun _ => fun
  | [d1, d2, d3, d4, d5] => { results := [.lit (.bool true)], args := [d1, d2, d3, d4, d5] }
  | _ => none }
def arenaOverlapsRow : OpenClaim := { program := "ytfefeikkjebfoaa", sum := "516cd1d6b9a0db35e51a871c4d0b901f8c6ce33c88208ef27f79f34d16c82bcf", func := "winepress/winepresslaw01.ArenaOverlaps", spec := "arenaOverlaps", apart := false }
def ArenaOverlapsSaid : Prop := arenaOverlapsRow.holds Try.pinned (OpenSpec.ofChange arenaOverlapsSpec)

/-- ITS FALSE NEIGHBOUR: 'it returns false'. Refute it at one input. -/
def arenaOverlapsWrong : ChangeSpec := { name := "arenaOverlaps", fn := fun _ => fun
  | [d1, d2, d3, d4, d5] => { results := [.lit (.bool false)], args := [d1, d2, d3, d4, d5] }
  | _ => none }
def ArenaOverlapsWrongFalsely : Prop := arenaOverlapsRow.holds Try.pinned (OpenSpec.ofChange arenaOverlapsWrong)

/-- 'winepresslaw18.BwtInplaceEnds': WHATEVER THE INPUT: true; the input reads as it did. -/
def bwtInplaceEndsSpec : ChangeSpec := { name := "bwtInplaceEnds", fn := fun _ => fun
  | [d] => { results := [.lit (.bool true)], args := [d] }
  | _ => none }
def bwtInplaceEndsRow : OpenClaim := { program := "ytfefeikkjebfoaa", sum := "516cd1d6b9a0db35e51a871c4d0b901f8c6ce33c88208ef27f79f34d16c82bcf", func := "winepress/winepresslaw18.BwtInplaceEnds", spec := "bwtInplaceEnds", apart := false }
def BwtInplaceEndsSaid : Prop := bwtInplaceEndsRow.holds Try.pinned (OpenSpec.ofChange bwtInplaceEndsSpec)

/-- ITS FALSE NEIGHBOUR: 'it returns false'. Refute it at one input. -/
def bwtInplaceEndsWrong : ChangeSpec := { name := "bwtInplaceEnds", fn := fun _ => fun
  | [d] => { results := [.lit (.bool false)], args := [d] }
  | _ => none }
def BwtInplaceEndsWrongFalsely : Prop := bwtInplaceEndsRow.holds Try.pinned (OpenSpec.ofChange bwtInplaceEndsWrong)

/-- 'winepresslaw18.BwtInplacePush': WHATEVER THE INPUT: true; the input reads as it did. -/
def bwtInplacePushSpec : ChangeSpec := { name := "bwtInplacePush", fn := fun _ => fun
  | [d] => { results := [.lit (.bool true)], args := [d] }
  | _ => none }
def bwtInplacePushRow : OpenClaim := { program := "ytfefeikkjebfoaa", sum := "516cd1d6b9a0db35e51a871c4d0b901f8c6ce33c88208ef27f79f34d16c82bcf", func := "winepress/winepresslaw18.BwtInplacePush", spec := "bwtInplacePush", apart := false }
def BwtInplacePushSaid : Prop := bwtInplacePushRow.holds Try.pinned (OpenSpec.ofChange bwtInplacePushSpec)

/-- ITS FALSE NEIGHBOUR: 'it returns false'. Refute it at one input. -/
def bwtInplacePushWrong : ChangeSpec := { name := "bwtInplacePush", fn := fun _ => fun
  | [d] => { results := [.lit (.bool false)], args := [d] }
  | _ => none }
def BwtInplacePushWrongFalsely : Prop := bwtInplacePushRow.holds Try.pinned (OpenSpec.ofChange bwtInplacePushWrong)

/-- 'winepresslaw18.BwtInplaceMatches': WHATEVER THE INPUT: true; the input reads as it did. -/
def bwtInplaceMatchesSpec : ChangeSpec := { name := "bwtInplaceMatches", fn := fun _ => fun
  | [d1, d2, d3, d4, d5] => { results := [.lit (.bool true)], args := [d1, d2, d3, d4, d5] }
  | _ => none }
def bwtInplaceMatchesRow : OpenClaim := { program := "ytfefeikkjebfoaa", sum := "516cd1d6b9a0db35e51a871c4d0b901f8c6ce33c88208ef27f79f34d16c82bcf", func := "winepress/winepresslaw18.BwtInplaceMatches", spec := "bwtInplaceMatches", apart := false }
def BwtInplaceMatchesSaid : Prop := bwtInplaceMatchesRow.holds Try.pinned (OpenSpec.ofChange bwtInplaceMatchesSpec)

/-- ITS FALSE NEIGHBOUR: 'it returns false'. Refute it at one input. -/
def bwtInplaceMatchesWrong : ChangeSpec := { name := "bwtInplaceMatches", fn := fun _ => fun
  | [d1, d2, d3, d4, d5] => { results := [.lit (.bool false)], args := [d1, d2, d3, d4, d5] }
  | _ => none }
def BwtInplaceMatchesWrongFalsely : Prop := bwtInplaceMatchesRow.holds Try.pinned (OpenSpec.ofChange bwtInplaceMatchesWrong)

/-- 'winepresslaw20.RankMatches': WHATEVER THE INPUT: true; the input reads as it did. -/
def rankMatchesSpec : ChangeSpec := { name := "rankMatches", fn := fun _ => fun
  | [d1, d2, d3, d4, d5, d6, d7] => { results := [.lit (.bool true)], args := [d1, d2, d3, d4, d5, d6, d7] }
  | _ => none }
def rankMatchesRow : OpenClaim := { program := "ytfefeikkjebfoaa", sum := "516cd1d6b9a0db35e51a871c4d0b901f8c6ce33c88208ef27f79f34d16c82bcf", func := "winepress/winepresslaw20.RankMatches", spec := "rankMatches", apart := false }
def RankMatchesSaid : Prop := rankMatchesRow.holds Try.pinned (OpenSpec.ofChange rankMatchesSpec)

/-- ITS FALSE NEIGHBOUR: 'it returns false'. Refute it at one input. -/
def rankMatchesWrong : ChangeSpec := { name := "rankMatches", fn := fun _ => fun
  | [d1, d2, d3, d4, d5, d6, d7] => { results := [.lit (.bool false)], args := [d1, d2, d3, d4, d5, d6, d7] }
  | _ => none }
def RankMatchesWrongFalsely : Prop := rankMatchesRow.holds Try.pinned (OpenSpec.ofChange rankMatchesWrong)

/-- 'winepresslaw20.RankCounts': WHATEVER THE INPUT: true; the input reads as it did. -/
def rankCountsSpec : ChangeSpec := { name := "rankCounts", fn := fun _ => fun
  | [d1, d2, d3] => { results := [.lit (.bool true)], args := [d1, d2, d3] }
  | _ => none }
def rankCountsRow : OpenClaim := { program := "ytfefeikkjebfoaa", sum := "516cd1d6b9a0db35e51a871c4d0b901f8c6ce33c88208ef27f79f34d16c82bcf", func := "winepress/winepresslaw20.RankCounts", spec := "rankCounts", apart := false }
def RankCountsSaid : Prop := rankCountsRow.holds Try.pinned (OpenSpec.ofChange rankCountsSpec)

/-- ITS FALSE NEIGHBOUR: 'it returns false'. Refute it at one input. -/
def rankCountsWrong : ChangeSpec := { name := "rankCounts", fn := fun _ => fun
  | [d1, d2, d3] => { results := [.lit (.bool false)], args := [d1, d2, d3] }
  | _ => none }
def RankCountsWrongFalsely : Prop := rankCountsRow.holds Try.pinned (OpenSpec.ofChange rankCountsWrong)

/-- 'winepresslaw20.RankSums': WHATEVER THE INPUT: true; the input reads as it did. -/
def rankSumsSpec : ChangeSpec := { name := "rankSums", fn := fun _ => fun
  | [d1, d2, d3] => { results := [.lit (.bool true)], args := [d1, d2, d3] }
  | _ => none }
def rankSumsRow : OpenClaim := { program := "ytfefeikkjebfoaa", sum := "516cd1d6b9a0db35e51a871c4d0b901f8c6ce33c88208ef27f79f34d16c82bcf", func := "winepress/winepresslaw20.RankSums", spec := "rankSums", apart := false }
def RankSumsSaid : Prop := rankSumsRow.holds Try.pinned (OpenSpec.ofChange rankSumsSpec)

/-- ITS FALSE NEIGHBOUR: 'it returns false'. Refute it at one input. -/
def rankSumsWrong : ChangeSpec := { name := "rankSums", fn := fun _ => fun
  | [d1, d2, d3] => { results := [.lit (.bool false)], args := [d1, d2, d3] }
  | _ => none }
def RankSumsWrongFalsely : Prop := rankSumsRow.holds Try.pinned (OpenSpec.ofChange rankSumsWrong)

/-- 'winepresslaw20.RankSize': WHATEVER THE INPUT: true; the input reads as it did. -/
def rankSizeSpec : ChangeSpec := { name := "rankSize", fn := fun _ => fun
  | [d1, d2] => { results := [.lit (.bool true)], args := [d1, d2] }
  | _ => none }
def rankSizeRow : OpenClaim := { program := "ytfefeikkjebfoaa", sum := "516cd1d6b9a0db35e51a871c4d0b901f8c6ce33c88208ef27f79f34d16c82bcf", func := "winepress/winepresslaw20.RankSize", spec := "rankSize", apart := false }
def RankSizeSaid : Prop := rankSizeRow.holds Try.pinned (OpenSpec.ofChange rankSizeSpec)

/-- ITS FALSE NEIGHBOUR: 'it returns false'. Refute it at one input. -/
def rankSizeWrong : ChangeSpec := { name := "rankSize", fn := fun _ => fun
  | [d1, d2] => { results := [.lit (.bool false)], args := [d1, d2] }
  | _ => none }
def RankSizeWrongFalsely : Prop := rankSizeRow.holds Try.pinned (OpenSpec.ofChange rankSizeWrong)

/- THE SECOND FORM. 'bulk': how many values and letters a reading holds, each counted each time it is reached (what is shared counts as often as it is met; a slice's spare places count too). A statement '..UptoSaid' is the law's where the arguments, and the package variables that the reading takes, are together of bulk at most 1048576: NARROWER than '..Said'. Prove '..Said' where nothing that the law and all that it calls make is longer than what came in: it says more and counts as full. Else prove '..UptoSaid'. A law counts once. -/
mutual
def uptoBulk {H : Type} : DataW H → Nat
  | .lit (.string bytes) => bytes.length + 1
  | .lit _ => 1
  | .nil => 1
  | .ptr d => uptoBulk d + 1
  | .slice elems spare => uptoBulkAll elems + uptoBulkAll spare + 1
  | .agg parts => uptoBulkAll parts + 1
  | .iface _ d => uptoBulk d + 1
  | .map entries => uptoBulkEntries entries + 1
  | .held _ => 1
def uptoBulkAll {H : Type} : List (DataW H) → Nat
  | [] => 0
  | d :: r => uptoBulk d + uptoBulkAll r
def uptoBulkEntries {H : Type} : List (Lit × DataW H) → Nat
  | [] => 0
  | x :: r => uptoBulkEntry x + uptoBulkEntries r
def uptoBulkEntry {H : Type} : Lit × DataW H → Nat
  | (.string bytes, d) => bytes.length + uptoBulk d + 1
  | (_, d) => uptoBulk d + 1
 end
def uptoSmall : (H : Type) → List (DataW H) → Bool := fun _ ds => decide (uptoBulkAll ds ≤ 1048576)
def OpenSpec.upto (s : _root_.Go.ChangeSpec) : _root_.Go.OpenSpec := { _root_.Go.OpenSpec.ofChange s with cond := some uptoSmall }

/-- 'winepresslaw01.ArenaWords', WHERE WHAT IT READS IS OF BULK AT MOST 1048576: true; the input reads as it did. -/
def arenaWordsUptoRow : OpenClaim := { program := "ytfefeikkjebfoaa", sum := "516cd1d6b9a0db35e51a871c4d0b901f8c6ce33c88208ef27f79f34d16c82bcf", func := "winepress/winepresslaw01.ArenaWords", spec := "arenaWords", apart := false, narrowed := true }
def ArenaWordsUptoSaid : Prop := arenaWordsUptoRow.holds Try.pinned (OpenSpec.upto arenaWordsSpec)

/-- 'winepresslaw01.ArenaReleases', WHERE WHAT IT READS IS OF BULK AT MOST 1048576: true; the input reads as it did. -/
def arenaReleasesUptoRow : OpenClaim := { program := "ytfefeikkjebfoaa", sum := "516cd1d6b9a0db35e51a871c4d0b901f8c6ce33c88208ef27f79f34d16c82bcf", func := "winepress/winepresslaw01.ArenaReleases", spec := "arenaReleases", apart := false, narrowed := true }
def ArenaReleasesUptoSaid : Prop := arenaReleasesUptoRow.holds Try.pinned (OpenSpec.upto arenaReleasesSpec)

/-- 'winepresslaw01.ArenaMatches', WHERE WHAT IT READS IS OF BULK AT MOST 1048576: true; the input reads as it did. -/
def arenaMatchesUptoRow : OpenClaim := { program := "ytfefeikkjebfoaa", sum := "516cd1d6b9a0db35e51a871c4d0b901f8c6ce33c88208ef27f79f34d16c82bcf", func := "winepress/winepresslaw01.ArenaMatches", spec := "arenaMatches", apart := false, narrowed := true }
def ArenaMatchesUptoSaid : Prop := arenaMatchesUptoRow.holds Try.pinned (OpenSpec.upto arenaMatchesSpec)

/-- 'winepresslaw01.ArenaApart', WHERE WHAT IT READS IS OF BULK AT MOST 1048576: true; the input reads as it did. -/
def arenaApartUptoRow : OpenClaim := { program := "ytfefeikkjebfoaa", sum := "516cd1d6b9a0db35e51a871c4d0b901f8c6ce33c88208ef27f79f34d16c82bcf", func := "winepress/winepresslaw01.ArenaApart", spec := "arenaApart", apart := false, narrowed := true }
def ArenaApartUptoSaid : Prop := arenaApartUptoRow.holds Try.pinned (OpenSpec.upto arenaApartSpec)

/-- 'winepresslaw01.ArenaOverlaps', WHERE WHAT IT READS IS OF BULK AT MOST 1048576: true; the input reads as it did. -/
def arenaOverlapsUptoRow : OpenClaim := { program := "ytfefeikkjebfoaa", sum := "516cd1d6b9a0db35e51a871c4d0b901f8c6ce33c88208ef27f79f34d16c82bcf", func := "winepress/winepresslaw01.ArenaOverlaps", spec := "arenaOverlaps", apart := false, narrowed := true }
def ArenaOverlapsUptoSaid : Prop := arenaOverlapsUptoRow.holds Try.pinned (OpenSpec.upto arenaOverlapsSpec)

/-- 'winepresslaw18.BwtInplaceEnds', WHERE WHAT IT READS IS OF BULK AT MOST 1048576: true; the input reads as it did. -/
def bwtInplaceEndsUptoRow : OpenClaim := { program := "ytfefeikkjebfoaa", sum := "516cd1d6b9a0db35e51a871c4d0b901f8c6ce33c88208ef27f79f34d16c82bcf", func := "winepress/winepresslaw18.BwtInplaceEnds", spec := "bwtInplaceEnds", apart := false, narrowed := true }
def BwtInplaceEndsUptoSaid : Prop := bwtInplaceEndsUptoRow.holds Try.pinned (OpenSpec.upto bwtInplaceEndsSpec)

/-- 'winepresslaw18.BwtInplacePush', WHERE WHAT IT READS IS OF BULK AT MOST 1048576: true; the input reads as it did. -/
def bwtInplacePushUptoRow : OpenClaim := { program := "ytfefeikkjebfoaa", sum := "516cd1d6b9a0db35e51a871c4d0b901f8c6ce33c88208ef27f79f34d16c82bcf", func := "winepress/winepresslaw18.BwtInplacePush", spec := "bwtInplacePush", apart := false, narrowed := true }
def BwtInplacePushUptoSaid : Prop := bwtInplacePushUptoRow.holds Try.pinned (OpenSpec.upto bwtInplacePushSpec)

/-- 'winepresslaw18.BwtInplaceMatches', WHERE WHAT IT READS IS OF BULK AT MOST 1048576: true; the input reads as it did. -/
def bwtInplaceMatchesUptoRow : OpenClaim := { program := "ytfefeikkjebfoaa", sum := "516cd1d6b9a0db35e51a871c4d0b901f8c6ce33c88208ef27f79f34d16c82bcf", func := "winepress/winepresslaw18.BwtInplaceMatches", spec := "bwtInplaceMatches", apart := false, narrowed := true }
def BwtInplaceMatchesUptoSaid : Prop := bwtInplaceMatchesUptoRow.holds Try.pinned (OpenSpec.upto bwtInplaceMatchesSpec)

/-- 'winepresslaw20.RankMatches', WHERE WHAT IT READS IS OF BULK AT MOST 1048576: true; the input reads as it did. -/
def rankMatchesUptoRow : OpenClaim := { program := "ytfefeikkjebfoaa", sum := "516cd1d6b9a0db35e51a871c4d0b901f8c6ce33c88208ef27f79f34d16c82bcf", func := "winepress/winepresslaw20.RankMatches", spec := "rankMatches", apart := false, narrowed := true }
def RankMatchesUptoSaid : Prop := rankMatchesUptoRow.holds Try.pinned (OpenSpec.upto rankMatchesSpec)

/-- 'winepresslaw20.RankCounts', WHERE WHAT IT READS IS OF BULK AT MOST 1048576: true; the input reads as it did. -/
def rankCountsUptoRow : OpenClaim := { program := "ytfefeikkjebfoaa", sum := "516cd1d6b9a0db35e51a871c4d0b901f8c6ce33c88208ef27f79f34d16c82bcf", func := "winepress/winepresslaw20.RankCounts", spec := "rankCounts", apart := false, narrowed := true }
def RankCountsUptoSaid : Prop := rankCountsUptoRow.holds Try.pinned (OpenSpec.upto rankCountsSpec)

/-- 'winepresslaw20.RankSums', WHERE WHAT IT READS IS OF BULK AT MOST 1048576: true; the input reads as it did. -/
def rankSumsUptoRow : OpenClaim := { program := "ytfefeikkjebfoaa", sum := "516cd1d6b9a0db35e51a871c4d0b901f8c6ce33c88208ef27f79f34d16c82bcf", func := "winepress/winepresslaw20.RankSums", spec := "rankSums", apart := false, narrowed := true }
def RankSumsUptoSaid : Prop := rankSumsUptoRow.holds Try.pinned (OpenSpec.upto rankSumsSpec)

/-- 'winepresslaw20.RankSize', WHERE WHAT IT READS IS OF BULK AT MOST 1048576: true; the input reads as it did. -/
def rankSizeUptoRow : OpenClaim := { program := "ytfefeikkjebfoaa", sum := "516cd1d6b9a0db35e51a871c4d0b901f8c6ce33c88208ef27f79f34d16c82bcf", func := "winepress/winepresslaw20.RankSize", spec := "rankSize", apart := false, narrowed := true }
def RankSizeUptoSaid : Prop := rankSizeUptoRow.holds Try.pinned (OpenSpec.upto rankSizeSpec)

end Rows
end Go.Proofs.Ytfefeikkjebfoaa
