/-
  No cell of these rows narrows 'for every input' (looked for: loops, veiled, ifaces, maps, wideKeys, modest, calm, conditions, laid).
  DERIVED. THE GIVEN ROWS OF THIS SEAT. 4 by the template 'for every input the law returns true; each argument reads behind the call as it read before'; 0 by the template 'total and deterministic' (their statements: YtpjjkmfidghkjaaTotals.lean).
  GIVEN WITH THE SEED: the statements are not yours to turn. If you find one false, say at which input.
  Laid BY PROGRAM, IN A SANDBOX (cutbox-rows.mjs): the forced cells as the released guide's own fill.sh prints them over the translation beda339bd8d85983… (all of the seat's roots in one cut). By AI agents, Wed Nov 11 2026. No macro, syntax, notation, axiom, sorry.
-/
import Derived.Test.YtpjjkmfidghkjaaChecked
import GoSem.Claim
import GoSem.ClaimJoined
import GoSem.ClaimMapViews
import Derived.JoinedTies
import Derived.KernelRfl
namespace Go.Proofs.Ytpjjkmfidghkjaa
/- THE CELL 'sum', in the pinned program and in every row, IS THE sha256 OF THE DUMP (.gsa) THAT YtpjjkmfidghkjaaProg.lean LOADS. Nothing in Lean hashes anything: it is a label: what it is worth is what the hold of that sum in a sandbox is worth. -/
noncomputable def Try.pinned : Pinned := { name := "ytpjjkmfidghkjaa", sum := "beda339bd8d859839ea21cbd498c2dec3c3cee52f1a636b54d7dec7c37608c69", checked := Try.checked }
namespace Rows
def none {H : Type} : Left H := { results := [], args := [] }

/-- 'winepresslaw24.HeaderMatches': WHATEVER THE INPUT: true; the input reads as it did. -/
def headerMatchesSpec : ChangeSpec := { name := "headerMatches", fn := fun _ => fun
  | [d1, d2, d3, d4, d5, d6, d7] => { results := [.lit (.bool true)], args := [d1, d2, d3, d4, d5, d6, d7] }
  | _ => none }
def headerMatchesRow : OpenClaim := { program := "ytpjjkmfidghkjaa", sum := "beda339bd8d859839ea21cbd498c2dec3c3cee52f1a636b54d7dec7c37608c69", func := "winepress/winepresslaw24.HeaderMatches", spec := "headerMatches", unfollowed := true, recurses := true, apart := false }
def HeaderMatchesSaid : Prop := headerMatchesRow.holds Try.pinned (OpenSpec.ofChange headerMatchesSpec)

/-- ITS FALSE NEIGHBOUR: 'it returns false'. Refute it at one input. -/
def headerMatchesWrong : ChangeSpec := { name := "headerMatches", fn := fun _ => fun
  | [d1, d2, d3, d4, d5, d6, d7] => { results := [.lit (.bool false)], args := [d1, d2, d3, d4, d5, d6, d7] }
  | _ => none }
def HeaderMatchesWrongFalsely : Prop := headerMatchesRow.holds Try.pinned (OpenSpec.ofChange headerMatchesWrong)

/-- 'winepresslaw24.HeaderBack': WHATEVER THE INPUT: true; the input reads as it did. -/
def headerBackSpec : ChangeSpec := { name := "headerBack", fn := fun _ => fun
  | [d1, d2, d3, d4] => { results := [.lit (.bool true)], args := [d1, d2, d3, d4] }
  | _ => none }
def headerBackRow : OpenClaim := { program := "ytpjjkmfidghkjaa", sum := "beda339bd8d859839ea21cbd498c2dec3c3cee52f1a636b54d7dec7c37608c69", func := "winepress/winepresslaw24.HeaderBack", spec := "headerBack", unfollowed := true, recurses := true, apart := false }
def HeaderBackSaid : Prop := headerBackRow.holds Try.pinned (OpenSpec.ofChange headerBackSpec)

/-- ITS FALSE NEIGHBOUR: 'it returns false'. Refute it at one input. -/
def headerBackWrong : ChangeSpec := { name := "headerBack", fn := fun _ => fun
  | [d1, d2, d3, d4] => { results := [.lit (.bool false)], args := [d1, d2, d3, d4] }
  | _ => none }
def HeaderBackWrongFalsely : Prop := headerBackRow.holds Try.pinned (OpenSpec.ofChange headerBackWrong)

/-- 'winepresslaw24.HeaderOnly': WHATEVER THE INPUT: true; the input reads as it did. -/
def headerOnlySpec : ChangeSpec := { name := "headerOnly", fn := fun _ => fun
  | [d1, d2] => { results := [.lit (.bool true)], args := [d1, d2] }
  | _ => none }
def headerOnlyRow : OpenClaim := { program := "ytpjjkmfidghkjaa", sum := "beda339bd8d859839ea21cbd498c2dec3c3cee52f1a636b54d7dec7c37608c69", func := "winepress/winepresslaw24.HeaderOnly", spec := "headerOnly", unfollowed := true, recurses := true, apart := false }
def HeaderOnlySaid : Prop := headerOnlyRow.holds Try.pinned (OpenSpec.ofChange headerOnlySpec)

/-- ITS FALSE NEIGHBOUR: 'it returns false'. Refute it at one input. -/
def headerOnlyWrong : ChangeSpec := { name := "headerOnly", fn := fun _ => fun
  | [d1, d2] => { results := [.lit (.bool false)], args := [d1, d2] }
  | _ => none }
def HeaderOnlyWrongFalsely : Prop := headerOnlyRow.holds Try.pinned (OpenSpec.ofChange headerOnlyWrong)

/-- 'winepresslaw24.HeaderSteps': WHATEVER THE INPUT: true; the input reads as it did. -/
def headerStepsSpec : ChangeSpec := { name := "headerSteps", fn := fun _ => fun
  | [d1, d2] => { results := [.lit (.bool true)], args := [d1, d2] }
  | _ => none }
def headerStepsRow : OpenClaim := { program := "ytpjjkmfidghkjaa", sum := "beda339bd8d859839ea21cbd498c2dec3c3cee52f1a636b54d7dec7c37608c69", func := "winepress/winepresslaw24.HeaderSteps", spec := "headerSteps", unfollowed := true, recurses := true, apart := false }
def HeaderStepsSaid : Prop := headerStepsRow.holds Try.pinned (OpenSpec.ofChange headerStepsSpec)

/-- ITS FALSE NEIGHBOUR: 'it returns false'. Refute it at one input. -/
def headerStepsWrong : ChangeSpec := { name := "headerSteps", fn := fun _ => fun
  | [d1, d2] => { results := [.lit (.bool false)], args := [d1, d2] }
  | _ => none }
def HeaderStepsWrongFalsely : Prop := headerStepsRow.holds Try.pinned (OpenSpec.ofChange headerStepsWrong)

/- THE SECOND FORM. 'bulk': how many values and letters a reading holds, each counted each time it is reached (what is shared counts as often as it is met; a slice's spare places count too). A statement '..UptoSaid' is the law's where the arguments, and the package variables that the reading takes, are together of bulk at most 1048576: NARROWER than '..Said'. Prove '..Said' where nothing that the law and all that it calls make is longer than what came in: it says more and counts as full. Else prove '..UptoSaid'. A law counts once. -/
mutual
def uptoBulk {H : Type} : DataW H → Nat
  | .lit (.string bytes) => bytes.length + 1
  | .lit _ => 1
  | .nil => 1
  | .ptr d => uptoBulk d + 1
  | .slice elems spare => uptoBulkAll elems + uptoBulkAll spare + 1
  | .agg parts => uptoBulkAll parts + 1
  | .iface _ d => uptoBulk d + 1
  | .map entries => uptoBulkEntries entries + 1
  | .held _ => 1
def uptoBulkAll {H : Type} : List (DataW H) → Nat
  | [] => 0
  | d :: r => uptoBulk d + uptoBulkAll r
def uptoBulkEntries {H : Type} : List (Lit × DataW H) → Nat
  | [] => 0
  | x :: r => uptoBulkEntry x + uptoBulkEntries r
def uptoBulkEntry {H : Type} : Lit × DataW H → Nat
  | (.string bytes, d) => bytes.length + uptoBulk d + 1
  | (_, d) => uptoBulk d + 1
 end
def uptoSmall : (H : Type) → List (DataW H) → Bool := fun _ ds => decide (uptoBulkAll ds ≤ 1048576)
def OpenSpec.upto (s : _root_.Go.ChangeSpec) : _root_.Go.OpenSpec := { _root_.Go.OpenSpec.ofChange s with cond := some uptoSmall }

/-- 'winepresslaw24.HeaderMatches', WHERE WHAT IT READS IS OF BULK AT MOST 1048576: true; the input reads as it did. -/
def headerMatchesUptoRow : OpenClaim := { program := "ytpjjkmfidghkjaa", sum := "beda339bd8d859839ea21cbd498c2dec3c3cee52f1a636b54d7dec7c37608c69", func := "winepress/winepresslaw24.HeaderMatches", spec := "headerMatches", unfollowed := true, recurses := true, apart := false, narrowed := true }
def HeaderMatchesUptoSaid : Prop := headerMatchesUptoRow.holds Try.pinned (OpenSpec.upto headerMatchesSpec)

/-- 'winepresslaw24.HeaderBack', WHERE WHAT IT READS IS OF BULK AT MOST 1048576: true; the input reads as it did. -/
def headerBackUptoRow : OpenClaim := { program := "ytpjjkmfidghkjaa", sum := "beda339bd8d859839ea21cbd498c2dec3c3cee52f1a636b54d7dec7c37608c69", func := "winepress/winepresslaw24.HeaderBack", spec := "headerBack", unfollowed := true, recurses := true, apart := false, narrowed := true }
def HeaderBackUptoSaid : Prop := headerBackUptoRow.holds Try.pinned (OpenSpec.upto headerBackSpec)

/-- 'winepresslaw24.HeaderOnly', WHERE WHAT IT READS IS OF BULK AT MOST 1048576: true; the input reads as it did. -/
def headerOnlyUptoRow : OpenClaim := { program := "ytpjjkmfidghkjaa", sum := "beda339bd8d859839ea21cbd498c2dec3c3cee52f1a636b54d7dec7c37608c69", func := "winepress/winepresslaw24.HeaderOnly", spec := "headerOnly", unfollowed := true, recurses := true, apart := false, narrowed := true }
def HeaderOnlyUptoSaid : Prop := headerOnlyUptoRow.holds Try.pinned (OpenSpec.upto headerOnlySpec)

/-- 'winepresslaw24.HeaderSteps', WHERE WHAT IT READS IS OF BULK AT MOST 1048576: true; the input reads as it did. -/
def headerStepsUptoRow : OpenClaim := { program := "ytpjjkmfidghkjaa", sum := "beda339bd8d859839ea21cbd498c2dec3c3cee52f1a636b54d7dec7c37608c69", func := "winepress/winepresslaw24.HeaderSteps", spec := "headerSteps", unfollowed := true, recurses := true, apart := false, narrowed := true }
def HeaderStepsUptoSaid : Prop := headerStepsUptoRow.holds Try.pinned (OpenSpec.upto headerStepsSpec)

end Rows
end Go.Proofs.Ytpjjkmfidghkjaa
