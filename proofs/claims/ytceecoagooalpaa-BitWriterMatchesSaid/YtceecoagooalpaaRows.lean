/-
  No cell of these rows narrows 'for every input' (looked for: loops, veiled, ifaces, maps, wideKeys, modest, calm, conditions, laid).
  DERIVED. THE GIVEN ROWS OF THIS SEAT. 9 by the template 'for every input the law returns true; each argument reads behind the call as it read before'; 0 by the template 'total and deterministic' (their statements: YtceecoagooalpaaTotals.lean).
  GIVEN WITH THE SEED: the statements are not yours to turn. If you find one false, say at which input.
  Laid BY PROGRAM, IN A SANDBOX (cutbox-rows.mjs): the forced cells as the released guide's own fill.sh prints them over the translation 77320c6c3dd5314a… (all of the seat's roots in one cut). By AI agents, Wed Nov 11 2026. No macro, syntax, notation, axiom, sorry.
-/
import Derived.Test.YtceecoagooalpaaChecked
import GoSem.Claim
import GoSem.ClaimJoined
import GoSem.ClaimMapViews
import Derived.JoinedTies
import Derived.KernelRfl
namespace Go.Proofs.Ytceecoagooalpaa
/- THE CELL 'sum', in the pinned program and in every row, IS THE sha256 OF THE DUMP (.gsa) THAT YtceecoagooalpaaProg.lean LOADS. Nothing in Lean hashes anything: it is a label: what it is worth is what the hold of that sum in a sandbox is worth. -/
noncomputable def Try.pinned : Pinned := { name := "ytceecoagooalpaa", sum := "77320c6c3dd5314a515408d7fde2e2c72cae114a0ba7eb02705b0184fe98cc7b", checked := Try.checked }
namespace Rows
def none {H : Type} : Left H := { results := [], args := [] }

/-- 'winepresslaw05.VarintMatches': WHATEVER THE INPUT: true; the input reads as it did. -/
def varintMatchesSpec : ChangeSpec := { name := "varintMatches", fn := fun _ => fun
  | [d1, d2, d3, d4] => { results := [.lit (.bool true)], args := [d1, d2, d3, d4] }
  | _ => none }
def varintMatchesRow : OpenClaim := { program := "ytceecoagooalpaa", sum := "77320c6c3dd5314a515408d7fde2e2c72cae114a0ba7eb02705b0184fe98cc7b", func := "winepress/winepresslaw05.VarintMatches", spec := "varintMatches", apart := false }
def VarintMatchesSaid : Prop := varintMatchesRow.holds Try.pinned (OpenSpec.ofChange varintMatchesSpec)

/-- ITS FALSE NEIGHBOUR: 'it returns false'. Refute it at one input. -/
def varintMatchesWrong : ChangeSpec := { name := "varintMatches", fn := fun _ => fun
  | [d1, d2, d3, d4] => { results := [.lit (.bool false)], args := [d1, d2, d3, d4] }
  | _ => none }
def VarintMatchesWrongFalsely : Prop := varintMatchesRow.holds Try.pinned (OpenSpec.ofChange varintMatchesWrong)

/-- 'winepresslaw05.VarintBack': WHATEVER THE INPUT: true; the input reads as it did. -/
def varintBackSpec : ChangeSpec := { name := "varintBack", fn := fun _ => fun
  | [d1, d2] => { results := [.lit (.bool true)], args := [d1, d2] }
  | _ => none }
def varintBackRow : OpenClaim := { program := "ytceecoagooalpaa", sum := "77320c6c3dd5314a515408d7fde2e2c72cae114a0ba7eb02705b0184fe98cc7b", func := "winepress/winepresslaw05.VarintBack", spec := "varintBack", apart := false }
def VarintBackSaid : Prop := varintBackRow.holds Try.pinned (OpenSpec.ofChange varintBackSpec)

/-- ITS FALSE NEIGHBOUR: 'it returns false'. Refute it at one input. -/
def varintBackWrong : ChangeSpec := { name := "varintBack", fn := fun _ => fun
  | [d1, d2] => { results := [.lit (.bool false)], args := [d1, d2] }
  | _ => none }
def VarintBackWrongFalsely : Prop := varintBackRow.holds Try.pinned (OpenSpec.ofChange varintBackWrong)

/-- 'winepresslaw05.VarintOnly': WHATEVER THE INPUT: true; the input reads as it did. -/
def varintOnlySpec : ChangeSpec := { name := "varintOnly", fn := fun _ => fun
  | [d] => { results := [.lit (.bool true)], args := [d] }
  | _ => none }
def varintOnlyRow : OpenClaim := { program := "ytceecoagooalpaa", sum := "77320c6c3dd5314a515408d7fde2e2c72cae114a0ba7eb02705b0184fe98cc7b", func := "winepress/winepresslaw05.VarintOnly", spec := "varintOnly", apart := false }
def VarintOnlySaid : Prop := varintOnlyRow.holds Try.pinned (OpenSpec.ofChange varintOnlySpec)

/-- ITS FALSE NEIGHBOUR: 'it returns false'. Refute it at one input. -/
def varintOnlyWrong : ChangeSpec := { name := "varintOnly", fn := fun _ => fun
  | [d] => { results := [.lit (.bool false)], args := [d] }
  | _ => none }
def VarintOnlyWrongFalsely : Prop := varintOnlyRow.holds Try.pinned (OpenSpec.ofChange varintOnlyWrong)

/-- 'winepresslaw05.VarintSteps': WHATEVER THE INPUT: true; the input reads as it did. -/
def varintStepsSpec : ChangeSpec := { name := "varintSteps", fn := fun _ => fun
  | [d] => { results := [.lit (.bool true)], args := [d] }
  | _ => none }
def varintStepsRow : OpenClaim := { program := "ytceecoagooalpaa", sum := "77320c6c3dd5314a515408d7fde2e2c72cae114a0ba7eb02705b0184fe98cc7b", func := "winepress/winepresslaw05.VarintSteps", spec := "varintSteps", apart := false }
def VarintStepsSaid : Prop := varintStepsRow.holds Try.pinned (OpenSpec.ofChange varintStepsSpec)

/-- ITS FALSE NEIGHBOUR: 'it returns false'. Refute it at one input. -/
def varintStepsWrong : ChangeSpec := { name := "varintSteps", fn := fun _ => fun
  | [d] => { results := [.lit (.bool false)], args := [d] }
  | _ => none }
def VarintStepsWrongFalsely : Prop := varintStepsRow.holds Try.pinned (OpenSpec.ofChange varintStepsWrong)

/-- 'winepresslaw05.VarintOrder': WHATEVER THE INPUT: true; the input reads as it did. -/
def varintOrderSpec : ChangeSpec := { name := "varintOrder", fn := fun _ => fun
  | [d1, d2] => { results := [.lit (.bool true)], args := [d1, d2] }
  | _ => none }
def varintOrderRow : OpenClaim := { program := "ytceecoagooalpaa", sum := "77320c6c3dd5314a515408d7fde2e2c72cae114a0ba7eb02705b0184fe98cc7b", func := "winepress/winepresslaw05.VarintOrder", spec := "varintOrder", apart := false }
def VarintOrderSaid : Prop := varintOrderRow.holds Try.pinned (OpenSpec.ofChange varintOrderSpec)

/-- ITS FALSE NEIGHBOUR: 'it returns false'. Refute it at one input. -/
def varintOrderWrong : ChangeSpec := { name := "varintOrder", fn := fun _ => fun
  | [d1, d2] => { results := [.lit (.bool false)], args := [d1, d2] }
  | _ => none }
def VarintOrderWrongFalsely : Prop := varintOrderRow.holds Try.pinned (OpenSpec.ofChange varintOrderWrong)

/-- 'winepresslaw02.BitWriterMatches': WHATEVER THE INPUT: true; the input reads as it did. -/
def bitWriterMatchesSpec : ChangeSpec := { name := "bitWriterMatches", fn := fun _ => fun
  | [d1, d2, d3, d4] => { results := [.lit (.bool true)], args := [d1, d2, d3, d4] }
  | _ => none }
def bitWriterMatchesRow : OpenClaim := { program := "ytceecoagooalpaa", sum := "77320c6c3dd5314a515408d7fde2e2c72cae114a0ba7eb02705b0184fe98cc7b", func := "winepress/winepresslaw02.BitWriterMatches", spec := "bitWriterMatches", unfollowed := true, recurses := true, apart := false }
def BitWriterMatchesSaid : Prop := bitWriterMatchesRow.holds Try.pinned (OpenSpec.ofChange bitWriterMatchesSpec)

/-- ITS FALSE NEIGHBOUR: 'it returns false'. Refute it at one input. -/
def bitWriterMatchesWrong : ChangeSpec := { name := "bitWriterMatches", fn := fun _ => fun
  | [d1, d2, d3, d4] => { results := [.lit (.bool false)], args := [d1, d2, d3, d4] }
  | _ => none }
def BitWriterMatchesWrongFalsely : Prop := bitWriterMatchesRow.holds Try.pinned (OpenSpec.ofChange bitWriterMatchesWrong)

/-- 'winepresslaw02.BitWriterBack': WHATEVER THE INPUT: true; the input reads as it did. -/
def bitWriterBackSpec : ChangeSpec := { name := "bitWriterBack", fn := fun _ => fun
  | [d] => { results := [.lit (.bool true)], args := [d] }
  | _ => none }
def bitWriterBackRow : OpenClaim := { program := "ytceecoagooalpaa", sum := "77320c6c3dd5314a515408d7fde2e2c72cae114a0ba7eb02705b0184fe98cc7b", func := "winepress/winepresslaw02.BitWriterBack", spec := "bitWriterBack", unfollowed := true, recurses := true, apart := false }
def BitWriterBackSaid : Prop := bitWriterBackRow.holds Try.pinned (OpenSpec.ofChange bitWriterBackSpec)

/-- ITS FALSE NEIGHBOUR: 'it returns false'. Refute it at one input. -/
def bitWriterBackWrong : ChangeSpec := { name := "bitWriterBack", fn := fun _ => fun
  | [d] => { results := [.lit (.bool false)], args := [d] }
  | _ => none }
def BitWriterBackWrongFalsely : Prop := bitWriterBackRow.holds Try.pinned (OpenSpec.ofChange bitWriterBackWrong)

/-- 'winepresslaw02.BitWriterParts': WHATEVER THE INPUT: true; the input reads as it did. -/
def bitWriterPartsSpec : ChangeSpec := { name := "bitWriterParts", fn := fun _ => fun
  | [d1, d2, d3] => { results := [.lit (.bool true)], args := [d1, d2, d3] }
  | _ => none }
def bitWriterPartsRow : OpenClaim := { program := "ytceecoagooalpaa", sum := "77320c6c3dd5314a515408d7fde2e2c72cae114a0ba7eb02705b0184fe98cc7b", func := "winepress/winepresslaw02.BitWriterParts", spec := "bitWriterParts", unfollowed := true, recurses := true, apart := false }
def BitWriterPartsSaid : Prop := bitWriterPartsRow.holds Try.pinned (OpenSpec.ofChange bitWriterPartsSpec)

/-- ITS FALSE NEIGHBOUR: 'it returns false'. Refute it at one input. -/
def bitWriterPartsWrong : ChangeSpec := { name := "bitWriterParts", fn := fun _ => fun
  | [d1, d2, d3] => { results := [.lit (.bool false)], args := [d1, d2, d3] }
  | _ => none }
def BitWriterPartsWrongFalsely : Prop := bitWriterPartsRow.holds Try.pinned (OpenSpec.ofChange bitWriterPartsWrong)

/-- 'winepresslaw02.BitWriterOf': WHATEVER THE INPUT: true; the input reads as it did. -/
def bitWriterOfSpec : ChangeSpec := { name := "bitWriterOf", fn := fun _ => fun
  | [d] => { results := [.lit (.bool true)], args := [d] }
  | _ => none }
def bitWriterOfRow : OpenClaim := { program := "ytceecoagooalpaa", sum := "77320c6c3dd5314a515408d7fde2e2c72cae114a0ba7eb02705b0184fe98cc7b", func := "winepress/winepresslaw02.BitWriterOf", spec := "bitWriterOf", unfollowed := true, recurses := true, apart := false }
def BitWriterOfSaid : Prop := bitWriterOfRow.holds Try.pinned (OpenSpec.ofChange bitWriterOfSpec)

/-- ITS FALSE NEIGHBOUR: 'it returns false'. Refute it at one input. -/
def bitWriterOfWrong : ChangeSpec := { name := "bitWriterOf", fn := fun _ => fun
  | [d] => { results := [.lit (.bool false)], args := [d] }
  | _ => none }
def BitWriterOfWrongFalsely : Prop := bitWriterOfRow.holds Try.pinned (OpenSpec.ofChange bitWriterOfWrong)

/- THE SECOND FORM. 'bulk': how many values and letters a reading holds, each counted each time it is reached (what is shared counts as often as it is met; a slice's spare places count too). A statement '..UptoSaid' is the law's where the arguments, and the package variables that the reading takes, are together of bulk at most 1048576: NARROWER than '..Said'. Prove '..Said' where nothing that the law and all that it calls make is longer than what came in: it says more and counts as full. Else prove '..UptoSaid'. A law counts once. -/
mutual
def uptoBulk {H : Type} : DataW H → Nat
  | .lit (.string bytes) => bytes.length + 1
  | .lit _ => 1
  | .nil => 1
  | .ptr d => uptoBulk d + 1
  | .slice elems spare => uptoBulkAll elems + uptoBulkAll spare + 1
  | .agg parts => uptoBulkAll parts + 1
  | .iface _ d => uptoBulk d + 1
  | .map entries => uptoBulkEntries entries + 1
  | .held _ => 1
def uptoBulkAll {H : Type} : List (DataW H) → Nat
  | [] => 0
  | d :: r => uptoBulk d + uptoBulkAll r
def uptoBulkEntries {H : Type} : List (Lit × DataW H) → Nat
  | [] => 0
  | x :: r => uptoBulkEntry x + uptoBulkEntries r
def uptoBulkEntry {H : Type} : Lit × DataW H → Nat
  | (.string bytes, d) => bytes.length + uptoBulk d + 1
  | (_, d) => uptoBulk d + 1
 end
def uptoSmall : (H : Type) → List (DataW H) → Bool := fun _ ds => decide (uptoBulkAll ds ≤ 1048576)
def OpenSpec.upto (s : _root_.Go.ChangeSpec) : _root_.Go.OpenSpec := { _root_.Go.OpenSpec.ofChange s with cond := some uptoSmall }

/-- 'winepresslaw05.VarintMatches', WHERE WHAT IT READS IS OF BULK AT MOST 1048576: true; the input reads as it did. -/
def varintMatchesUptoRow : OpenClaim := { program := "ytceecoagooalpaa", sum := "77320c6c3dd5314a515408d7fde2e2c72cae114a0ba7eb02705b0184fe98cc7b", func := "winepress/winepresslaw05.VarintMatches", spec := "varintMatches", apart := false, narrowed := true }
def VarintMatchesUptoSaid : Prop := varintMatchesUptoRow.holds Try.pinned (OpenSpec.upto varintMatchesSpec)

/-- 'winepresslaw05.VarintBack', WHERE WHAT IT READS IS OF BULK AT MOST 1048576: true; the input reads as it did. -/
def varintBackUptoRow : OpenClaim := { program := "ytceecoagooalpaa", sum := "77320c6c3dd5314a515408d7fde2e2c72cae114a0ba7eb02705b0184fe98cc7b", func := "winepress/winepresslaw05.VarintBack", spec := "varintBack", apart := false, narrowed := true }
def VarintBackUptoSaid : Prop := varintBackUptoRow.holds Try.pinned (OpenSpec.upto varintBackSpec)

/-- 'winepresslaw05.VarintOnly', WHERE WHAT IT READS IS OF BULK AT MOST 1048576: true; the input reads as it did. -/
def varintOnlyUptoRow : OpenClaim := { program := "ytceecoagooalpaa", sum := "77320c6c3dd5314a515408d7fde2e2c72cae114a0ba7eb02705b0184fe98cc7b", func := "winepress/winepresslaw05.VarintOnly", spec := "varintOnly", apart := false, narrowed := true }
def VarintOnlyUptoSaid : Prop := varintOnlyUptoRow.holds Try.pinned (OpenSpec.upto varintOnlySpec)

/-- 'winepresslaw05.VarintSteps', WHERE WHAT IT READS IS OF BULK AT MOST 1048576: true; the input reads as it did. -/
def varintStepsUptoRow : OpenClaim := { program := "ytceecoagooalpaa", sum := "77320c6c3dd5314a515408d7fde2e2c72cae114a0ba7eb02705b0184fe98cc7b", func := "winepress/winepresslaw05.VarintSteps", spec := "varintSteps", apart := false, narrowed := true }
def VarintStepsUptoSaid : Prop := varintStepsUptoRow.holds Try.pinned (OpenSpec.upto varintStepsSpec)

/-- 'winepresslaw05.VarintOrder', WHERE WHAT IT READS IS OF BULK AT MOST 1048576: true; the input reads as it did. -/
def varintOrderUptoRow : OpenClaim := { program := "ytceecoagooalpaa", sum := "77320c6c3dd5314a515408d7fde2e2c72cae114a0ba7eb02705b0184fe98cc7b", func := "winepress/winepresslaw05.VarintOrder", spec := "varintOrder", apart := false, narrowed := true }
def VarintOrderUptoSaid : Prop := varintOrderUptoRow.holds Try.pinned (OpenSpec.upto varintOrderSpec)

/-- 'winepresslaw02.BitWriterMatches', WHERE WHAT IT READS IS OF BULK AT MOST 1048576: true; the input reads as it did. -/
def bitWriterMatchesUptoRow : OpenClaim := { program := "ytceecoagooalpaa", sum := "77320c6c3dd5314a515408d7fde2e2c72cae114a0ba7eb02705b0184fe98cc7b", func := "winepress/winepresslaw02.BitWriterMatches", spec := "bitWriterMatches", unfollowed := true, recurses := true, apart := false, narrowed := true }
def BitWriterMatchesUptoSaid : Prop := bitWriterMatchesUptoRow.holds Try.pinned (OpenSpec.upto bitWriterMatchesSpec)

/-- 'winepresslaw02.BitWriterBack', WHERE WHAT IT READS IS OF BULK AT MOST 1048576: true; the input reads as it did. -/
def bitWriterBackUptoRow : OpenClaim := { program := "ytceecoagooalpaa", sum := "77320c6c3dd5314a515408d7fde2e2c72cae114a0ba7eb02705b0184fe98cc7b", func := "winepress/winepresslaw02.BitWriterBack", spec := "bitWriterBack", unfollowed := true, recurses := true, apart := false, narrowed := true }
def BitWriterBackUptoSaid : Prop := bitWriterBackUptoRow.holds Try.pinned (OpenSpec.upto bitWriterBackSpec)

/-- 'winepresslaw02.BitWriterParts', WHERE WHAT IT READS IS OF BULK AT MOST 1048576: true; the input reads as it did. -/
def bitWriterPartsUptoRow : OpenClaim := { program := "ytceecoagooalpaa", sum := "77320c6c3dd5314a515408d7fde2e2c72cae114a0ba7eb02705b0184fe98cc7b", func := "winepress/winepresslaw02.BitWriterParts", spec := "bitWriterParts", unfollowed := true, recurses := true, apart := false, narrowed := true }
def BitWriterPartsUptoSaid : Prop := bitWriterPartsUptoRow.holds Try.pinned (OpenSpec.upto bitWriterPartsSpec)

/-- 'winepresslaw02.BitWriterOf', WHERE WHAT IT READS IS OF BULK AT MOST 1048576: true; the input reads as it did. -/
def bitWriterOfUptoRow : OpenClaim := { program := "ytceecoagooalpaa", sum := "77320c6c3dd5314a515408d7fde2e2c72cae114a0ba7eb02705b0184fe98cc7b", func := "winepress/winepresslaw02.BitWriterOf", spec := "bitWriterOf", unfollowed := true, recurses := true, apart := false, narrowed := true }
def BitWriterOfUptoSaid : Prop := bitWriterOfUptoRow.holds Try.pinned (OpenSpec.upto bitWriterOfSpec)

end Rows
end Go.Proofs.Ytceecoagooalpaa
