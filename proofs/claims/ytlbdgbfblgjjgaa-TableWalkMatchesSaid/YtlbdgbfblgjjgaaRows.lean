/-
  No cell of these rows narrows 'for every input' (looked for: loops, veiled, ifaces, maps, wideKeys, modest, calm, conditions, laid).
  DERIVED. THE GIVEN ROWS OF THIS SEAT. 8 by the template 'for every input the law returns true; each argument reads behind the call as it read before'; 0 by the template 'total and deterministic' (their statements: YtlbdgbfblgjjgaaTotals.lean).
  GIVEN WITH THE SEED: the statements are not yours to turn. If you find one false, say at which input.
  Laid BY PROGRAM, IN A SANDBOX (cutbox-rows.mjs): the forced cells as the released guide's own fill.sh prints them over the translation 2b95c1061dcf9609… (all of the seat's roots in one cut). By AI agents, Wed Nov 11 2026. No macro, syntax, notation, axiom, sorry.
-/
import Derived.Test.YtlbdgbfblgjjgaaChecked
import GoSem.Claim
import GoSem.ClaimJoined
import GoSem.ClaimMapViews
import Derived.JoinedTies
import Derived.KernelRfl
namespace Go.Proofs.Ytlbdgbfblgjjgaa
/- THE CELL 'sum', in the pinned program and in every row, IS THE sha256 OF THE DUMP (.gsa) THAT YtlbdgbfblgjjgaaProg.lean LOADS. Nothing in Lean hashes anything: it is a label: what it is worth is what the hold of that sum in a sandbox is worth. -/
noncomputable def Try.pinned : Pinned := { name := "ytlbdgbfblgjjgaa", sum := "2b95c1061dcf9609349834a195b6c4929d619d33eee5b63bc51084ca3665d44c", checked := Try.checked }
namespace Rows
def none {H : Type} : Left H := { results := [], args := [] }

/-- 'winepresslaw22.TableWalkMatches': WHATEVER THE INPUT: true; the input reads as it did. -/
def tableWalkMatchesSpec : ChangeSpec := { name := "tableWalkMatches", fn := fun _ => fun
  | [d1, d2, d3, d4, d5] => { results := [.lit (.bool true)], args := [d1, d2, d3, d4, d5] }
  | _ => none }
def tableWalkMatchesRow : OpenClaim := { program := "ytlbdgbfblgjjgaa", sum := "2b95c1061dcf9609349834a195b6c4929d619d33eee5b63bc51084ca3665d44c", func := "winepress/winepresslaw22.TableWalkMatches", spec := "tableWalkMatches", apart := false }
def TableWalkMatchesSaid : Prop := tableWalkMatchesRow.holds Try.pinned (OpenSpec.ofChange tableWalkMatchesSpec)

/-- ITS FALSE NEIGHBOUR: 'it returns false'. Refute it at one input. -/
def tableWalkMatchesWrong : ChangeSpec := { name := "tableWalkMatches", fn := fun _ => fun
  | [d1, d2, d3, d4, d5] => { results := [.lit (.bool false)], args := [d1, d2, d3, d4, d5] }
  | _ => none }
def TableWalkMatchesWrongFalsely : Prop := tableWalkMatchesRow.holds Try.pinned (OpenSpec.ofChange tableWalkMatchesWrong)

/-- 'winepresslaw22.TableWalkBack': WHATEVER THE INPUT: true; the input reads as it did. -/
def tableWalkBackSpec : ChangeSpec := { name := "tableWalkBack", fn := fun _ => fun
  | [d] => { results := [.lit (.bool true)], args := [d] }
  | _ => none }
def tableWalkBackRow : OpenClaim := { program := "ytlbdgbfblgjjgaa", sum := "2b95c1061dcf9609349834a195b6c4929d619d33eee5b63bc51084ca3665d44c", func := "winepress/winepresslaw22.TableWalkBack", spec := "tableWalkBack", apart := false }
def TableWalkBackSaid : Prop := tableWalkBackRow.holds Try.pinned (OpenSpec.ofChange tableWalkBackSpec)

/-- ITS FALSE NEIGHBOUR: 'it returns false'. Refute it at one input. -/
def tableWalkBackWrong : ChangeSpec := { name := "tableWalkBack", fn := fun _ => fun
  | [d] => { results := [.lit (.bool false)], args := [d] }
  | _ => none }
def TableWalkBackWrongFalsely : Prop := tableWalkBackRow.holds Try.pinned (OpenSpec.ofChange tableWalkBackWrong)

/-- 'winepresslaw22.TableWalkRight': WHATEVER THE INPUT: true; the input reads as it did. -/
def tableWalkRightSpec : ChangeSpec := { name := "tableWalkRight", fn := fun _ => fun
  | [d1, d2] => { results := [.lit (.bool true)], args := [d1, d2] }
  | _ => none }
def tableWalkRightRow : OpenClaim := { program := "ytlbdgbfblgjjgaa", sum := "2b95c1061dcf9609349834a195b6c4929d619d33eee5b63bc51084ca3665d44c", func := "winepress/winepresslaw22.TableWalkRight", spec := "tableWalkRight", apart := false }
def TableWalkRightSaid : Prop := tableWalkRightRow.holds Try.pinned (OpenSpec.ofChange tableWalkRightSpec)

/-- ITS FALSE NEIGHBOUR: 'it returns false'. Refute it at one input. -/
def tableWalkRightWrong : ChangeSpec := { name := "tableWalkRight", fn := fun _ => fun
  | [d1, d2] => { results := [.lit (.bool false)], args := [d1, d2] }
  | _ => none }
def TableWalkRightWrongFalsely : Prop := tableWalkRightRow.holds Try.pinned (OpenSpec.ofChange tableWalkRightWrong)

/-- 'winepresslaw21.RankWalkBack': WHATEVER THE INPUT: true; the input reads as it did. -/
def rankWalkBackSpec : ChangeSpec := { name := "rankWalkBack", fn := fun _ => fun
  | [d1, d2] => { results := [.lit (.bool true)], args := [d1, d2] }
  | _ => none }
def rankWalkBackRow : OpenClaim := { program := "ytlbdgbfblgjjgaa", sum := "2b95c1061dcf9609349834a195b6c4929d619d33eee5b63bc51084ca3665d44c", func := "winepress/winepresslaw21.RankWalkBack", spec := "rankWalkBack", unfollowed := true, recurses := true, apart := false }
def RankWalkBackSaid : Prop := rankWalkBackRow.holds Try.pinned (OpenSpec.ofChange rankWalkBackSpec)

/-- ITS FALSE NEIGHBOUR: 'it returns false'. Refute it at one input. -/
def rankWalkBackWrong : ChangeSpec := { name := "rankWalkBack", fn := fun _ => fun
  | [d1, d2] => { results := [.lit (.bool false)], args := [d1, d2] }
  | _ => none }
def RankWalkBackWrongFalsely : Prop := rankWalkBackRow.holds Try.pinned (OpenSpec.ofChange rankWalkBackWrong)

/-- 'winepresslaw21.RankWalkRight': WHATEVER THE INPUT: true; the input reads as it did. -/
def rankWalkRightSpec : ChangeSpec := { name := "rankWalkRight", fn := fun _ => fun
  | [d1, d2, d3] => { results := [.lit (.bool true)], args := [d1, d2, d3] }
  | _ => none }
def rankWalkRightRow : OpenClaim := { program := "ytlbdgbfblgjjgaa", sum := "2b95c1061dcf9609349834a195b6c4929d619d33eee5b63bc51084ca3665d44c", func := "winepress/winepresslaw21.RankWalkRight", spec := "rankWalkRight", unfollowed := true, recurses := true, apart := false }
def RankWalkRightSaid : Prop := rankWalkRightRow.holds Try.pinned (OpenSpec.ofChange rankWalkRightSpec)

/-- ITS FALSE NEIGHBOUR: 'it returns false'. Refute it at one input. -/
def rankWalkRightWrong : ChangeSpec := { name := "rankWalkRight", fn := fun _ => fun
  | [d1, d2, d3] => { results := [.lit (.bool false)], args := [d1, d2, d3] }
  | _ => none }
def RankWalkRightWrongFalsely : Prop := rankWalkRightRow.holds Try.pinned (OpenSpec.ofChange rankWalkRightWrong)

/-- 'winepresslaw21.RankWalkBad': WHATEVER THE INPUT: true; the input reads as it did. -/
def rankWalkBadSpec : ChangeSpec := { name := "rankWalkBad", fn := fun _ => fun
  | [d1, d2, d3, d4] => { results := [.lit (.bool true)], args := [d1, d2, d3, d4] }
  | _ => none }
def rankWalkBadRow : OpenClaim := { program := "ytlbdgbfblgjjgaa", sum := "2b95c1061dcf9609349834a195b6c4929d619d33eee5b63bc51084ca3665d44c", func := "winepress/winepresslaw21.RankWalkBad", spec := "rankWalkBad", unfollowed := true, recurses := true, apart := false }
def RankWalkBadSaid : Prop := rankWalkBadRow.holds Try.pinned (OpenSpec.ofChange rankWalkBadSpec)

/-- ITS FALSE NEIGHBOUR: 'it returns false'. Refute it at one input. -/
def rankWalkBadWrong : ChangeSpec := { name := "rankWalkBad", fn := fun _ => fun
  | [d1, d2, d3, d4] => { results := [.lit (.bool false)], args := [d1, d2, d3, d4] }
  | _ => none }
def RankWalkBadWrongFalsely : Prop := rankWalkBadRow.holds Try.pinned (OpenSpec.ofChange rankWalkBadWrong)

/-- 'winepresslaw21.RankWalkMatches': WHATEVER THE INPUT: true; the input reads as it did. -/
def rankWalkMatchesSpec : ChangeSpec := { name := "rankWalkMatches", fn := fun _ => fun
  | [d1, d2, d3, d4] => { results := [.lit (.bool true)], args := [d1, d2, d3, d4] }
  | _ => none }
def rankWalkMatchesRow : OpenClaim := { program := "ytlbdgbfblgjjgaa", sum := "2b95c1061dcf9609349834a195b6c4929d619d33eee5b63bc51084ca3665d44c", func := "winepress/winepresslaw21.RankWalkMatches", spec := "rankWalkMatches", unfollowed := true, recurses := true, apart := false }
def RankWalkMatchesSaid : Prop := rankWalkMatchesRow.holds Try.pinned (OpenSpec.ofChange rankWalkMatchesSpec)

/-- ITS FALSE NEIGHBOUR: 'it returns false'. Refute it at one input. -/
def rankWalkMatchesWrong : ChangeSpec := { name := "rankWalkMatches", fn := fun _ => fun
  | [d1, d2, d3, d4] => { results := [.lit (.bool false)], args := [d1, d2, d3, d4] }
  | _ => none }
def RankWalkMatchesWrongFalsely : Prop := rankWalkMatchesRow.holds Try.pinned (OpenSpec.ofChange rankWalkMatchesWrong)

/-- 'winepresslaw22.TableWalkWalk': WHATEVER THE INPUT: true; the input reads as it did. -/
def tableWalkWalkSpec : ChangeSpec := { name := "tableWalkWalk", fn := fun _ => fun
  | [d1, d2, d3] => { results := [.lit (.bool true)], args := [d1, d2, d3] }
  | _ => none }
def tableWalkWalkRow : OpenClaim := { program := "ytlbdgbfblgjjgaa", sum := "2b95c1061dcf9609349834a195b6c4929d619d33eee5b63bc51084ca3665d44c", func := "winepress/winepresslaw22.TableWalkWalk", spec := "tableWalkWalk", unfollowed := true, recurses := true, apart := false }
def TableWalkWalkSaid : Prop := tableWalkWalkRow.holds Try.pinned (OpenSpec.ofChange tableWalkWalkSpec)

/-- ITS FALSE NEIGHBOUR: 'it returns false'. Refute it at one input. -/
def tableWalkWalkWrong : ChangeSpec := { name := "tableWalkWalk", fn := fun _ => fun
  | [d1, d2, d3] => { results := [.lit (.bool false)], args := [d1, d2, d3] }
  | _ => none }
def TableWalkWalkWrongFalsely : Prop := tableWalkWalkRow.holds Try.pinned (OpenSpec.ofChange tableWalkWalkWrong)

/- THE SECOND FORM. 'bulk': how many values and letters a reading holds, each counted each time it is reached (what is shared counts as often as it is met; a slice's spare places count too). A statement '..UptoSaid' is the law's where the arguments, and the package variables that the reading takes, are together of bulk at most 1048576: NARROWER than '..Said'. Prove '..Said' where nothing that the law and all that it calls make is longer than what came in: it says more and counts as full. Else prove '..UptoSaid'. A law counts once. -/
mutual
def uptoBulk {H : Type} : DataW H → Nat
  | .lit (.string bytes) => bytes.length + 1
  | .lit _ => 1
  | .nil => 1
  | .ptr d => uptoBulk d + 1
  | .slice elems spare => uptoBulkAll elems + uptoBulkAll spare + 1
  | .agg parts => uptoBulkAll parts + 1
  | .iface _ d => uptoBulk d + 1
  | .map entries => uptoBulkEntries entries + 1
  | .held _ => 1
def uptoBulkAll {H : Type} : List (DataW H) → Nat
  | [] => 0
  | d :: r => uptoBulk d + uptoBulkAll r
def uptoBulkEntries {H : Type} : List (Lit × DataW H) → Nat
  | [] => 0
  | x :: r => uptoBulkEntry x + uptoBulkEntries r
def uptoBulkEntry {H : Type} : Lit × DataW H → Nat
  | (.string bytes, d) => bytes.length + uptoBulk d + 1
  | (_, d) => uptoBulk d + 1
 end
def uptoSmall : (H : Type) → List (DataW H) → Bool := fun _ ds => decide (uptoBulkAll ds ≤ 1048576)
def OpenSpec.upto (s : _root_.Go.ChangeSpec) : _root_.Go.OpenSpec := { _root_.Go.OpenSpec.ofChange s with cond := some uptoSmall }

/-- 'winepresslaw22.TableWalkMatches', WHERE WHAT IT READS IS OF BULK AT MOST 1048576: true; the input reads as it did. -/
def tableWalkMatchesUptoRow : OpenClaim := { program := "ytlbdgbfblgjjgaa", sum := "2b95c1061dcf9609349834a195b6c4929d619d33eee5b63bc51084ca3665d44c", func := "winepress/winepresslaw22.TableWalkMatches", spec := "tableWalkMatches", apart := false, narrowed := true }
def TableWalkMatchesUptoSaid : Prop := tableWalkMatchesUptoRow.holds Try.pinned (OpenSpec.upto tableWalkMatchesSpec)

/-- 'winepresslaw22.TableWalkBack', WHERE WHAT IT READS IS OF BULK AT MOST 1048576: true; the input reads as it did. -/
def tableWalkBackUptoRow : OpenClaim := { program := "ytlbdgbfblgjjgaa", sum := "2b95c1061dcf9609349834a195b6c4929d619d33eee5b63bc51084ca3665d44c", func := "winepress/winepresslaw22.TableWalkBack", spec := "tableWalkBack", apart := false, narrowed := true }
def TableWalkBackUptoSaid : Prop := tableWalkBackUptoRow.holds Try.pinned (OpenSpec.upto tableWalkBackSpec)

/-- 'winepresslaw22.TableWalkRight', WHERE WHAT IT READS IS OF BULK AT MOST 1048576: true; the input reads as it did. -/
def tableWalkRightUptoRow : OpenClaim := { program := "ytlbdgbfblgjjgaa", sum := "2b95c1061dcf9609349834a195b6c4929d619d33eee5b63bc51084ca3665d44c", func := "winepress/winepresslaw22.TableWalkRight", spec := "tableWalkRight", apart := false, narrowed := true }
def TableWalkRightUptoSaid : Prop := tableWalkRightUptoRow.holds Try.pinned (OpenSpec.upto tableWalkRightSpec)

/-- 'winepresslaw21.RankWalkBack', WHERE WHAT IT READS IS OF BULK AT MOST 1048576: true; the input reads as it did. -/
def rankWalkBackUptoRow : OpenClaim := { program := "ytlbdgbfblgjjgaa", sum := "2b95c1061dcf9609349834a195b6c4929d619d33eee5b63bc51084ca3665d44c", func := "winepress/winepresslaw21.RankWalkBack", spec := "rankWalkBack", unfollowed := true, recurses := true, apart := false, narrowed := true }
def RankWalkBackUptoSaid : Prop := rankWalkBackUptoRow.holds Try.pinned (OpenSpec.upto rankWalkBackSpec)

/-- 'winepresslaw21.RankWalkRight', WHERE WHAT IT READS IS OF BULK AT MOST 1048576: true; the input reads as it did. -/
def rankWalkRightUptoRow : OpenClaim := { program := "ytlbdgbfblgjjgaa", sum := "2b95c1061dcf9609349834a195b6c4929d619d33eee5b63bc51084ca3665d44c", func := "winepress/winepresslaw21.RankWalkRight", spec := "rankWalkRight", unfollowed := true, recurses := true, apart := false, narrowed := true }
def RankWalkRightUptoSaid : Prop := rankWalkRightUptoRow.holds Try.pinned (OpenSpec.upto rankWalkRightSpec)

/-- 'winepresslaw21.RankWalkBad', WHERE WHAT IT READS IS OF BULK AT MOST 1048576: true; the input reads as it did. -/
def rankWalkBadUptoRow : OpenClaim := { program := "ytlbdgbfblgjjgaa", sum := "2b95c1061dcf9609349834a195b6c4929d619d33eee5b63bc51084ca3665d44c", func := "winepress/winepresslaw21.RankWalkBad", spec := "rankWalkBad", unfollowed := true, recurses := true, apart := false, narrowed := true }
def RankWalkBadUptoSaid : Prop := rankWalkBadUptoRow.holds Try.pinned (OpenSpec.upto rankWalkBadSpec)

/-- 'winepresslaw21.RankWalkMatches', WHERE WHAT IT READS IS OF BULK AT MOST 1048576: true; the input reads as it did. -/
def rankWalkMatchesUptoRow : OpenClaim := { program := "ytlbdgbfblgjjgaa", sum := "2b95c1061dcf9609349834a195b6c4929d619d33eee5b63bc51084ca3665d44c", func := "winepress/winepresslaw21.RankWalkMatches", spec := "rankWalkMatches", unfollowed := true, recurses := true, apart := false, narrowed := true }
def RankWalkMatchesUptoSaid : Prop := rankWalkMatchesUptoRow.holds Try.pinned (OpenSpec.upto rankWalkMatchesSpec)

/-- 'winepresslaw22.TableWalkWalk', WHERE WHAT IT READS IS OF BULK AT MOST 1048576: true; the input reads as it did. -/
def tableWalkWalkUptoRow : OpenClaim := { program := "ytlbdgbfblgjjgaa", sum := "2b95c1061dcf9609349834a195b6c4929d619d33eee5b63bc51084ca3665d44c", func := "winepress/winepresslaw22.TableWalkWalk", spec := "tableWalkWalk", unfollowed := true, recurses := true, apart := false, narrowed := true }
def TableWalkWalkUptoSaid : Prop := tableWalkWalkUptoRow.holds Try.pinned (OpenSpec.upto tableWalkWalkSpec)

end Rows
end Go.Proofs.Ytlbdgbfblgjjgaa
