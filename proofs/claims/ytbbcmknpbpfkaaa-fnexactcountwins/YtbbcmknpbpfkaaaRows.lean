/-
  No cell of these rows narrows 'for every input' (looked for: loops, veiled, ifaces, maps, wideKeys, modest, calm, conditions, laid).
  DERIVED. THE GIVEN ROWS OF THIS SEAT. 12 by the template 'for every input the law returns true; each argument reads behind the call as it read before'; 0 by the template 'total and deterministic' (their statements: YtbbcmknpbpfkaaaTotals.lean).
  GIVEN WITH THE SEED: the statements are not yours to turn. If you find one false, say at which input.
  Laid BY PROGRAM, IN A SANDBOX (cutbox-rows.mjs): the forced cells as the released guide's own fill.sh prints them over the translation b939d9a4d5a0afd5… (all of the seat's roots in one cut). By AI agents, Wed Nov 11 2026. No macro, syntax, notation, axiom, sorry.
-/
import Derived.Test.YtbbcmknpbpfkaaaChecked
import GoSem.Claim
import GoSem.ClaimJoined
import GoSem.ClaimMapViews
import Derived.JoinedTies
import Derived.KernelRfl
namespace Go.Proofs.Ytbbcmknpbpfkaaa
/- THE CELL 'sum', in the pinned program and in every row, IS THE sha256 OF THE DUMP (.gsa) THAT YtbbcmknpbpfkaaaProg.lean LOADS. Nothing in Lean hashes anything: it is a label: what it is worth is what the hold of that sum in a sandbox is worth. -/
noncomputable def Try.pinned : Pinned := { name := "ytbbcmknpbpfkaaa", sum := "b939d9a4d5a0afd5c79b4804dabdc2d092a0847583eb383b77f34a38128ee62a", checked := Try.checked }
namespace Rows
def none {H : Type} : Left H := { results := [], args := [] }

/-- 'laws.FnExactBookCost': WHATEVER THE INPUT: true; the input reads as it did. -/
def fnExactBookCostSpec : ChangeSpec := { name := "fnExactBookCost", fn := fun _ => fun
  | [d1, d2] => { results := [.lit (.bool true)], args := [d1, d2] }
  | _ => none }
def fnExactBookCostRow : OpenClaim := { program := "ytbbcmknpbpfkaaa", sum := "b939d9a4d5a0afd5c79b4804dabdc2d092a0847583eb383b77f34a38128ee62a", func := "loop.example/g00940/laws.FnExactBookCost", spec := "fnExactBookCost", unfollowed := true, recurses := true, apart := false }
def FnExactBookCostSaid : Prop := fnExactBookCostRow.holds Try.pinned (OpenSpec.ofChange fnExactBookCostSpec)

/-- ITS FALSE NEIGHBOUR: 'it returns false'. Refute it at one input. -/
def fnExactBookCostWrong : ChangeSpec := { name := "fnExactBookCost", fn := fun _ => fun
  | [d1, d2] => { results := [.lit (.bool false)], args := [d1, d2] }
  | _ => none }
def FnExactBookCostWrongFalsely : Prop := fnExactBookCostRow.holds Try.pinned (OpenSpec.ofChange fnExactBookCostWrong)

/-- 'laws.FnExactMeanSignals': WHATEVER THE INPUT: true; the input reads as it did. -/
def fnExactMeanSignalsSpec : ChangeSpec := { name := "fnExactMeanSignals", fn := fun _ => fun
  | [d] => { results := [.lit (.bool true)], args := [d] }
  | _ => none }
def fnExactMeanSignalsRow : OpenClaim := { program := "ytbbcmknpbpfkaaa", sum := "b939d9a4d5a0afd5c79b4804dabdc2d092a0847583eb383b77f34a38128ee62a", func := "loop.example/g00940/laws.FnExactMeanSignals", spec := "fnExactMeanSignals", unfollowed := true, recurses := true, apart := false }
def FnExactMeanSignalsSaid : Prop := fnExactMeanSignalsRow.holds Try.pinned (OpenSpec.ofChange fnExactMeanSignalsSpec)

/-- ITS FALSE NEIGHBOUR: 'it returns false'. Refute it at one input. -/
def fnExactMeanSignalsWrong : ChangeSpec := { name := "fnExactMeanSignals", fn := fun _ => fun
  | [d] => { results := [.lit (.bool false)], args := [d] }
  | _ => none }
def FnExactMeanSignalsWrongFalsely : Prop := fnExactMeanSignalsRow.holds Try.pinned (OpenSpec.ofChange fnExactMeanSignalsWrong)

/-- 'laws.FnExactSignalUses': WHATEVER THE INPUT: true; the input reads as it did. -/
def fnExactSignalUsesSpec : ChangeSpec := { name := "fnExactSignalUses", fn := fun _ => fun
  | [d] => { results := [.lit (.bool true)], args := [d] }
  | _ => none }
def fnExactSignalUsesRow : OpenClaim := { program := "ytbbcmknpbpfkaaa", sum := "b939d9a4d5a0afd5c79b4804dabdc2d092a0847583eb383b77f34a38128ee62a", func := "loop.example/g00940/laws.FnExactSignalUses", spec := "fnExactSignalUses", unfollowed := true, recurses := true, apart := false }
def FnExactSignalUsesSaid : Prop := fnExactSignalUsesRow.holds Try.pinned (OpenSpec.ofChange fnExactSignalUsesSpec)

/-- ITS FALSE NEIGHBOUR: 'it returns false'. Refute it at one input. -/
def fnExactSignalUsesWrong : ChangeSpec := { name := "fnExactSignalUses", fn := fun _ => fun
  | [d] => { results := [.lit (.bool false)], args := [d] }
  | _ => none }
def FnExactSignalUsesWrongFalsely : Prop := fnExactSignalUsesRow.holds Try.pinned (OpenSpec.ofChange fnExactSignalUsesWrong)

/-- 'laws.FnExactClosestPhrases': WHATEVER THE INPUT: true; the input reads as it did. -/
def fnExactClosestPhrasesSpec : ChangeSpec := { name := "fnExactClosestPhrases", fn := fun _ => fun
  | [d] => { results := [.lit (.bool true)], args := [d] }
  | _ => none }
def fnExactClosestPhrasesRow : OpenClaim := { program := "ytbbcmknpbpfkaaa", sum := "b939d9a4d5a0afd5c79b4804dabdc2d092a0847583eb383b77f34a38128ee62a", func := "loop.example/g00940/laws.FnExactClosestPhrases", spec := "fnExactClosestPhrases", unfollowed := true, recurses := true, apart := false }
def FnExactClosestPhrasesSaid : Prop := fnExactClosestPhrasesRow.holds Try.pinned (OpenSpec.ofChange fnExactClosestPhrasesSpec)

/-- ITS FALSE NEIGHBOUR: 'it returns false'. Refute it at one input. -/
def fnExactClosestPhrasesWrong : ChangeSpec := { name := "fnExactClosestPhrases", fn := fun _ => fun
  | [d] => { results := [.lit (.bool false)], args := [d] }
  | _ => none }
def FnExactClosestPhrasesWrongFalsely : Prop := fnExactClosestPhrasesRow.holds Try.pinned (OpenSpec.ofChange fnExactClosestPhrasesWrong)

/-- 'laws.FnExactLeastDistance': WHATEVER THE INPUT: true; the input reads as it did. -/
def fnExactLeastDistanceSpec : ChangeSpec := { name := "fnExactLeastDistance", fn := fun _ => fun
  | [d] => { results := [.lit (.bool true)], args := [d] }
  | _ => none }
def fnExactLeastDistanceRow : OpenClaim := { program := "ytbbcmknpbpfkaaa", sum := "b939d9a4d5a0afd5c79b4804dabdc2d092a0847583eb383b77f34a38128ee62a", func := "loop.example/g00940/laws.FnExactLeastDistance", spec := "fnExactLeastDistance", unfollowed := true, recurses := true, apart := false }
def FnExactLeastDistanceSaid : Prop := fnExactLeastDistanceRow.holds Try.pinned (OpenSpec.ofChange fnExactLeastDistanceSpec)

/-- ITS FALSE NEIGHBOUR: 'it returns false'. Refute it at one input. -/
def fnExactLeastDistanceWrong : ChangeSpec := { name := "fnExactLeastDistance", fn := fun _ => fun
  | [d] => { results := [.lit (.bool false)], args := [d] }
  | _ => none }
def FnExactLeastDistanceWrongFalsely : Prop := fnExactLeastDistanceRow.holds Try.pinned (OpenSpec.ofChange fnExactLeastDistanceWrong)

/-- 'laws.FnExactUnusedSignals': WHATEVER THE INPUT: true; the input reads as it did. -/
def fnExactUnusedSignalsSpec : ChangeSpec := { name := "fnExactUnusedSignals", fn := fun _ => fun
  | [d] => { results := [.lit (.bool true)], args := [d] }
  | _ => none }
def fnExactUnusedSignalsRow : OpenClaim := { program := "ytbbcmknpbpfkaaa", sum := "b939d9a4d5a0afd5c79b4804dabdc2d092a0847583eb383b77f34a38128ee62a", func := "loop.example/g00940/laws.FnExactUnusedSignals", spec := "fnExactUnusedSignals", unfollowed := true, recurses := true, apart := false }
def FnExactUnusedSignalsSaid : Prop := fnExactUnusedSignalsRow.holds Try.pinned (OpenSpec.ofChange fnExactUnusedSignalsSpec)

/-- ITS FALSE NEIGHBOUR: 'it returns false'. Refute it at one input. -/
def fnExactUnusedSignalsWrong : ChangeSpec := { name := "fnExactUnusedSignals", fn := fun _ => fun
  | [d] => { results := [.lit (.bool false)], args := [d] }
  | _ => none }
def FnExactUnusedSignalsWrongFalsely : Prop := fnExactUnusedSignalsRow.holds Try.pinned (OpenSpec.ofChange fnExactUnusedSignalsWrong)

/-- 'laws.FnExactCompareBooks': WHATEVER THE INPUT: true; the input reads as it did. -/
def fnExactCompareBooksSpec : ChangeSpec := { name := "fnExactCompareBooks", fn := fun _ => fun
  | [d1, d2, d3] => { results := [.lit (.bool true)], args := [d1, d2, d3] }
  | _ => none }
def fnExactCompareBooksRow : OpenClaim := { program := "ytbbcmknpbpfkaaa", sum := "b939d9a4d5a0afd5c79b4804dabdc2d092a0847583eb383b77f34a38128ee62a", func := "loop.example/g00940/laws.FnExactCompareBooks", spec := "fnExactCompareBooks", unfollowed := true, recurses := true, apart := false }
def FnExactCompareBooksSaid : Prop := fnExactCompareBooksRow.holds Try.pinned (OpenSpec.ofChange fnExactCompareBooksSpec)

/-- ITS FALSE NEIGHBOUR: 'it returns false'. Refute it at one input. -/
def fnExactCompareBooksWrong : ChangeSpec := { name := "fnExactCompareBooks", fn := fun _ => fun
  | [d1, d2, d3] => { results := [.lit (.bool false)], args := [d1, d2, d3] }
  | _ => none }
def FnExactCompareBooksWrongFalsely : Prop := fnExactCompareBooksRow.holds Try.pinned (OpenSpec.ofChange fnExactCompareBooksWrong)

/-- 'laws.FnExactCountWins': WHATEVER THE INPUT: true; the input reads as it did. -/
def fnExactCountWinsSpec : ChangeSpec := { name := "fnExactCountWins", fn := fun _ => fun
  | [d1, d2, d3] => { results := [.lit (.bool true)], args := [d1, d2, d3] }
  | _ => none }
def fnExactCountWinsRow : OpenClaim := { program := "ytbbcmknpbpfkaaa", sum := "b939d9a4d5a0afd5c79b4804dabdc2d092a0847583eb383b77f34a38128ee62a", func := "loop.example/g00940/laws.FnExactCountWins", spec := "fnExactCountWins", unfollowed := true, recurses := true, apart := false }
def FnExactCountWinsSaid : Prop := fnExactCountWinsRow.holds Try.pinned (OpenSpec.ofChange fnExactCountWinsSpec)

/-- ITS FALSE NEIGHBOUR: 'it returns false'. Refute it at one input. -/
def fnExactCountWinsWrong : ChangeSpec := { name := "fnExactCountWins", fn := fun _ => fun
  | [d1, d2, d3] => { results := [.lit (.bool false)], args := [d1, d2, d3] }
  | _ => none }
def FnExactCountWinsWrongFalsely : Prop := fnExactCountWinsRow.holds Try.pinned (OpenSpec.ofChange fnExactCountWinsWrong)

/-- 'laws.FnExactDealAnew': WHATEVER THE INPUT: true; the input reads as it did. -/
def fnExactDealAnewSpec : ChangeSpec := { name := "fnExactDealAnew", fn := fun _ => fun
  | [d1, d2] => { results := [.lit (.bool true)], args := [d1, d2] }
  | _ => none }
def fnExactDealAnewRow : OpenClaim := { program := "ytbbcmknpbpfkaaa", sum := "b939d9a4d5a0afd5c79b4804dabdc2d092a0847583eb383b77f34a38128ee62a", func := "loop.example/g00940/laws.FnExactDealAnew", spec := "fnExactDealAnew", unfollowed := true, recurses := true, apart := false }
def FnExactDealAnewSaid : Prop := fnExactDealAnewRow.holds Try.pinned (OpenSpec.ofChange fnExactDealAnewSpec)

/-- ITS FALSE NEIGHBOUR: 'it returns false'. Refute it at one input. -/
def fnExactDealAnewWrong : ChangeSpec := { name := "fnExactDealAnew", fn := fun _ => fun
  | [d1, d2] => { results := [.lit (.bool false)], args := [d1, d2] }
  | _ => none }
def FnExactDealAnewWrongFalsely : Prop := fnExactDealAnewRow.holds Try.pinned (OpenSpec.ofChange fnExactDealAnewWrong)

/-- 'laws.FnBookContests': WHATEVER THE INPUT: true; the input reads as it did. -/
def fnBookContestsSpec : ChangeSpec := { name := "fnBookContests", fn := fun _ => fun
  | [d1, d2] => { results := [.lit (.bool true)], args := [d1, d2] }
  | _ => none }
def fnBookContestsRow : OpenClaim := { program := "ytbbcmknpbpfkaaa", sum := "b939d9a4d5a0afd5c79b4804dabdc2d092a0847583eb383b77f34a38128ee62a", func := "loop.example/g00940/laws.FnBookContests", spec := "fnBookContests", unfollowed := true, recurses := true, apart := false }
def FnBookContestsSaid : Prop := fnBookContestsRow.holds Try.pinned (OpenSpec.ofChange fnBookContestsSpec)

/-- ITS FALSE NEIGHBOUR: 'it returns false'. Refute it at one input. -/
def fnBookContestsWrong : ChangeSpec := { name := "fnBookContests", fn := fun _ => fun
  | [d1, d2] => { results := [.lit (.bool false)], args := [d1, d2] }
  | _ => none }
def FnBookContestsWrongFalsely : Prop := fnBookContestsRow.holds Try.pinned (OpenSpec.ofChange fnBookContestsWrong)

/-- 'laws.FnBookUses': WHATEVER THE INPUT: true; the input reads as it did. -/
def fnBookUsesSpec : ChangeSpec := { name := "fnBookUses", fn := fun _ => fun
  | [d1, d2] => { results := [.lit (.bool true)], args := [d1, d2] }
  | _ => none }
def fnBookUsesRow : OpenClaim := { program := "ytbbcmknpbpfkaaa", sum := "b939d9a4d5a0afd5c79b4804dabdc2d092a0847583eb383b77f34a38128ee62a", func := "loop.example/g00940/laws.FnBookUses", spec := "fnBookUses", unfollowed := true, recurses := true, apart := false }
def FnBookUsesSaid : Prop := fnBookUsesRow.holds Try.pinned (OpenSpec.ofChange fnBookUsesSpec)

/-- ITS FALSE NEIGHBOUR: 'it returns false'. Refute it at one input. -/
def fnBookUsesWrong : ChangeSpec := { name := "fnBookUses", fn := fun _ => fun
  | [d1, d2] => { results := [.lit (.bool false)], args := [d1, d2] }
  | _ => none }
def FnBookUsesWrongFalsely : Prop := fnBookUsesRow.holds Try.pinned (OpenSpec.ofChange fnBookUsesWrong)

/-- 'laws.FnExactShowSeconds': WHATEVER THE INPUT: true; the input reads as it did. -/
def fnExactShowSecondsSpec : ChangeSpec := { name := "fnExactShowSeconds", fn := fun _ => fun
  | [d1, d2, d3] => { results := [.lit (.bool true)], args := [d1, d2, d3] }
  | _ => none }
def fnExactShowSecondsRow : OpenClaim := { program := "ytbbcmknpbpfkaaa", sum := "b939d9a4d5a0afd5c79b4804dabdc2d092a0847583eb383b77f34a38128ee62a", func := "loop.example/g00940/laws.FnExactShowSeconds", spec := "fnExactShowSeconds", unfollowed := true, recurses := true, apart := false }
def FnExactShowSecondsSaid : Prop := fnExactShowSecondsRow.holds Try.pinned (OpenSpec.ofChange fnExactShowSecondsSpec)

/-- ITS FALSE NEIGHBOUR: 'it returns false'. Refute it at one input. -/
def fnExactShowSecondsWrong : ChangeSpec := { name := "fnExactShowSeconds", fn := fun _ => fun
  | [d1, d2, d3] => { results := [.lit (.bool false)], args := [d1, d2, d3] }
  | _ => none }
def FnExactShowSecondsWrongFalsely : Prop := fnExactShowSecondsRow.holds Try.pinned (OpenSpec.ofChange fnExactShowSecondsWrong)

/- THE SECOND FORM. 'bulk': how many values and letters a reading holds, each counted each time it is reached (what is shared counts as often as it is met; a slice's spare places count too). A statement '..UptoSaid' is the law's where the arguments, and the package variables that the reading takes, are together of bulk at most 1048576: NARROWER than '..Said'. Prove '..Said' where nothing that the law and all that it calls make is longer than what came in: it says more and counts as full. Else prove '..UptoSaid'. A law counts once. -/
mutual
def uptoBulk {H : Type} : DataW H → Nat
  | .lit (.string bytes) => bytes.length + 1
  | .lit _ => 1
  | .nil => 1
  | .ptr d => uptoBulk d + 1
  | .slice elems spare => uptoBulkAll elems + uptoBulkAll spare + 1
  | .agg parts => uptoBulkAll parts + 1
  | .iface _ d => uptoBulk d + 1
  | .map entries => uptoBulkEntries entries + 1
  | .held _ => 1
def uptoBulkAll {H : Type} : List (DataW H) → Nat
  | [] => 0
  | d :: r => uptoBulk d + uptoBulkAll r
def uptoBulkEntries {H : Type} : List (Lit × DataW H) → Nat
  | [] => 0
  | x :: r => uptoBulkEntry x + uptoBulkEntries r
def uptoBulkEntry {H : Type} : Lit × DataW H → Nat
  | (.string bytes, d) => bytes.length + uptoBulk d + 1
  | (_, d) => uptoBulk d + 1
 end
def uptoSmall : (H : Type) → List (DataW H) → Bool := fun _ ds => decide (uptoBulkAll ds ≤ 1048576)
def OpenSpec.upto (s : _root_.Go.ChangeSpec) : _root_.Go.OpenSpec := { _root_.Go.OpenSpec.ofChange s with cond := some uptoSmall }

/-- 'laws.FnExactBookCost', WHERE WHAT IT READS IS OF BULK AT MOST 1048576: true; the input reads as it did. -/
def fnExactBookCostUptoRow : OpenClaim := { program := "ytbbcmknpbpfkaaa", sum := "b939d9a4d5a0afd5c79b4804dabdc2d092a0847583eb383b77f34a38128ee62a", func := "loop.example/g00940/laws.FnExactBookCost", spec := "fnExactBookCost", unfollowed := true, recurses := true, apart := false, narrowed := true }
def FnExactBookCostUptoSaid : Prop := fnExactBookCostUptoRow.holds Try.pinned (OpenSpec.upto fnExactBookCostSpec)

/-- 'laws.FnExactMeanSignals', WHERE WHAT IT READS IS OF BULK AT MOST 1048576: true; the input reads as it did. -/
def fnExactMeanSignalsUptoRow : OpenClaim := { program := "ytbbcmknpbpfkaaa", sum := "b939d9a4d5a0afd5c79b4804dabdc2d092a0847583eb383b77f34a38128ee62a", func := "loop.example/g00940/laws.FnExactMeanSignals", spec := "fnExactMeanSignals", unfollowed := true, recurses := true, apart := false, narrowed := true }
def FnExactMeanSignalsUptoSaid : Prop := fnExactMeanSignalsUptoRow.holds Try.pinned (OpenSpec.upto fnExactMeanSignalsSpec)

/-- 'laws.FnExactSignalUses', WHERE WHAT IT READS IS OF BULK AT MOST 1048576: true; the input reads as it did. -/
def fnExactSignalUsesUptoRow : OpenClaim := { program := "ytbbcmknpbpfkaaa", sum := "b939d9a4d5a0afd5c79b4804dabdc2d092a0847583eb383b77f34a38128ee62a", func := "loop.example/g00940/laws.FnExactSignalUses", spec := "fnExactSignalUses", unfollowed := true, recurses := true, apart := false, narrowed := true }
def FnExactSignalUsesUptoSaid : Prop := fnExactSignalUsesUptoRow.holds Try.pinned (OpenSpec.upto fnExactSignalUsesSpec)

/-- 'laws.FnExactClosestPhrases', WHERE WHAT IT READS IS OF BULK AT MOST 1048576: true; the input reads as it did. -/
def fnExactClosestPhrasesUptoRow : OpenClaim := { program := "ytbbcmknpbpfkaaa", sum := "b939d9a4d5a0afd5c79b4804dabdc2d092a0847583eb383b77f34a38128ee62a", func := "loop.example/g00940/laws.FnExactClosestPhrases", spec := "fnExactClosestPhrases", unfollowed := true, recurses := true, apart := false, narrowed := true }
def FnExactClosestPhrasesUptoSaid : Prop := fnExactClosestPhrasesUptoRow.holds Try.pinned (OpenSpec.upto fnExactClosestPhrasesSpec)

/-- 'laws.FnExactLeastDistance', WHERE WHAT IT READS IS OF BULK AT MOST 1048576: true; the input reads as it did. -/
def fnExactLeastDistanceUptoRow : OpenClaim := { program := "ytbbcmknpbpfkaaa", sum := "b939d9a4d5a0afd5c79b4804dabdc2d092a0847583eb383b77f34a38128ee62a", func := "loop.example/g00940/laws.FnExactLeastDistance", spec := "fnExactLeastDistance", unfollowed := true, recurses := true, apart := false, narrowed := true }
def FnExactLeastDistanceUptoSaid : Prop := fnExactLeastDistanceUptoRow.holds Try.pinned (OpenSpec.upto fnExactLeastDistanceSpec)

/-- 'laws.FnExactUnusedSignals', WHERE WHAT IT READS IS OF BULK AT MOST 1048576: true; the input reads as it did. -/
def fnExactUnusedSignalsUptoRow : OpenClaim := { program := "ytbbcmknpbpfkaaa", sum := "b939d9a4d5a0afd5c79b4804dabdc2d092a0847583eb383b77f34a38128ee62a", func := "loop.example/g00940/laws.FnExactUnusedSignals", spec := "fnExactUnusedSignals", unfollowed := true, recurses := true, apart := false, narrowed := true }
def FnExactUnusedSignalsUptoSaid : Prop := fnExactUnusedSignalsUptoRow.holds Try.pinned (OpenSpec.upto fnExactUnusedSignalsSpec)

/-- 'laws.FnExactCompareBooks', WHERE WHAT IT READS IS OF BULK AT MOST 1048576: true; the input reads as it did. -/
def fnExactCompareBooksUptoRow : OpenClaim := { program := "ytbbcmknpbpfkaaa", sum := "b939d9a4d5a0afd5c79b4804dabdc2d092a0847583eb383b77f34a38128ee62a", func := "loop.example/g00940/laws.FnExactCompareBooks", spec := "fnExactCompareBooks", unfollowed := true, recurses := true, apart := false, narrowed := true }
def FnExactCompareBooksUptoSaid : Prop := fnExactCompareBooksUptoRow.holds Try.pinned (OpenSpec.upto fnExactCompareBooksSpec)

/-- 'laws.FnExactCountWins', WHERE WHAT IT READS IS OF BULK AT MOST 1048576: true; the input reads as it did. -/
def fnExactCountWinsUptoRow : OpenClaim := { program := "ytbbcmknpbpfkaaa", sum := "b939d9a4d5a0afd5c79b4804dabdc2d092a0847583eb383b77f34a38128ee62a", func := "loop.example/g00940/laws.FnExactCountWins", spec := "fnExactCountWins", unfollowed := true, recurses := true, apart := false, narrowed := true }
def FnExactCountWinsUptoSaid : Prop := fnExactCountWinsUptoRow.holds Try.pinned (OpenSpec.upto fnExactCountWinsSpec)

/-- 'laws.FnExactDealAnew', WHERE WHAT IT READS IS OF BULK AT MOST 1048576: true; the input reads as it did. -/
def fnExactDealAnewUptoRow : OpenClaim := { program := "ytbbcmknpbpfkaaa", sum := "b939d9a4d5a0afd5c79b4804dabdc2d092a0847583eb383b77f34a38128ee62a", func := "loop.example/g00940/laws.FnExactDealAnew", spec := "fnExactDealAnew", unfollowed := true, recurses := true, apart := false, narrowed := true }
def FnExactDealAnewUptoSaid : Prop := fnExactDealAnewUptoRow.holds Try.pinned (OpenSpec.upto fnExactDealAnewSpec)

/-- 'laws.FnBookContests', WHERE WHAT IT READS IS OF BULK AT MOST 1048576: true; the input reads as it did. -/
def fnBookContestsUptoRow : OpenClaim := { program := "ytbbcmknpbpfkaaa", sum := "b939d9a4d5a0afd5c79b4804dabdc2d092a0847583eb383b77f34a38128ee62a", func := "loop.example/g00940/laws.FnBookContests", spec := "fnBookContests", unfollowed := true, recurses := true, apart := false, narrowed := true }
def FnBookContestsUptoSaid : Prop := fnBookContestsUptoRow.holds Try.pinned (OpenSpec.upto fnBookContestsSpec)

/-- 'laws.FnBookUses', WHERE WHAT IT READS IS OF BULK AT MOST 1048576: true; the input reads as it did. -/
def fnBookUsesUptoRow : OpenClaim := { program := "ytbbcmknpbpfkaaa", sum := "b939d9a4d5a0afd5c79b4804dabdc2d092a0847583eb383b77f34a38128ee62a", func := "loop.example/g00940/laws.FnBookUses", spec := "fnBookUses", unfollowed := true, recurses := true, apart := false, narrowed := true }
def FnBookUsesUptoSaid : Prop := fnBookUsesUptoRow.holds Try.pinned (OpenSpec.upto fnBookUsesSpec)

/-- 'laws.FnExactShowSeconds', WHERE WHAT IT READS IS OF BULK AT MOST 1048576: true; the input reads as it did. -/
def fnExactShowSecondsUptoRow : OpenClaim := { program := "ytbbcmknpbpfkaaa", sum := "b939d9a4d5a0afd5c79b4804dabdc2d092a0847583eb383b77f34a38128ee62a", func := "loop.example/g00940/laws.FnExactShowSeconds", spec := "fnExactShowSeconds", unfollowed := true, recurses := true, apart := false, narrowed := true }
def FnExactShowSecondsUptoSaid : Prop := fnExactShowSecondsUptoRow.holds Try.pinned (OpenSpec.upto fnExactShowSecondsSpec)

end Rows
end Go.Proofs.Ytbbcmknpbpfkaaa
