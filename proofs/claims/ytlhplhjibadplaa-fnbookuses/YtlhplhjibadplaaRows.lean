/-
  No cell of these rows narrows 'for every input' (looked for: loops, veiled, ifaces, maps, wideKeys, modest, calm, conditions, laid).
  DERIVED. THE GIVEN ROWS OF THIS SEAT. 4 by the template 'for every input the law returns true; each argument reads behind the call as it read before'; 0 by the template 'total and deterministic' (their statements: YtlhplhjibadplaaTotals.lean).
  GIVEN WITH THE SEED: the statements are not yours to turn. If you find one false, say at which input.
  Laid BY PROGRAM, IN A SANDBOX (cutbox-rows.mjs): the forced cells as the released guide's own fill.sh prints them over the translation 91a7ed931d712c27… (all of the seat's roots in one cut). By AI agents, Wed Nov 11 2026. No macro, syntax, notation, axiom, sorry.
-/
import Derived.Test.YtlhplhjibadplaaChecked
import GoSem.Claim
import GoSem.ClaimJoined
import GoSem.ClaimMapViews
import Derived.JoinedTies
import Derived.KernelRfl
namespace Go.Proofs.Ytlhplhjibadplaa
/- THE CELL 'sum', in the pinned program and in every row, IS THE sha256 OF THE DUMP (.gsa) THAT YtlhplhjibadplaaProg.lean LOADS. Nothing in Lean hashes anything: it is a label: what it is worth is what the hold of that sum in a sandbox is worth. -/
noncomputable def Try.pinned : Pinned := { name := "ytlhplhjibadplaa", sum := "91a7ed931d712c27f4444cc45c74911bf7eef07b4eeb1db49b9efd8f832c03ad", checked := Try.checked }
namespace Rows
def none {H : Type} : Left H := { results := [], args := [] }

/-- 'laws.FnExactCountWins': WHATEVER THE INPUT: true; the input reads as it did. -/
def fnExactCountWinsSpec : ChangeSpec := { name := "fnExactCountWins", fn := fun _ => fun
  | [d1, d2, d3] => { results := [.lit (.bool true)], args := [d1, d2, d3] }
  | _ => none }
def fnExactCountWinsRow : OpenClaim := { program := "ytlhplhjibadplaa", sum := "91a7ed931d712c27f4444cc45c74911bf7eef07b4eeb1db49b9efd8f832c03ad", func := "loop.example/g00940/laws.FnExactCountWins", spec := "fnExactCountWins", unfollowed := true, recurses := true, apart := false }
def FnExactCountWinsSaid : Prop := fnExactCountWinsRow.holds Try.pinned (OpenSpec.ofChange fnExactCountWinsSpec)

/-- ITS FALSE NEIGHBOUR: 'it returns false'. Refute it at one input. -/
def fnExactCountWinsWrong : ChangeSpec := { name := "fnExactCountWins", fn := fun _ => fun
  | [d1, d2, d3] => { results := [.lit (.bool false)], args := [d1, d2, d3] }
  | _ => none }
def FnExactCountWinsWrongFalsely : Prop := fnExactCountWinsRow.holds Try.pinned (OpenSpec.ofChange fnExactCountWinsWrong)

/-- 'laws.FnExactDealAnew': WHATEVER THE INPUT: true; the input reads as it did. -/
def fnExactDealAnewSpec : ChangeSpec := { name := "fnExactDealAnew", fn := fun _ => fun
  | [d1, d2] => { results := [.lit (.bool true)], args := [d1, d2] }
  | _ => none }
def fnExactDealAnewRow : OpenClaim := { program := "ytlhplhjibadplaa", sum := "91a7ed931d712c27f4444cc45c74911bf7eef07b4eeb1db49b9efd8f832c03ad", func := "loop.example/g00940/laws.FnExactDealAnew", spec := "fnExactDealAnew", unfollowed := true, recurses := true, apart := false }
def FnExactDealAnewSaid : Prop := fnExactDealAnewRow.holds Try.pinned (OpenSpec.ofChange fnExactDealAnewSpec)

/-- ITS FALSE NEIGHBOUR: 'it returns false'. Refute it at one input. -/
def fnExactDealAnewWrong : ChangeSpec := { name := "fnExactDealAnew", fn := fun _ => fun
  | [d1, d2] => { results := [.lit (.bool false)], args := [d1, d2] }
  | _ => none }
def FnExactDealAnewWrongFalsely : Prop := fnExactDealAnewRow.holds Try.pinned (OpenSpec.ofChange fnExactDealAnewWrong)

/-- 'laws.FnBookContests': WHATEVER THE INPUT: true; the input reads as it did. -/
def fnBookContestsSpec : ChangeSpec := { name := "fnBookContests", fn := fun _ => fun
  | [d1, d2] => { results := [.lit (.bool true)], args := [d1, d2] }
  | _ => none }
def fnBookContestsRow : OpenClaim := { program := "ytlhplhjibadplaa", sum := "91a7ed931d712c27f4444cc45c74911bf7eef07b4eeb1db49b9efd8f832c03ad", func := "loop.example/g00940/laws.FnBookContests", spec := "fnBookContests", unfollowed := true, recurses := true, apart := false }
def FnBookContestsSaid : Prop := fnBookContestsRow.holds Try.pinned (OpenSpec.ofChange fnBookContestsSpec)

/-- ITS FALSE NEIGHBOUR: 'it returns false'. Refute it at one input. -/
def fnBookContestsWrong : ChangeSpec := { name := "fnBookContests", fn := fun _ => fun
  | [d1, d2] => { results := [.lit (.bool false)], args := [d1, d2] }
  | _ => none }
def FnBookContestsWrongFalsely : Prop := fnBookContestsRow.holds Try.pinned (OpenSpec.ofChange fnBookContestsWrong)

/-- 'laws.FnBookUses': WHATEVER THE INPUT: true; the input reads as it did. -/
def fnBookUsesSpec : ChangeSpec := { name := "fnBookUses", fn := fun _ => fun
  | [d1, d2] => { results := [.lit (.bool true)], args := [d1, d2] }
  | _ => none }
def fnBookUsesRow : OpenClaim := { program := "ytlhplhjibadplaa", sum := "91a7ed931d712c27f4444cc45c74911bf7eef07b4eeb1db49b9efd8f832c03ad", func := "loop.example/g00940/laws.FnBookUses", spec := "fnBookUses", unfollowed := true, recurses := true, apart := false }
def FnBookUsesSaid : Prop := fnBookUsesRow.holds Try.pinned (OpenSpec.ofChange fnBookUsesSpec)

/-- ITS FALSE NEIGHBOUR: 'it returns false'. Refute it at one input. -/
def fnBookUsesWrong : ChangeSpec := { name := "fnBookUses", fn := fun _ => fun
  | [d1, d2] => { results := [.lit (.bool false)], args := [d1, d2] }
  | _ => none }
def FnBookUsesWrongFalsely : Prop := fnBookUsesRow.holds Try.pinned (OpenSpec.ofChange fnBookUsesWrong)

/- THE SECOND FORM. 'bulk': how many values and letters a reading holds, each counted each time it is reached (what is shared counts as often as it is met; a slice's spare places count too). A statement '..UptoSaid' is the law's where the arguments, and the package variables that the reading takes, are together of bulk at most 1048576: NARROWER than '..Said'. Prove '..Said' where nothing that the law and all that it calls make is longer than what came in: it says more and counts as full. Else prove '..UptoSaid'. A law counts once. -/
mutual
def uptoBulk {H : Type} : DataW H → Nat
  | .lit (.string bytes) => bytes.length + 1
  | .lit _ => 1
  | .nil => 1
  | .ptr d => uptoBulk d + 1
  | .slice elems spare => uptoBulkAll elems + uptoBulkAll spare + 1
  | .agg parts => uptoBulkAll parts + 1
  | .iface _ d => uptoBulk d + 1
  | .map entries => uptoBulkEntries entries + 1
  | .held _ => 1
def uptoBulkAll {H : Type} : List (DataW H) → Nat
  | [] => 0
  | d :: r => uptoBulk d + uptoBulkAll r
def uptoBulkEntries {H : Type} : List (Lit × DataW H) → Nat
  | [] => 0
  | x :: r => uptoBulkEntry x + uptoBulkEntries r
def uptoBulkEntry {H : Type} : Lit × DataW H → Nat
  | (.string bytes, d) => bytes.length + uptoBulk d + 1
  | (_, d) => uptoBulk d + 1
 end
def uptoSmall : (H : Type) → List (DataW H) → Bool := fun _ ds => decide (uptoBulkAll ds ≤ 1048576)
def OpenSpec.upto (s : _root_.Go.ChangeSpec) : _root_.Go.OpenSpec := { _root_.Go.OpenSpec.ofChange s with cond := some uptoSmall }

/-- 'laws.FnExactCountWins', WHERE WHAT IT READS IS OF BULK AT MOST 1048576: true; the input reads as it did. -/
def fnExactCountWinsUptoRow : OpenClaim := { program := "ytlhplhjibadplaa", sum := "91a7ed931d712c27f4444cc45c74911bf7eef07b4eeb1db49b9efd8f832c03ad", func := "loop.example/g00940/laws.FnExactCountWins", spec := "fnExactCountWins", unfollowed := true, recurses := true, apart := false, narrowed := true }
def FnExactCountWinsUptoSaid : Prop := fnExactCountWinsUptoRow.holds Try.pinned (OpenSpec.upto fnExactCountWinsSpec)

/-- 'laws.FnExactDealAnew', WHERE WHAT IT READS IS OF BULK AT MOST 1048576: true; the input reads as it did. -/
def fnExactDealAnewUptoRow : OpenClaim := { program := "ytlhplhjibadplaa", sum := "91a7ed931d712c27f4444cc45c74911bf7eef07b4eeb1db49b9efd8f832c03ad", func := "loop.example/g00940/laws.FnExactDealAnew", spec := "fnExactDealAnew", unfollowed := true, recurses := true, apart := false, narrowed := true }
def FnExactDealAnewUptoSaid : Prop := fnExactDealAnewUptoRow.holds Try.pinned (OpenSpec.upto fnExactDealAnewSpec)

/-- 'laws.FnBookContests', WHERE WHAT IT READS IS OF BULK AT MOST 1048576: true; the input reads as it did. -/
def fnBookContestsUptoRow : OpenClaim := { program := "ytlhplhjibadplaa", sum := "91a7ed931d712c27f4444cc45c74911bf7eef07b4eeb1db49b9efd8f832c03ad", func := "loop.example/g00940/laws.FnBookContests", spec := "fnBookContests", unfollowed := true, recurses := true, apart := false, narrowed := true }
def FnBookContestsUptoSaid : Prop := fnBookContestsUptoRow.holds Try.pinned (OpenSpec.upto fnBookContestsSpec)

/-- 'laws.FnBookUses', WHERE WHAT IT READS IS OF BULK AT MOST 1048576: true; the input reads as it did. -/
def fnBookUsesUptoRow : OpenClaim := { program := "ytlhplhjibadplaa", sum := "91a7ed931d712c27f4444cc45c74911bf7eef07b4eeb1db49b9efd8f832c03ad", func := "loop.example/g00940/laws.FnBookUses", spec := "fnBookUses", unfollowed := true, recurses := true, apart := false, narrowed := true }
def FnBookUsesUptoSaid : Prop := fnBookUsesUptoRow.holds Try.pinned (OpenSpec.upto fnBookUsesSpec)

end Rows
end Go.Proofs.Ytlhplhjibadplaa
