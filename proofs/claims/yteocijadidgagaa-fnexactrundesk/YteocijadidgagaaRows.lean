/-
  No cell of these rows narrows 'for every input' (looked for: loops, veiled, ifaces, maps, wideKeys, modest, calm, conditions, laid).
  DERIVED. THE GIVEN ROWS OF THIS SEAT. 5 by the template 'for every input the law returns true; each argument reads behind the call as it read before'; 0 by the template 'total and deterministic' (their statements: YteocijadidgagaaTotals.lean).
  GIVEN WITH THE SEED: the statements are not yours to turn. If you find one false, say at which input.
  Laid BY PROGRAM, IN A SANDBOX (cutbox-rows.mjs): the forced cells as the released guide's own fill.sh prints them over the translation a24a606982fb911f… (all of the seat's roots in one cut). By AI agents, Wed Nov 11 2026. No macro, syntax, notation, axiom, sorry.
-/
import Derived.Test.YteocijadidgagaaChecked
import GoSem.Claim
import GoSem.ClaimJoined
import GoSem.ClaimMapViews
import Derived.JoinedTies
import Derived.KernelRfl
namespace Go.Proofs.Yteocijadidgagaa
/- THE CELL 'sum', in the pinned program and in every row, IS THE sha256 OF THE DUMP (.gsa) THAT YteocijadidgagaaProg.lean LOADS. Nothing in Lean hashes anything: it is a label: what it is worth is what the hold of that sum in a sandbox is worth. -/
noncomputable def Try.pinned : Pinned := { name := "yteocijadidgagaa", sum := "a24a606982fb911f37447b4b20b7eca9e8ce34f2fe59d50b83a876c2a8c9d0a3", checked := Try.checked }
namespace Rows
def none {H : Type} : Left H := { results := [], args := [] }

/-- 'laws.FnExactGiveUp': WHATEVER THE INPUT: true; the input reads as it did. -/
def fnExactGiveUpSpec : ChangeSpec := { name := "fnExactGiveUp", fn := fun _ => fun
  | [d1, d2] => { results := [.lit (.bool true)], args := [d1, d2] }
  | _ => none }
def fnExactGiveUpRow : OpenClaim := { program := "yteocijadidgagaa", sum := "a24a606982fb911f37447b4b20b7eca9e8ce34f2fe59d50b83a876c2a8c9d0a3", func := "loop.example/g00940/laws.FnExactGiveUp", spec := "fnExactGiveUp", inPlace := ["slices.overlaps[loop.example/g00940/impl.Ticket]"], unfollowed := true, recurses := true, apart := false }
def FnExactGiveUpSaid : Prop := fnExactGiveUpRow.holds Try.pinned (OpenSpec.ofChange fnExactGiveUpSpec)

/-- ITS FALSE NEIGHBOUR: 'it returns false'. Refute it at one input. -/
def fnExactGiveUpWrong : ChangeSpec := { name := "fnExactGiveUp", fn := fun _ => fun
  | [d1, d2] => { results := [.lit (.bool false)], args := [d1, d2] }
  | _ => none }
def FnExactGiveUpWrongFalsely : Prop := fnExactGiveUpRow.holds Try.pinned (OpenSpec.ofChange fnExactGiveUpWrong)

/-- 'laws.FnExactClearDesk': WHATEVER THE INPUT: true; the input reads as it did. -/
def fnExactClearDeskSpec : ChangeSpec := { name := "fnExactClearDesk", fn := fun _ => fun
  | [d] => { results := [.lit (.bool true)], args := [d] }
  | _ => none }
def fnExactClearDeskRow : OpenClaim := { program := "yteocijadidgagaa", sum := "a24a606982fb911f37447b4b20b7eca9e8ce34f2fe59d50b83a876c2a8c9d0a3", func := "loop.example/g00940/laws.FnExactClearDesk", spec := "fnExactClearDesk", unfollowed := true, recurses := true, apart := false }
def FnExactClearDeskSaid : Prop := fnExactClearDeskRow.holds Try.pinned (OpenSpec.ofChange fnExactClearDeskSpec)

/-- ITS FALSE NEIGHBOUR: 'it returns false'. Refute it at one input. -/
def fnExactClearDeskWrong : ChangeSpec := { name := "fnExactClearDesk", fn := fun _ => fun
  | [d] => { results := [.lit (.bool false)], args := [d] }
  | _ => none }
def FnExactClearDeskWrongFalsely : Prop := fnExactClearDeskRow.holds Try.pinned (OpenSpec.ofChange fnExactClearDeskWrong)

/-- 'laws.FnExactAcceptMessage': WHATEVER THE INPUT: true; the input reads as it did. -/
def fnExactAcceptMessageSpec : ChangeSpec := { name := "fnExactAcceptMessage", fn := fun _ => fun
  | [d1, d2, d3] => { results := [.lit (.bool true)], args := [d1, d2, d3] }
  | _ => none }
def fnExactAcceptMessageRow : OpenClaim := { program := "yteocijadidgagaa", sum := "a24a606982fb911f37447b4b20b7eca9e8ce34f2fe59d50b83a876c2a8c9d0a3", func := "loop.example/g00940/laws.FnExactAcceptMessage", spec := "fnExactAcceptMessage", inPlace := ["slices.overlaps[loop.example/g00940/impl.Ticket]"], unfollowed := true, recurses := true, apart := false }
def FnExactAcceptMessageSaid : Prop := fnExactAcceptMessageRow.holds Try.pinned (OpenSpec.ofChange fnExactAcceptMessageSpec)

/-- ITS FALSE NEIGHBOUR: 'it returns false'. Refute it at one input. -/
def fnExactAcceptMessageWrong : ChangeSpec := { name := "fnExactAcceptMessage", fn := fun _ => fun
  | [d1, d2, d3] => { results := [.lit (.bool false)], args := [d1, d2, d3] }
  | _ => none }
def FnExactAcceptMessageWrongFalsely : Prop := fnExactAcceptMessageRow.holds Try.pinned (OpenSpec.ofChange fnExactAcceptMessageWrong)

/-- 'laws.FnExactNoteArrival': WHATEVER THE INPUT: true; the input reads as it did. -/
def fnExactNoteArrivalSpec : ChangeSpec := { name := "fnExactNoteArrival", fn := fun _ => fun
  | [d1, d2, d3] => { results := [.lit (.bool true)], args := [d1, d2, d3] }
  | _ => none }
def fnExactNoteArrivalRow : OpenClaim := { program := "yteocijadidgagaa", sum := "a24a606982fb911f37447b4b20b7eca9e8ce34f2fe59d50b83a876c2a8c9d0a3", func := "loop.example/g00940/laws.FnExactNoteArrival", spec := "fnExactNoteArrival", inPlace := ["slices.overlaps[loop.example/g00940/impl.Ticket]"], unfollowed := true, recurses := true, apart := false }
def FnExactNoteArrivalSaid : Prop := fnExactNoteArrivalRow.holds Try.pinned (OpenSpec.ofChange fnExactNoteArrivalSpec)

/-- ITS FALSE NEIGHBOUR: 'it returns false'. Refute it at one input. -/
def fnExactNoteArrivalWrong : ChangeSpec := { name := "fnExactNoteArrival", fn := fun _ => fun
  | [d1, d2, d3] => { results := [.lit (.bool false)], args := [d1, d2, d3] }
  | _ => none }
def FnExactNoteArrivalWrongFalsely : Prop := fnExactNoteArrivalRow.holds Try.pinned (OpenSpec.ofChange fnExactNoteArrivalWrong)

/-- 'laws.FnExactRunDesk': WHATEVER THE INPUT: true; the input reads as it did. -/
def fnExactRunDeskSpec : ChangeSpec := { name := "fnExactRunDesk", fn := fun _ => fun
  | [d1, d2] => { results := [.lit (.bool true)], args := [d1, d2] }
  | _ => none }
def fnExactRunDeskRow : OpenClaim := { program := "yteocijadidgagaa", sum := "a24a606982fb911f37447b4b20b7eca9e8ce34f2fe59d50b83a876c2a8c9d0a3", func := "loop.example/g00940/laws.FnExactRunDesk", spec := "fnExactRunDesk", inPlace := ["slices.overlaps[loop.example/g00940/impl.Ticket]"], unfollowed := true, recurses := true, apart := false }
def FnExactRunDeskSaid : Prop := fnExactRunDeskRow.holds Try.pinned (OpenSpec.ofChange fnExactRunDeskSpec)

/-- ITS FALSE NEIGHBOUR: 'it returns false'. Refute it at one input. -/
def fnExactRunDeskWrong : ChangeSpec := { name := "fnExactRunDesk", fn := fun _ => fun
  | [d1, d2] => { results := [.lit (.bool false)], args := [d1, d2] }
  | _ => none }
def FnExactRunDeskWrongFalsely : Prop := fnExactRunDeskRow.holds Try.pinned (OpenSpec.ofChange fnExactRunDeskWrong)

/- THE SECOND FORM. 'bulk': how many values and letters a reading holds, each counted each time it is reached (what is shared counts as often as it is met; a slice's spare places count too). A statement '..UptoSaid' is the law's where the arguments, and the package variables that the reading takes, are together of bulk at most 1048576: NARROWER than '..Said'. Prove '..Said' where nothing that the law and all that it calls make is longer than what came in: it says more and counts as full. Else prove '..UptoSaid'. A law counts once. -/
mutual
def uptoBulk {H : Type} : DataW H → Nat
  | .lit (.string bytes) => bytes.length + 1
  | .lit _ => 1
  | .nil => 1
  | .ptr d => uptoBulk d + 1
  | .slice elems spare => uptoBulkAll elems + uptoBulkAll spare + 1
  | .agg parts => uptoBulkAll parts + 1
  | .iface _ d => uptoBulk d + 1
  | .map entries => uptoBulkEntries entries + 1
  | .held _ => 1
def uptoBulkAll {H : Type} : List (DataW H) → Nat
  | [] => 0
  | d :: r => uptoBulk d + uptoBulkAll r
def uptoBulkEntries {H : Type} : List (Lit × DataW H) → Nat
  | [] => 0
  | x :: r => uptoBulkEntry x + uptoBulkEntries r
def uptoBulkEntry {H : Type} : Lit × DataW H → Nat
  | (.string bytes, d) => bytes.length + uptoBulk d + 1
  | (_, d) => uptoBulk d + 1
 end
def uptoSmall : (H : Type) → List (DataW H) → Bool := fun _ ds => decide (uptoBulkAll ds ≤ 1048576)
def OpenSpec.upto (s : _root_.Go.ChangeSpec) : _root_.Go.OpenSpec := { _root_.Go.OpenSpec.ofChange s with cond := some uptoSmall }

/-- 'laws.FnExactGiveUp', WHERE WHAT IT READS IS OF BULK AT MOST 1048576: true; the input reads as it did. -/
def fnExactGiveUpUptoRow : OpenClaim := { program := "yteocijadidgagaa", sum := "a24a606982fb911f37447b4b20b7eca9e8ce34f2fe59d50b83a876c2a8c9d0a3", func := "loop.example/g00940/laws.FnExactGiveUp", spec := "fnExactGiveUp", inPlace := ["slices.overlaps[loop.example/g00940/impl.Ticket]"], unfollowed := true, recurses := true, apart := false, narrowed := true }
def FnExactGiveUpUptoSaid : Prop := fnExactGiveUpUptoRow.holds Try.pinned (OpenSpec.upto fnExactGiveUpSpec)

/-- 'laws.FnExactClearDesk', WHERE WHAT IT READS IS OF BULK AT MOST 1048576: true; the input reads as it did. -/
def fnExactClearDeskUptoRow : OpenClaim := { program := "yteocijadidgagaa", sum := "a24a606982fb911f37447b4b20b7eca9e8ce34f2fe59d50b83a876c2a8c9d0a3", func := "loop.example/g00940/laws.FnExactClearDesk", spec := "fnExactClearDesk", unfollowed := true, recurses := true, apart := false, narrowed := true }
def FnExactClearDeskUptoSaid : Prop := fnExactClearDeskUptoRow.holds Try.pinned (OpenSpec.upto fnExactClearDeskSpec)

/-- 'laws.FnExactAcceptMessage', WHERE WHAT IT READS IS OF BULK AT MOST 1048576: true; the input reads as it did. -/
def fnExactAcceptMessageUptoRow : OpenClaim := { program := "yteocijadidgagaa", sum := "a24a606982fb911f37447b4b20b7eca9e8ce34f2fe59d50b83a876c2a8c9d0a3", func := "loop.example/g00940/laws.FnExactAcceptMessage", spec := "fnExactAcceptMessage", inPlace := ["slices.overlaps[loop.example/g00940/impl.Ticket]"], unfollowed := true, recurses := true, apart := false, narrowed := true }
def FnExactAcceptMessageUptoSaid : Prop := fnExactAcceptMessageUptoRow.holds Try.pinned (OpenSpec.upto fnExactAcceptMessageSpec)

/-- 'laws.FnExactNoteArrival', WHERE WHAT IT READS IS OF BULK AT MOST 1048576: true; the input reads as it did. -/
def fnExactNoteArrivalUptoRow : OpenClaim := { program := "yteocijadidgagaa", sum := "a24a606982fb911f37447b4b20b7eca9e8ce34f2fe59d50b83a876c2a8c9d0a3", func := "loop.example/g00940/laws.FnExactNoteArrival", spec := "fnExactNoteArrival", inPlace := ["slices.overlaps[loop.example/g00940/impl.Ticket]"], unfollowed := true, recurses := true, apart := false, narrowed := true }
def FnExactNoteArrivalUptoSaid : Prop := fnExactNoteArrivalUptoRow.holds Try.pinned (OpenSpec.upto fnExactNoteArrivalSpec)

/-- 'laws.FnExactRunDesk', WHERE WHAT IT READS IS OF BULK AT MOST 1048576: true; the input reads as it did. -/
def fnExactRunDeskUptoRow : OpenClaim := { program := "yteocijadidgagaa", sum := "a24a606982fb911f37447b4b20b7eca9e8ce34f2fe59d50b83a876c2a8c9d0a3", func := "loop.example/g00940/laws.FnExactRunDesk", spec := "fnExactRunDesk", inPlace := ["slices.overlaps[loop.example/g00940/impl.Ticket]"], unfollowed := true, recurses := true, apart := false, narrowed := true }
def FnExactRunDeskUptoSaid : Prop := fnExactRunDeskUptoRow.holds Try.pinned (OpenSpec.upto fnExactRunDeskSpec)

end Rows
end Go.Proofs.Yteocijadidgagaa
