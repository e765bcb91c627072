/-
  DERIVED. GIVEN WITH THE SEED: THE CARDS: each row of YthgnllgpdheidaaGreatDoorRows.lean that lists a variable, with what it lists TIED to the program's text (the seventh form; the later family's looks); each row that meets fmt, with fmt's text TOLD by the authors' own Lean function (tested against real Go, not proved from fmt's source: count such statements apart). THE CARD IS WHAT COUNTS. Prove the row's statement (the work); the ties are given (YthgnllgpdheidaaGreatDoorTie.lean); close each card by the builder's one call (the guide's Derived/Test/ToyasCard.lean, 'card_holds'). Laid BY PROGRAM, IN A SANDBOX (cutbox-door.mjs). By AI agents, Wed Nov 11 2026. No macro, syntax, notation, axiom, sorry.
-/
import Derived.Test.YthgnllgpdheidaaGreatDoorRows
import GoSem.ClaimSeven
namespace Go.Proofs.YthgnllgpdheidaaGreatDoor
namespace Rows

/-- THE TIED CARD OF 'laws.FnDesk'. -/
def fnDeskCard : Claim7 := { stood := { row := fnDeskRow, standIns := [], harness := (true, "08c1850e9f67558d22f3aca27bec0cb57022e8b6640f93f8a126bc452fb63f26"), looks := false }, kinds := [], alts := [], laidByText := true, laidKinds := [.data, .data, .data], laidTests := true, laidLooks := .later }
def FnDeskCardSaid : Prop := Claim7.holds Tryz.pinned (.plain (OpenSpec.ofChange fnDeskSpec)) fnDeskCard

/-- THE TIED CARD OF 'laws.FnDeskRuns'. -/
def fnDeskRunsCard : Claim7 := { stood := { row := fnDeskRunsRow, standIns := [], harness := (true, "08c1850e9f67558d22f3aca27bec0cb57022e8b6640f93f8a126bc452fb63f26"), looks := false }, kinds := [], alts := [], laidByText := true, laidKinds := [.data, .data, .data], laidTests := true, laidLooks := .later }
def FnDeskRunsCardSaid : Prop := Claim7.holds Tryz.pinned (.plain (OpenSpec.ofChange fnDeskRunsSpec)) fnDeskRunsCard

/-- THE SECOND FORM's CARD OF 'laws.FnDesk'. -/
def fnDeskUptoCard : Claim7 := { stood := { row := fnDeskUptoRow, standIns := [], harness := (true, "08c1850e9f67558d22f3aca27bec0cb57022e8b6640f93f8a126bc452fb63f26"), looks := false }, kinds := [], alts := [], laidByText := true, laidKinds := [.data, .data, .data], laidTests := true, laidLooks := .later }
def FnDeskUptoCardSaid : Prop := Claim7.holds Tryz.pinned (.plain (OpenSpec.upto fnDeskSpec)) fnDeskUptoCard

/-- THE SECOND FORM's CARD OF 'laws.FnDeskRuns'. -/
def fnDeskRunsUptoCard : Claim7 := { stood := { row := fnDeskRunsUptoRow, standIns := [], harness := (true, "08c1850e9f67558d22f3aca27bec0cb57022e8b6640f93f8a126bc452fb63f26"), looks := false }, kinds := [], alts := [], laidByText := true, laidKinds := [.data, .data, .data], laidTests := true, laidLooks := .later }
def FnDeskRunsUptoCardSaid : Prop := Claim7.holds Tryz.pinned (.plain (OpenSpec.upto fnDeskRunsSpec)) fnDeskRunsUptoCard
end Rows
end Go.Proofs.YthgnllgpdheidaaGreatDoor
