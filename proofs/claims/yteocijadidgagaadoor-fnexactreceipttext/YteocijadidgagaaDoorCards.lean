/-
  DERIVED. GIVEN WITH THE SEED: THE CARDS: each row of YteocijadidgagaaDoorRows.lean that lists a variable, with what it lists TIED to the program's text (the seventh form; the later family's looks); each row that meets fmt, with fmt's text TOLD by the authors' own Lean function (tested against real Go, not proved from fmt's source: count such statements apart). THE CARD IS WHAT COUNTS. Prove the row's statement (the work); the ties are given (YteocijadidgagaaDoorTie.lean); close each card by the builder's one call (the guide's Derived/Test/ToyasCard.lean, 'card_holds'). Laid BY PROGRAM, IN A SANDBOX (cutbox-door.mjs). By AI agents, Wed Nov 11 2026. No macro, syntax, notation, axiom, sorry.
-/
import Derived.Test.YteocijadidgagaaDoorRows
import GoSem.ClaimSeven
namespace Go.Proofs.YteocijadidgagaaDoor
namespace Rows

/-- THE TIED CARD OF 'laws.FnExactReceiptText'. -/
def fnExactReceiptTextCard : Claim7 := { stood := { row := fnExactReceiptTextRow, standIns := [], harness := (true, "189f09189594d32e638285b06750a93ad673db910b65af8644a5e3d94d52aafa"), looks := false }, kinds := [], alts := [], laidByText := true, laidKinds := [.data, .data, .data], laidTests := true, laidLooks := .later }
def FnExactReceiptTextCardSaid : Prop := Claim7.holds Tryd.pinned (.plain (OpenSpec.ofChange fnExactReceiptTextSpec)) fnExactReceiptTextCard

/-- THE SECOND FORM's CARD OF 'laws.FnExactReceiptText'. -/
def fnExactReceiptTextUptoCard : Claim7 := { stood := { row := fnExactReceiptTextUptoRow, standIns := [], harness := (true, "189f09189594d32e638285b06750a93ad673db910b65af8644a5e3d94d52aafa"), looks := false }, kinds := [], alts := [], laidByText := true, laidKinds := [.data, .data, .data], laidTests := true, laidLooks := .later }
def FnExactReceiptTextUptoCardSaid : Prop := Claim7.holds Tryd.pinned (.plain (OpenSpec.upto fnExactReceiptTextSpec)) fnExactReceiptTextUptoCard
end Rows
end Go.Proofs.YteocijadidgagaaDoor
