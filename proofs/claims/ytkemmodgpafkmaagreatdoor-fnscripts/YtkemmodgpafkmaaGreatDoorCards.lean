/-
  DERIVED. GIVEN WITH THE SEED: THE CARDS: each row of YtkemmodgpafkmaaGreatDoorRows.lean that lists a variable, with what it lists TIED to the program's text (the seventh form; the later family's looks); each row that meets fmt, with fmt's text TOLD by the authors' own Lean function (tested against real Go, not proved from fmt's source: count such statements apart). THE CARD IS WHAT COUNTS. Prove the row's statement (the work); the ties are given (YtkemmodgpafkmaaGreatDoorTie.lean); close each card by the builder's one call (the guide's Derived/Test/ToyasCard.lean, 'card_holds'). Laid BY PROGRAM, IN A SANDBOX (cutbox-door.mjs). By AI agents, Wed Nov 11 2026. No macro, syntax, notation, axiom, sorry.
-/
import Derived.Test.YtkemmodgpafkmaaGreatDoorRows
import GoSem.ClaimSeven
namespace Go.Proofs.YtkemmodgpafkmaaGreatDoor
namespace Rows

/-- THE TIED CARD OF 'laws.FnExactRunLines'. -/
def fnExactRunLinesCard : Claim7 := { stood := { row := fnExactRunLinesRow, standIns := [], harness := (true, "001e09d5935b18bc4d15da230527cb6e2bcfcd097bd8ee5fb77fc022f01c744a"), looks := true }, kinds := [], alts := [], laidByText := true, laidKinds := [.data, .data, .data, .data, .sentinel, .sentinel, .pinned], laidTests := true, laidLooks := .later }
def FnExactRunLinesCardSaid : Prop := Claim7.holds Tryz.pinned (.plain (OpenSpec.ofChange fnExactRunLinesSpec)) fnExactRunLinesCard

/-- THE TIED CARD OF 'laws.FnExactCountReplies'. -/
def fnExactCountRepliesCard : Claim7 := { stood := { row := fnExactCountRepliesRow, standIns := [], harness := (true, "001e09d5935b18bc4d15da230527cb6e2bcfcd097bd8ee5fb77fc022f01c744a"), looks := true }, kinds := [], alts := [], laidByText := true, laidKinds := [.data, .data, .data, .data, .sentinel, .sentinel, .pinned], laidTests := true, laidLooks := .later }
def FnExactCountRepliesCardSaid : Prop := Claim7.holds Tryz.pinned (.plain (OpenSpec.ofChange fnExactCountRepliesSpec)) fnExactCountRepliesCard

/-- THE TIED CARD OF 'laws.FnExactFailedLines'. -/
def fnExactFailedLinesCard : Claim7 := { stood := { row := fnExactFailedLinesRow, standIns := [], harness := (true, "001e09d5935b18bc4d15da230527cb6e2bcfcd097bd8ee5fb77fc022f01c744a"), looks := true }, kinds := [], alts := [], laidByText := true, laidKinds := [.data, .data, .data, .data, .sentinel, .sentinel, .pinned], laidTests := true, laidLooks := .later }
def FnExactFailedLinesCardSaid : Prop := Claim7.holds Tryz.pinned (.plain (OpenSpec.ofChange fnExactFailedLinesSpec)) fnExactFailedLinesCard

/-- THE TIED CARD OF 'laws.FnExactTicketsAfter'. -/
def fnExactTicketsAfterCard : Claim7 := { stood := { row := fnExactTicketsAfterRow, standIns := [], harness := (true, "001e09d5935b18bc4d15da230527cb6e2bcfcd097bd8ee5fb77fc022f01c744a"), looks := true }, kinds := [], alts := [], laidByText := true, laidKinds := [.data, .data, .data, .data, .sentinel, .sentinel, .pinned], laidTests := true, laidLooks := .later }
def FnExactTicketsAfterCardSaid : Prop := Claim7.holds Tryz.pinned (.plain (OpenSpec.ofChange fnExactTicketsAfterSpec)) fnExactTicketsAfterCard

/-- THE TIED CARD OF 'laws.FnExactBookAfter'. -/
def fnExactBookAfterCard : Claim7 := { stood := { row := fnExactBookAfterRow, standIns := [], harness := (true, "001e09d5935b18bc4d15da230527cb6e2bcfcd097bd8ee5fb77fc022f01c744a"), looks := true }, kinds := [], alts := [], laidByText := true, laidKinds := [.data, .data, .data, .data, .sentinel, .sentinel, .pinned], laidTests := true, laidLooks := .later }
def FnExactBookAfterCardSaid : Prop := Claim7.holds Tryz.pinned (.plain (OpenSpec.ofChange fnExactBookAfterSpec)) fnExactBookAfterCard

/-- THE TIED CARD OF 'laws.FnExactNetAfter'. -/
def fnExactNetAfterCard : Claim7 := { stood := { row := fnExactNetAfterRow, standIns := [], harness := (true, "001e09d5935b18bc4d15da230527cb6e2bcfcd097bd8ee5fb77fc022f01c744a"), looks := true }, kinds := [], alts := [], laidByText := true, laidKinds := [.data, .data, .data, .data, .sentinel, .sentinel, .pinned], laidTests := true, laidLooks := .later }
def FnExactNetAfterCardSaid : Prop := Claim7.holds Tryz.pinned (.plain (OpenSpec.ofChange fnExactNetAfterSpec)) fnExactNetAfterCard

/-- THE TIED CARD OF 'laws.FnScripts'. -/
def fnScriptsCard : Claim7 := { stood := { row := fnScriptsRow, standIns := [], harness := (true, "001e09d5935b18bc4d15da230527cb6e2bcfcd097bd8ee5fb77fc022f01c744a"), looks := true }, kinds := [], alts := [], laidByText := true, laidKinds := [.data, .data, .data, .data, .sentinel, .sentinel, .pinned], laidTests := true, laidLooks := .later }
def FnScriptsCardSaid : Prop := Claim7.holds Tryz.pinned (.plain (OpenSpec.ofChange fnScriptsSpec)) fnScriptsCard

/-- THE SECOND FORM's CARD OF 'laws.FnExactRunLines'. -/
def fnExactRunLinesUptoCard : Claim7 := { stood := { row := fnExactRunLinesUptoRow, standIns := [], harness := (true, "001e09d5935b18bc4d15da230527cb6e2bcfcd097bd8ee5fb77fc022f01c744a"), looks := true }, kinds := [], alts := [], laidByText := true, laidKinds := [.data, .data, .data, .data, .sentinel, .sentinel, .pinned], laidTests := true, laidLooks := .later }
def FnExactRunLinesUptoCardSaid : Prop := Claim7.holds Tryz.pinned (.plain (OpenSpec.upto fnExactRunLinesSpec)) fnExactRunLinesUptoCard

/-- THE SECOND FORM's CARD OF 'laws.FnExactCountReplies'. -/
def fnExactCountRepliesUptoCard : Claim7 := { stood := { row := fnExactCountRepliesUptoRow, standIns := [], harness := (true, "001e09d5935b18bc4d15da230527cb6e2bcfcd097bd8ee5fb77fc022f01c744a"), looks := true }, kinds := [], alts := [], laidByText := true, laidKinds := [.data, .data, .data, .data, .sentinel, .sentinel, .pinned], laidTests := true, laidLooks := .later }
def FnExactCountRepliesUptoCardSaid : Prop := Claim7.holds Tryz.pinned (.plain (OpenSpec.upto fnExactCountRepliesSpec)) fnExactCountRepliesUptoCard

/-- THE SECOND FORM's CARD OF 'laws.FnExactFailedLines'. -/
def fnExactFailedLinesUptoCard : Claim7 := { stood := { row := fnExactFailedLinesUptoRow, standIns := [], harness := (true, "001e09d5935b18bc4d15da230527cb6e2bcfcd097bd8ee5fb77fc022f01c744a"), looks := true }, kinds := [], alts := [], laidByText := true, laidKinds := [.data, .data, .data, .data, .sentinel, .sentinel, .pinned], laidTests := true, laidLooks := .later }
def FnExactFailedLinesUptoCardSaid : Prop := Claim7.holds Tryz.pinned (.plain (OpenSpec.upto fnExactFailedLinesSpec)) fnExactFailedLinesUptoCard

/-- THE SECOND FORM's CARD OF 'laws.FnExactTicketsAfter'. -/
def fnExactTicketsAfterUptoCard : Claim7 := { stood := { row := fnExactTicketsAfterUptoRow, standIns := [], harness := (true, "001e09d5935b18bc4d15da230527cb6e2bcfcd097bd8ee5fb77fc022f01c744a"), looks := true }, kinds := [], alts := [], laidByText := true, laidKinds := [.data, .data, .data, .data, .sentinel, .sentinel, .pinned], laidTests := true, laidLooks := .later }
def FnExactTicketsAfterUptoCardSaid : Prop := Claim7.holds Tryz.pinned (.plain (OpenSpec.upto fnExactTicketsAfterSpec)) fnExactTicketsAfterUptoCard

/-- THE SECOND FORM's CARD OF 'laws.FnExactBookAfter'. -/
def fnExactBookAfterUptoCard : Claim7 := { stood := { row := fnExactBookAfterUptoRow, standIns := [], harness := (true, "001e09d5935b18bc4d15da230527cb6e2bcfcd097bd8ee5fb77fc022f01c744a"), looks := true }, kinds := [], alts := [], laidByText := true, laidKinds := [.data, .data, .data, .data, .sentinel, .sentinel, .pinned], laidTests := true, laidLooks := .later }
def FnExactBookAfterUptoCardSaid : Prop := Claim7.holds Tryz.pinned (.plain (OpenSpec.upto fnExactBookAfterSpec)) fnExactBookAfterUptoCard

/-- THE SECOND FORM's CARD OF 'laws.FnExactNetAfter'. -/
def fnExactNetAfterUptoCard : Claim7 := { stood := { row := fnExactNetAfterUptoRow, standIns := [], harness := (true, "001e09d5935b18bc4d15da230527cb6e2bcfcd097bd8ee5fb77fc022f01c744a"), looks := true }, kinds := [], alts := [], laidByText := true, laidKinds := [.data, .data, .data, .data, .sentinel, .sentinel, .pinned], laidTests := true, laidLooks := .later }
def FnExactNetAfterUptoCardSaid : Prop := Claim7.holds Tryz.pinned (.plain (OpenSpec.upto fnExactNetAfterSpec)) fnExactNetAfterUptoCard

/-- THE SECOND FORM's CARD OF 'laws.FnScripts'. -/
def fnScriptsUptoCard : Claim7 := { stood := { row := fnScriptsUptoRow, standIns := [], harness := (true, "001e09d5935b18bc4d15da230527cb6e2bcfcd097bd8ee5fb77fc022f01c744a"), looks := true }, kinds := [], alts := [], laidByText := true, laidKinds := [.data, .data, .data, .data, .sentinel, .sentinel, .pinned], laidTests := true, laidLooks := .later }
def FnScriptsUptoCardSaid : Prop := Claim7.holds Tryz.pinned (.plain (OpenSpec.upto fnScriptsSpec)) fnScriptsUptoCard
end Rows
end Go.Proofs.YtkemmodgpafkmaaGreatDoor
