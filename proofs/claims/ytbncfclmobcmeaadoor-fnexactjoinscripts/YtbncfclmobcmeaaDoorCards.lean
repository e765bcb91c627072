/-
  DERIVED. GIVEN WITH THE SEED: THE CARDS: each row of YtbncfclmobcmeaaDoorRows.lean that lists a variable, with what it lists TIED to the program's text (the seventh form; the later family's looks); each row that meets fmt, with fmt's text TOLD by the authors' own Lean function (tested against real Go, not proved from fmt's source: count such statements apart). THE CARD IS WHAT COUNTS. Prove the row's statement (the work); the ties are given (YtbncfclmobcmeaaDoorTie.lean); close each card by the builder's one call (the guide's Derived/Test/ToyasCard.lean, 'card_holds'). Laid BY PROGRAM, IN A SANDBOX (cutbox-door.mjs). By AI agents, Wed Nov 11 2026. No macro, syntax, notation, axiom, sorry.
-/
import Derived.Test.YtbncfclmobcmeaaDoorRows
import GoSem.ClaimSeven
namespace Go.Proofs.YtbncfclmobcmeaaDoor
namespace Rows

/-- THE TIED CARD OF 'laws.FnExactJoinScripts'. -/
def fnExactJoinScriptsCard : Claim7 := { stood := { row := fnExactJoinScriptsRow, standIns := [], harness := (true, "b9ed9a573413fe02aafcc61f7fc916dc20ccd466d19a375dcc70c2d0e3b33bd4"), looks := false }, kinds := [], alts := [], laidByText := true, laidKinds := [.data, .pinned], laidTests := true, laidLooks := .later }
def FnExactJoinScriptsCardSaid : Prop := Claim7.holds Tryd.pinned (.plain (OpenSpec.ofChange fnExactJoinScriptsSpec)) fnExactJoinScriptsCard

/-- THE SECOND FORM's CARD OF 'laws.FnExactJoinScripts'. -/
def fnExactJoinScriptsUptoCard : Claim7 := { stood := { row := fnExactJoinScriptsUptoRow, standIns := [], harness := (true, "b9ed9a573413fe02aafcc61f7fc916dc20ccd466d19a375dcc70c2d0e3b33bd4"), looks := false }, kinds := [], alts := [], laidByText := true, laidKinds := [.data, .pinned], laidTests := true, laidLooks := .later }
def FnExactJoinScriptsUptoCardSaid : Prop := Claim7.holds Tryd.pinned (.plain (OpenSpec.upto fnExactJoinScriptsSpec)) fnExactJoinScriptsUptoCard
end Rows
end Go.Proofs.YtbncfclmobcmeaaDoor
