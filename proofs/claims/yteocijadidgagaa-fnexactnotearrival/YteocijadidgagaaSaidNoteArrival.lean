/-
  The statement 'FnExactNoteArrival': the last step of its proof, for all arguments.
-/
import Derived.Test.YteocijadidgagaaLPlain56
import Derived.Test.YteocijadidgagaaBulkG
import Derived.ProofKit
import Derived.OpenShut
import Derived.JoinedCond
namespace Go.Proofs.Yteocijadidgagaa
open Go Go.Ab Go.ChangeShapes Go.WideShapes Go.ChangeAt Go.RowKit

set_option maxRecDepth 100000 in
theorem lifted_NoteArrival (os : Os) (started : os.Started) (H : Type) (enc : TypeId × Value → H) :
    ReturnsInHanded {} Try.checked os 6 .any (Rows.fnExactNoteArrivalSpec.pre6 enc Try.prog Try.f6 Rows.fnExactNoteArrivalRow.domain false) (Rows.fnExactNoteArrivalSpec.post enc Try.prog Try.f6 false true false false) := by
  refine returnsInHanded_of_change (C := Try.checked) own started (by kernel_rfl) Try.func6
    (ChangeSpec.witness6 (enc := enc) (C := Try.checked) false ⟨#[], #[.slice none 0 0, .int .i64 0, .int .i64 0], []⟩ 12 (by kernel_rfl) (by kernel_rfl) (by kernel_rfl) (by kernel_rfl)) ?_
  intro W base args ds gs before hval hW _ _
  exact law_calls (s := Rows.fnExactNoteArrivalSpec) Sh.S6 rfl bulky 12 (by kernel_rfl) (tb := 4) (by kernel_rfl) (by kernel_rfl) rfl
    (fun ds hl => by
      rw [Try.params6] at hl
      match ds, hl with
      | [d1, d2, d3], _ => rfl)
    (fun x hg _ => ⟨true, Sh.plain_NoteArrival x.1 x.2.1 x.2.2 (Sh.fine_of hg.1), rfl⟩) hval hW (Nat.le_refl _)

/-- THE STATEMENT. -/
theorem fnExactNoteArrival_holds : Rows.FnExactNoteArrivalSaid :=
  OpenClaim.holds_of_wide 6 Try.f6 rfl rfl rfl rfl rfl rfl rfl ⟨rfl, rfl, rfl, rfl, rfl⟩ rfl rfl rfl rfl rfl (by kernel_rfl) Try.func6 (by kernel_rfl)
    (of_decide_eq_true (by kernel_rfl)) (by unfold Func.isWrapper; first | (rw [if_pos (by decide +kernel)]; kernel_rfl) | (rw [if_neg (by decide +kernel)]; exact ⟨rfl, rfl⟩))
    (fun os started H enc _ => lifted_NoteArrival os started H enc)

end Go.Proofs.Yteocijadidgagaa
