/-
  The statement 'FnExactRunDesk': the last step of its proof, for all arguments.
-/
import Derived.Test.YteocijadidgagaaLPlain56
import Derived.Test.YteocijadidgagaaBulkG
import Derived.ProofKit
import Derived.OpenShut
import Derived.JoinedCond
namespace Go.Proofs.Yteocijadidgagaa
open Go Go.Ab Go.ChangeShapes Go.WideShapes Go.ChangeAt Go.RowKit

set_option maxRecDepth 100000 in
theorem lifted_RunDesk (os : Os) (started : os.Started) (H : Type) (enc : TypeId × Value → H) :
    ReturnsInHanded {} Try.checked os 7 .any (Rows.fnExactRunDeskSpec.pre6 enc Try.prog Try.f7 Rows.fnExactRunDeskRow.domain false) (Rows.fnExactRunDeskSpec.post enc Try.prog Try.f7 false true false false) := by
  refine returnsInHanded_of_change (C := Try.checked) own started (by kernel_rfl) Try.func7
    (ChangeSpec.witness6 (enc := enc) (C := Try.checked) false ⟨#[], #[.slice none 0 0, .slice none 0 0], []⟩ 12 (by kernel_rfl) (by kernel_rfl) (by kernel_rfl) (by kernel_rfl)) ?_
  intro W base args ds gs before hval hW _ _
  exact law_calls (s := Rows.fnExactRunDeskSpec) Sh.S7 rfl bulky 12 (by kernel_rfl) (tb := 4) (by kernel_rfl) (by kernel_rfl) rfl
    (fun ds hl => by
      rw [Try.params7] at hl
      match ds, hl with
      | [d1, d2], _ => rfl)
    (fun x hg _ => ⟨true, Sh.plain_RunDesk x.1 x.2 (Sh.fine_of hg.1) hg.2.1.1, rfl⟩) hval hW (Nat.le_refl _)

/-- THE STATEMENT. -/
theorem fnExactRunDesk_holds : Rows.FnExactRunDeskSaid :=
  OpenClaim.holds_of_wide 7 Try.f7 rfl rfl rfl rfl rfl rfl rfl ⟨rfl, rfl, rfl, rfl, rfl⟩ rfl rfl rfl rfl rfl (by kernel_rfl) Try.func7 (by kernel_rfl)
    (of_decide_eq_true (by kernel_rfl)) (by unfold Func.isWrapper; first | (rw [if_pos (by decide +kernel)]; kernel_rfl) | (rw [if_neg (by decide +kernel)]; exact ⟨rfl, rfl⟩))
    (fun os started H enc _ => lifted_RunDesk os started H enc)

end Go.Proofs.Yteocijadidgagaa
