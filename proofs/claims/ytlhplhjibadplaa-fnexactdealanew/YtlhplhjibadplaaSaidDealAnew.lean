/-
  The statement 'FnExactDealAnew': the last step of its proof, for all arguments.
-/
import Derived.Test.YtlhplhjibadplaaSD4
import Derived.Test.YtlhplhjibadplaaBulkB
import Derived.ProofKit
import Derived.OpenShut
import Derived.JoinedCond
namespace Go.Proofs.Ytlhplhjibadplaa
open Go Go.Ab Go.ChangeShapes Go.WideShapes Go.ChangeAt Go.RowKit

set_option maxRecDepth 100000 in
theorem lifted_DealAnew (os : Os) (started : os.Started) (H : Type) (enc : TypeId × Value → H) :
    ReturnsInHanded {} Try.checked os 4 .any (Rows.fnExactDealAnewSpec.pre6 enc Try.prog Try.f4 Rows.fnExactDealAnewRow.domain false) (Rows.fnExactDealAnewSpec.post enc Try.prog Try.f4 false true false false) := by
  refine returnsInHanded_of_change (C := Try.checked) own started (by kernel_rfl) Try.func4
    (ChangeSpec.witness6 (enc := enc) (C := Try.checked) false ⟨#[], #[.agg #[.slice none 0 0], .slice none 0 0], []⟩ 12 (by kernel_rfl) (by kernel_rfl) (by kernel_rfl) (by kernel_rfl)) ?_
  intro W base args ds gs before hval hW _ _
  exact law_calls (s := Rows.fnExactDealAnewSpec) Sh.S4 rfl bulky 12 (by kernel_rfl) (tb := 4) (by kernel_rfl) (by kernel_rfl) rfl
    (fun ds hl => by
      rw [Try.params4] at hl
      match ds, hl with
      | [d1, d2], _ => rfl)
    (fun x hg _ => ⟨true, Sh.plain_DealAnew x.1 x.2 (Sh.Q.fine_of hg.1), rfl⟩) hval hW (Nat.le_refl _) (fun _ h => nomatch h)

/-- THE STATEMENT. -/
theorem fnExactDealAnew_holds : Rows.FnExactDealAnewSaid :=
  OpenClaim.holds_of_wide 4 Try.f4 rfl rfl rfl rfl rfl rfl rfl ⟨rfl, rfl, rfl, rfl, rfl⟩ rfl rfl rfl rfl rfl (by kernel_rfl) Try.func4 (by kernel_rfl)
    (of_decide_eq_true (by kernel_rfl)) (by unfold Func.isWrapper; first | (rw [if_pos (by decide +kernel)]; kernel_rfl) | (rw [if_neg (by decide +kernel)]; exact ⟨rfl, rfl⟩))
    (fun os started H enc _ => lifted_DealAnew os started H enc)

end Go.Proofs.Ytlhplhjibadplaa
