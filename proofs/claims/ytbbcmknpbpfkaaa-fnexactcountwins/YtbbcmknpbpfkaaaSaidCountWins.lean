/-
  The statement 'FnExactCountWins': the last step of its proof, for all arguments.
-/
import Derived.Test.YtbbcmknpbpfkaaaWPlain4
import Derived.Test.YtbbcmknpbpfkaaaBulkM
import Derived.ProofKit
import Derived.OpenShut
import Derived.JoinedCond
namespace Go.Proofs.Ytbbcmknpbpfkaaa
open Go Go.Ab Go.ChangeShapes Go.WideShapes Go.ChangeAt Go.RowKit

set_option maxRecDepth 100000 in
theorem lifted_CountWins (os : Os) (started : os.Started) (H : Type) (enc : TypeId × Value → H) :
    ReturnsInHanded {} Try.checked os 10 .any (Rows.fnExactCountWinsSpec.pre6 enc Try.prog Try.f10 Rows.fnExactCountWinsRow.domain false) (Rows.fnExactCountWinsSpec.post enc Try.prog Try.f10 false true false false) := by
  refine returnsInHanded_of_change (C := Try.checked) own started (by kernel_rfl) Try.func10
    (ChangeSpec.witness6 (enc := enc) (C := Try.checked) false ⟨#[], #[.agg #[.slice none 0 0], .agg #[.slice none 0 0], .slice none 0 0], []⟩ 12 (by kernel_rfl) (by kernel_rfl) (by kernel_rfl) (by kernel_rfl)) ?_
  intro W base args ds gs before hval hW _ _
  exact law_calls (s := Rows.fnExactCountWinsSpec) Sh.S10 rfl bulky 12 (by kernel_rfl) (tb := 4) (by kernel_rfl) (by kernel_rfl) rfl
    (fun ds hl => by
      rw [Try.params10] at hl
      match ds, hl with
      | [d1, d2, d3], _ => rfl)
    (fun x hg _ => ⟨true, Sh.plain_CountWins x.1 x.2.1 x.2.2 (Sh.fine_of hg.1) (Sh.fine_of hg.2.1) (Sh.fineL_of hg.2.2.1), rfl⟩) hval hW (Nat.le_refl _)

/-- THE STATEMENT. -/
theorem fnExactCountWins_holds : Rows.FnExactCountWinsSaid :=
  OpenClaim.holds_of_wide 10 Try.f10 rfl rfl rfl rfl rfl rfl rfl ⟨rfl, rfl, rfl, rfl, rfl⟩ rfl rfl rfl rfl rfl (by kernel_rfl) Try.func10 (by kernel_rfl)
    (of_decide_eq_true (by kernel_rfl)) (by unfold Func.isWrapper; first | (rw [if_pos (by decide +kernel)]; kernel_rfl) | (rw [if_neg (by decide +kernel)]; exact ⟨rfl, rfl⟩))
    (fun os started H enc _ => lifted_CountWins os started H enc)

end Go.Proofs.Ytbbcmknpbpfkaaa
