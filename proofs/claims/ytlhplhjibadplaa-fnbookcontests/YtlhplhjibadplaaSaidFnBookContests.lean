/-
  The statement 'FnBookContests': the last step of its proof, for all arguments.
-/
import Derived.Test.YtlhplhjibadplaaBPlain2
import Derived.Test.YtlhplhjibadplaaBulkB
import Derived.ProofKit
import Derived.OpenShut
import Derived.JoinedCond
namespace Go.Proofs.Ytlhplhjibadplaa
open Go Go.Ab Go.ChangeShapes Go.WideShapes Go.ChangeAt Go.RowKit

set_option maxRecDepth 100000 in
theorem lifted_BookContests (os : Os) (started : os.Started) (H : Type) (enc : TypeId × Value → H) :
    ReturnsInHanded {} Try.checked os 5 .any (Rows.fnBookContestsSpec.pre6 enc Try.prog Try.f5 Rows.fnBookContestsRow.domain false) (Rows.fnBookContestsSpec.post enc Try.prog Try.f5 false true false false) := by
  refine returnsInHanded_of_change (C := Try.checked) own started (by kernel_rfl) Try.func5
    (ChangeSpec.witness6 (enc := enc) (C := Try.checked) false ⟨#[], #[.slice none 0 0, .slice none 0 0], []⟩ 12 (by kernel_rfl) (by kernel_rfl) (by kernel_rfl) (by kernel_rfl)) ?_
  intro W base args ds gs before hval hW _ _
  exact law_calls (s := Rows.fnBookContestsSpec) Sh.S5 rfl bulky 12 (by kernel_rfl) (tb := 4) (by kernel_rfl) (by kernel_rfl) rfl
    (fun ds hl => by
      rw [Try.params5] at hl
      match ds, hl with
      | [d1, d2], _ => rfl)
    (fun x hg _ => ⟨true, Sh.plain_BookContests x.1 x.2 (Sh.bytes_of hg.1) (Sh.bytes_of hg.2.1) hg.1.1 hg.2.1.1, rfl⟩) hval hW (Nat.le_refl _)

/-- THE STATEMENT. -/
theorem fnBookContests_holds : Rows.FnBookContestsSaid :=
  OpenClaim.holds_of_wide 5 Try.f5 rfl rfl rfl rfl rfl rfl rfl ⟨rfl, rfl, rfl, rfl, rfl⟩ rfl rfl rfl rfl rfl (by kernel_rfl) Try.func5 (by kernel_rfl)
    (of_decide_eq_true (by kernel_rfl)) (by unfold Func.isWrapper; first | (rw [if_pos (by decide +kernel)]; kernel_rfl) | (rw [if_neg (by decide +kernel)]; exact ⟨rfl, rfl⟩))
    (fun os started H enc _ => lifted_BookContests os started H enc)

end Go.Proofs.Ytlhplhjibadplaa
