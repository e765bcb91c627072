/-
  The statement 'FnExactRunActs': the last step of its proof, for all arguments.
-/
import Derived.Test.YtlalabdgkkfjpaaRPlainB
import Derived.Test.YtlalabdgkkfjpaaBulkN
import Derived.ProofKit
import Derived.OpenShut
import Derived.JoinedCond
namespace Go.Proofs.Ytlalabdgkkfjpaa
open Go Go.Ab Go.ChangeShapes Go.WideShapes Go.ChangeAt Go.RowKit

set_option maxRecDepth 100000 in
theorem lifted_RunActs (os : Os) (started : os.Started) (H : Type) (enc : TypeId × Value → H) :
    ReturnsInHanded {} Try.checked os 12 .any (Rows.fnExactRunActsSpec.pre6 enc Try.prog Try.f12 Rows.fnExactRunActsRow.domain false) (Rows.fnExactRunActsSpec.post enc Try.prog Try.f12 false true false false) := by
  refine returnsInHanded_of_change (C := Try.checked) own started (by kernel_rfl) Try.func12
    (ChangeSpec.witness6 (enc := enc) (C := Try.checked) false ⟨#[], #[.agg #[.slice none 0 0, .slice none 0 0, .slice none 0 0, .int .i64 0, .slice none 0 0], .slice none 0 0], []⟩ 12 (by kernel_rfl) (by kernel_rfl) (by kernel_rfl) (by kernel_rfl)) ?_
  intro W base args ds gs before hval hW _ _
  exact law_calls (s := Rows.fnExactRunActsSpec) Sh.S12 rfl bulky 12 (by kernel_rfl) (tb := 4) (by kernel_rfl) (by kernel_rfl) rfl
    (fun ds hl => by
      rw [Try.params12] at hl
      match ds, hl with
      | [d1, d2], _ => rfl)
    (fun x hg _ => ⟨true, Sh.plain_RunActs x.1 x.2 (Sh.fineW_of hg.1) hg.2.1.1, rfl⟩) hval hW (Nat.le_refl _)

/-- THE STATEMENT. -/
theorem fnExactRunActs_holds : Rows.FnExactRunActsSaid :=
  OpenClaim.holds_of_wide 12 Try.f12 rfl rfl rfl rfl rfl rfl rfl ⟨rfl, rfl, rfl, rfl, rfl⟩ rfl rfl rfl rfl rfl (by kernel_rfl) Try.func12 (by kernel_rfl)
    (of_decide_eq_true (by kernel_rfl)) (by unfold Func.isWrapper; first | (rw [if_pos (by decide +kernel)]; kernel_rfl) | (rw [if_neg (by decide +kernel)]; exact ⟨rfl, rfl⟩))
    (fun os started H enc _ => lifted_RunActs os started H enc)

end Go.Proofs.Ytlalabdgkkfjpaa
