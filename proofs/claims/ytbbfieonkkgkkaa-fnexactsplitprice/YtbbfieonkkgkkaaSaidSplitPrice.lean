/-
  The statement 'FnExactSplitPrice'.
-/
import Derived.Test.YtbbfieonkkgkkaaPlain1
import Derived.Test.YtbbfieonkkgkkaaBulk
import Derived.ProofKit
import Derived.OpenShut
import Derived.JoinedCond
namespace Go.Proofs.Ytbbfieonkkgkkaa
open Go Go.Ab Go.ChangeShapes Go.WideShapes Go.ChangeAt Go.RowKit

set_option maxRecDepth 100000 in
theorem lifted_SplitPrice (os : Os) (started : os.Started) (H : Type) (enc : TypeId × Value → H) :
    ReturnsInHanded {} Try.checked os 8 .any (Rows.fnExactSplitPriceSpec.pre6 enc Try.prog Try.f8 Rows.fnExactSplitPriceRow.domain false) (Rows.fnExactSplitPriceSpec.post enc Try.prog Try.f8 false true false false) := by
  refine returnsInHanded_of_change (C := Try.checked) own started (by kernel_rfl) Try.func8
    (ChangeSpec.witness6 (enc := enc) (C := Try.checked) false ⟨#[], #[.agg #[.int .i64 0, .int .i64 0, .int .i64 0, .int .i64 0], .agg #[.int .i64 0, .int .i64 0, .bool false, .int .i64 0], .int .i64 0], []⟩ 12 (by kernel_rfl) (by kernel_rfl) (by kernel_rfl) (by kernel_rfl)) ?_
  intro W base args ds gs before hval hW _ _
  exact law_calls (s := Rows.fnExactSplitPriceSpec) Sh.S8 rfl bulky 12 (by kernel_rfl) (tb := 4) (by kernel_rfl) (by kernel_rfl) rfl
    (fun ds hl => by
      rw [Try.params8] at hl
      match ds, hl with
      | [d1, d2, d3], _ => rfl)
    (fun x _ _ => ⟨true, Sh.plain_SplitPrice x.1 x.2.1 x.2.2, rfl⟩) hval hW (Nat.le_refl _)

/-- THE STATEMENT. -/
theorem fnExactSplitPrice_holds : Rows.FnExactSplitPriceSaid :=
  OpenClaim.holds_of_wide 8 Try.f8 rfl rfl rfl rfl rfl rfl rfl ⟨rfl, rfl, rfl, rfl, rfl⟩ rfl rfl rfl rfl rfl (by kernel_rfl) Try.func8 (by kernel_rfl)
    (of_decide_eq_true (by kernel_rfl)) (by unfold Func.isWrapper; first | (rw [if_pos (by decide +kernel)]; kernel_rfl) | (rw [if_neg (by decide +kernel)]; exact ⟨rfl, rfl⟩))
    (fun os started H enc _ => lifted_SplitPrice os started H enc)

end Go.Proofs.Ytbbfieonkkgkkaa
