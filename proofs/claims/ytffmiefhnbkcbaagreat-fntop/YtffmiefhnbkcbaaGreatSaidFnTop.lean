/-
  The statement 'FnTop': the last step of its proof, for all arguments.
-/
import Derived.Test.YtffmiefhnbkcbaaGreatYM3
import Derived.Test.YtffmiefhnbkcbaaGreatBulkY
import Derived.ProofKit
import Derived.OpenShut
import Derived.JoinedCond
namespace Go.Proofs.YtffmiefhnbkcbaaGreat
open Go Go.Ab Go.ChangeShapes Go.WideShapes Go.ChangeAt Go.RowKit
set_option maxRecDepth 100000 in
theorem lifted_Top (os : Os) (started : os.Started) (H : Type) (enc : TypeId × Value → H) :
    ReturnsInHanded {} Tryz.checked os 3 .any (Rows.fnTopSpec.pre6 enc Tryz.prog Tryz.f3 Rows.fnTopRow.domain false) (Rows.fnTopSpec.post enc Tryz.prog Tryz.f3 false true false false) := by
  refine returnsInHanded_of_change_sized (C := Tryz.checked) own started (by kernel_rfl) Tryz.func3
    (ChangeSpec.witness6 (enc := enc) (C := Tryz.checked) false ⟨#[], #[.slice none 0 0, .slice none 0 0], []⟩ 12 (by kernel_rfl) (by kernel_rfl) (by kernel_rfl) (by kernel_rfl)) ?_
  intro W base args ds gs before hval hW _ hwt _
  exact law_calls2 (s := Rows.fnTopSpec) Sh.S3 bulky 12 (by kernel_rfl) (tb := 4) (by rw [Tryz.params3]) Tryz.underlying22 Tryz.underlying22 (by kernel_rfl) (by kernel_rfl) (by kernel_rfl) (by kernel_rfl) rfl
    (fun ds hl => by
      rw [Tryz.params3] at hl
      match ds, hl with
      | [d1, d2], _ => rfl)
    (fun x hg h1 h2 => ⟨true, Sh.plain_Top x.1 x.2 (Sh.bytes_of hg.1) (Sh.bytes_of hg.2.1) h1 h2, rfl⟩) hval hW hwt (fun _ h => nomatch h)
theorem fnTop_holds : Rows.FnTopSaid :=
  OpenClaim.holds_of_wide 3 Tryz.f3 rfl rfl rfl rfl rfl rfl rfl ⟨rfl, rfl, rfl, rfl, rfl⟩ rfl rfl rfl rfl rfl (by kernel_rfl) Tryz.func3 (by kernel_rfl)
    (of_decide_eq_true (by kernel_rfl)) (by unfold Func.isWrapper; first | (rw [if_pos (by decide +kernel)]; kernel_rfl) | (rw [if_neg (by decide +kernel)]; exact ⟨rfl, rfl⟩))
    (fun os started H enc _ => lifted_Top os started H enc)
end Go.Proofs.YtffmiefhnbkcbaaGreat
