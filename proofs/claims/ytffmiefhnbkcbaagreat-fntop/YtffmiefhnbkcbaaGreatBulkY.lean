/-
  The bulk of given data, as the rows count it.
-/
import Derived.Test.YtffmiefhnbkcbaaGreatXSized
import Derived.Test.YtffmiefhnbkcbaaGreatRows
import Derived.KernelRfl
namespace Go.Proofs.YtffmiefhnbkcbaaGreat
open Go Go.Ab
theorem own : ownKnob Tryz.prog.godebug = none := by kernel_rfl
theorem bulk_sum {H : Type} : ∀ l : List (DataW H), (l.map Rows.uptoBulk).sum = Rows.uptoBulkAll l
  | [] => by simp [Rows.uptoBulkAll]
  | d :: l => by simp [Rows.uptoBulkAll, bulk_sum l]
theorem bulky {H : Type} : Bulky (Rows.uptoBulk (H := H)) where
  lit l := by cases l <;> simp [Rows.uptoBulk]
  str b := by simp [Rows.uptoBulk]
  nil := by simp [Rows.uptoBulk]
  slice e r := by rw [bulk_sum]; simp only [Rows.uptoBulk]; omega
  agg e := by rw [bulk_sum]; simp only [Rows.uptoBulk]; omega
theorem small {H : Type} {ds gs : List (DataW H)} (h : Rows.uptoSmall H (ds ++ gs) = true) : (ds.map Rows.uptoBulk).sum ≤ 1048576 := by
  have h : Rows.uptoBulkAll (ds ++ gs) ≤ 1048576 := of_decide_eq_true h
  rw [← bulk_sum] at h
  rw [List.map_append, List.sum_append] at h
  omega
end Go.Proofs.YtffmiefhnbkcbaaGreat
namespace Go.Proofs.YtffmiefhnbkcbaaGreat.Sh
open Go Go.Ab
theorem bytes_of {l : List Int} (h : good (.slice (.int .u8)) l) : ∀ b ∈ l, 0 ≤ b ∧ b ≤ 255 := fun b hb => by
  have := h.2 b hb
  have h2 : wfI .u8 b := this
  simp [wfI, Lit.wf, IntKind.min, IntKind.max, IntKind.signed, IntKind.bits] at h2
  omega
end Go.Proofs.YtffmiefhnbkcbaaGreat.Sh
