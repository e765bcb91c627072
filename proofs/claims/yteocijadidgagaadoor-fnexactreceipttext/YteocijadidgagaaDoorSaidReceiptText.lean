/-
  The statement 'FnExactReceiptText', as a card tied to the program's text: the last step of its proof, for all arguments, where the listed variables read as the program's text lays them.
-/
import Derived.Test.YteocijadidgagaaDoorRcPlain2
import Derived.Test.YteocijadidgagaaDoorBulkRc
import Derived.Test.YteocijadidgagaaDoorCards
import Derived.Test.YteocijadidgagaaDoorTie
import Derived.ProofKit
import Derived.OpenShut
import Derived.JoinedCond
import Derived.SevenTiedAt
namespace Go.Proofs.YteocijadidgagaaDoor
open Go Go.Ab Go.ChangeShapes Go.WideShapes Go.ChangeAt Go.RowKit

set_option maxRecDepth 100000 in
theorem reads_ReceiptText (os : Os) (H : Type) (enc : TypeId × Value → H) : ∃ places, DataW.whole enc Tryd.prog ((World.laidAll Tryd.prog os Rows.fnExactReceiptTextRow.laid).forCall (fun _ _ => 0) ⟨#[], #[.slice none 0 0, .int .i64 0], []⟩).memory Tryd.f3.params.toList Rows.fnExactReceiptTextSpec.vars false #[.slice none 0 0, .int .i64 0].toList 12 = some ([.nil, .lit (.int .i64 0)], [], places) := ⟨[], by kernel_rfl⟩
set_option maxRecDepth 100000 in
theorem laid_ReceiptText (os : Os) : laidMetH Tryd.prog Rows.fnExactReceiptTextRow.laid ((World.laidAll Tryd.prog os Rows.fnExactReceiptTextRow.laid).forCall (fun _ _ => 0) ⟨#[], #[.slice none 0 0, .int .i64 0], []⟩).memory := by
  rw [MakeChecks.laidMetH_plain _ _ _ (by kernel_rfl)]
  exact laidMet_laidAll _ (by kernel_rfl) (by kernel_rfl)
set_option maxRecDepth 100000 in
theorem lifted_ReceiptText (os : Os) (started : os.Started) (H : Type) (enc : TypeId × Value → H) (F : Stop.Interp) :
    ReturnsInHanded {} Tryd.checked os 3 .any ((OpenSpec.ofChange Rows.fnExactReceiptTextSpec).preRow enc Tryd.prog Tryd.f3 Rows.fnExactReceiptTextRow.domain false Rows.fnExactReceiptTextRow.laid) (((OpenSpec.ofChange Rows.fnExactReceiptTextSpec).at F).post enc Tryd.prog Tryd.f3 false true false false) := by
  obtain ⟨places, hx⟩ := reads_ReceiptText os H enc
  refine returnsInHanded_of_row (C := Tryd.checked) (s := OpenSpec.ofChange Rows.fnExactReceiptTextSpec) own started (by kernel_rfl) Tryd.func3
    (zip_row (enc := enc) (C := Tryd.checked) (World.laidAll Tryd.prog os Rows.fnExactReceiptTextRow.laid) #[.slice none 0 0, .int .i64 0] (World.laidAll_os _ _ _) (by kernel_rfl) (by kernel_rfl) (by kernel_rfl)
      (OpenSpec.preRow_of_cond 12 hx (by kernel_rfl) (fun k hk => by cases hk) (by kernel_rfl) (laid_ReceiptText os))) ?_
  intro W base args ds gs before hval hW _ _ _ hL hsh _
  exact law_calls (s := Rows.fnExactReceiptTextSpec) Sh.S3 rfl bulky 12 (by kernel_rfl) (tb := 4) (by kernel_rfl) (by kernel_rfl) rfl
    (fun ds hl => by
      rw [Tryd.params3] at hl
      match ds, hl with
      | [d1, d2], _ => rfl)
    (fun x hg _ => ⟨true, Sh.plain_ReceiptText x.1 x.2 (Sh.fine_of hg.1), rfl⟩) hval hW (Nat.le_refl _) (Sh.tabs_ok hL hsh)

/-- THE ROW. -/
theorem fnExactReceiptText_said : Rows.FnExactReceiptTextSaid :=
  OpenClaim.holds_of_cond 3 Tryd.f3 rfl rfl rfl rfl rfl rfl rfl ⟨rfl, rfl, rfl, rfl, rfl⟩ rfl rfl rfl rfl rfl (by kernel_rfl) Tryd.func3 (by kernel_rfl)
    (of_decide_eq_true (by kernel_rfl)) (by unfold Func.isWrapper; first | (rw [if_pos (by decide +kernel)]; kernel_rfl) | (rw [if_neg (by decide +kernel)]; exact ⟨rfl, rfl⟩))
    (fun os started H enc _ F => by rw [OpenClaim.pre_eq_preRow]; exact lifted_ReceiptText os started H enc F)

theorem plain_card_ReceiptText (f : FuncId) (fn : Func) (hf : Tryd.pinned.checked.prog.funcNamed "loop.example/g00940/laws.FnExactReceiptText" = some f) (hfn : Tryd.pinned.checked.prog.funcs[f]? = some fn) :
    false = Tryd.pinned.checked.prog.looks [] ∧ ∀ (j : Nat) t, fn.params[j]? = some t → Tryd.pinned.checked.prog.wantsStandIn t = false := by
  obtain rfl : f = 3 := Option.some.inj ((show Tryd.prog.funcNamed "loop.example/g00940/laws.FnExactReceiptText" = some 3 by kernel_rfl).symm.trans hf) |>.symm
  obtain rfl : fn = Tryd.f3 := (Option.some.inj (Tryd.func3.symm.trans hfn)).symm
  refine ⟨by kernel_rfl, fun j t ht => ?_⟩
  rw [Tryd.params3] at ht
  have hm : t ∈ [22, 3] := by simpa using Array.mem_of_getElem? ht
  have hall : ([22, 3].all fun u => !Tryd.prog.wantsStandIn u) = true := by kernel_rfl
  exact (show Tryd.prog.wantsStandIn t = false by simpa using List.all_eq_true.1 hall t hm)

/-- THE STATEMENT: the card, tied to the program's text. -/
theorem fnExactReceiptText_holds : Rows.FnExactReceiptTextCardSaid :=
  Claim7.holds_tied_plain_at .later [] _ _ _ _ fnExactReceiptText_said (fun _ h => by cases h) (by kernel_rfl) (fun _ h => by cases h) fnExactReceiptText_row_tie rfl ⟨rfl, rfl⟩ (by kernel_rfl) rfl plain_card_ReceiptText (by kernel_rfl)

end Go.Proofs.YteocijadidgagaaDoor
