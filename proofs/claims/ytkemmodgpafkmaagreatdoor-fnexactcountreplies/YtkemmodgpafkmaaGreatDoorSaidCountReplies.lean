/-
  The statement 'FnExactCountReplies', as a card tied to the program's text: the last step of its proof, for all arguments, where the listed variables read as the program's text lays them.
-/
import Derived.Test.YtkemmodgpafkmaaGreatDoorSL5
import Derived.Test.YtkemmodgpafkmaaGreatDoorBulkS
import Derived.Test.YtkemmodgpafkmaaGreatDoorCards
import Derived.Test.YtkemmodgpafkmaaGreatDoorTie
import Derived.ProofKit
import Derived.OpenShut
import Derived.JoinedCond
import Derived.SevenTiedAt
namespace Go.Proofs.YtkemmodgpafkmaaGreatDoor
open Go Go.Ab Go.ChangeShapes Go.WideShapes Go.ChangeAt Go.RowKit
set_option maxRecDepth 100000 in
theorem reads_CountReplies (os : Os) (H : Type) (enc : TypeId × Value → H) : ∃ places, DataW.whole enc Tryz.prog ((World.laidAll Tryz.prog os Rows.fnExactCountRepliesRow.laid).forCall (fun _ _ => 0) ⟨#[], #[.string .empty], []⟩).memory Tryz.f4.params.toList Rows.fnExactCountRepliesSpec.vars false #[.string .empty].toList 12 = some ([.lit (.string [])], [], places) := ⟨[], by kernel_rfl⟩
set_option maxRecDepth 100000 in
theorem laid_CountReplies (os : Os) : laidMetH Tryz.prog Rows.fnExactCountRepliesRow.laid ((World.laidAll Tryz.prog os Rows.fnExactCountRepliesRow.laid).forCall (fun _ _ => 0) ⟨#[], #[.string .empty], []⟩).memory := by
  rw [MakeChecks.laidMetH_plain _ _ _ (by kernel_rfl)]
  exact laidMet_laidAll _ (by kernel_rfl) (by kernel_rfl)
set_option maxRecDepth 100000 in
theorem lifted_CountReplies (os : Os) (started : os.Started) (H : Type) (enc : TypeId × Value → H) (F : Stop.Interp) :
    ReturnsInHanded {} Tryz.checked os 4 .any ((OpenSpec.ofChange Rows.fnExactCountRepliesSpec).preRow enc Tryz.prog Tryz.f4 Rows.fnExactCountRepliesRow.domain false Rows.fnExactCountRepliesRow.laid) (((OpenSpec.ofChange Rows.fnExactCountRepliesSpec).at F).post enc Tryz.prog Tryz.f4 false true false false) := by
  obtain ⟨places, hx⟩ := reads_CountReplies os H enc
  refine returnsInHanded_of_row (C := Tryz.checked) (s := OpenSpec.ofChange Rows.fnExactCountRepliesSpec) own started (by kernel_rfl) Tryz.func4
    (zip_row (enc := enc) (C := Tryz.checked) (World.laidAll Tryz.prog os Rows.fnExactCountRepliesRow.laid) #[.string .empty] (World.laidAll_os _ _ _) (by kernel_rfl) (by kernel_rfl) (by kernel_rfl)
      (OpenSpec.preRow_of_cond 12 hx (by kernel_rfl) (fun k hk => by cases hk) (by kernel_rfl) (laid_CountReplies os))) ?_
  intro W base args ds gs before hval hW _ _ _ hL hsh _
  exact law_calls (s := Rows.fnExactCountRepliesSpec) Sh.S4 rfl bulky 12 (by kernel_rfl) (tb := 4) (by kernel_rfl) (by kernel_rfl) rfl
    (fun ds hl => by
      rw [Tryz.params4] at hl
      match ds, hl with
      | [d1], _ => rfl)
    (fun x hg _ => ⟨true, Sh.plain_CountReplies x hg, rfl⟩) hval hW (Nat.le_refl _) (Sh.tabs_of (by kernel_rfl) (.tail _ (.tail _ (.head _))) (.tail _ (.tail _ (.tail _ (.tail _ (.tail _ (.head _)))))) (.tail _ (.tail _ (.tail _ (.tail _ (.head _))))) hL hsh)
theorem fnExactCountReplies_said : Rows.FnExactCountRepliesSaid :=
  OpenClaim.holds_of_cond 4 Tryz.f4 rfl rfl rfl rfl rfl rfl rfl ⟨rfl, rfl, rfl, rfl, rfl⟩ rfl rfl rfl rfl rfl (by kernel_rfl) Tryz.func4 (by kernel_rfl)
    (of_decide_eq_true (by kernel_rfl)) (by unfold Func.isWrapper; first | (rw [if_pos (by decide +kernel)]; kernel_rfl) | (rw [if_neg (by decide +kernel)]; exact ⟨rfl, rfl⟩))
    (fun os started H enc _ F => by rw [OpenClaim.pre_eq_preRow]; exact lifted_CountReplies os started H enc F)
theorem plain_card_CountReplies (f : FuncId) (fn : Func) (hf : Tryz.pinned.checked.prog.funcNamed "loop.example/g00940/laws.FnExactCountReplies" = some f) (hfn : Tryz.pinned.checked.prog.funcs[f]? = some fn) :
    false = Tryz.pinned.checked.prog.looks [] ∧ ∀ (j : Nat) t, fn.params[j]? = some t → Tryz.pinned.checked.prog.wantsStandIn t = false := by
  obtain rfl : f = 4 := Option.some.inj ((show Tryz.prog.funcNamed "loop.example/g00940/laws.FnExactCountReplies" = some 4 by kernel_rfl).symm.trans hf) |>.symm
  obtain rfl : fn = Tryz.f4 := (Option.some.inj (Tryz.func4.symm.trans hfn)).symm
  refine ⟨by kernel_rfl, fun j t ht => ?_⟩
  rw [Tryz.params4] at ht
  have hm : t ∈ [9] := by simpa using Array.mem_of_getElem? ht
  have hall : ([9].all fun u => !Tryz.prog.wantsStandIn u) = true := by kernel_rfl
  exact (show Tryz.prog.wantsStandIn t = false by simpa using List.all_eq_true.1 hall t hm)
theorem fnExactCountReplies_holds : Rows.FnExactCountRepliesCardSaid :=
  Claim7.holds_tied_plain_at .later [] _ _ _ _ fnExactCountReplies_said (fun _ h => by cases h) (by kernel_rfl) (fun _ h => by cases h) fnExactCountReplies_row_tie rfl ⟨rfl, rfl⟩ (by kernel_rfl) rfl plain_card_CountReplies (by kernel_rfl)
end Go.Proofs.YtkemmodgpafkmaaGreatDoor
