/-
  The statement 'FnDeskRuns', as a card tied to the program's text: the last step of its proof, for all arguments, where the listed variables read as the program's text lays them.
-/
import Derived.Test.YthgnllgpdheidaaGreatDoorTP5
import Derived.Test.YthgnllgpdheidaaGreatDoorBulkT
import Derived.Test.YthgnllgpdheidaaGreatDoorCards
import Derived.Test.YthgnllgpdheidaaGreatDoorTie
import Derived.ProofKit
import Derived.OpenShut
import Derived.JoinedCond
import Derived.SevenTiedAt
namespace Go.Proofs.YthgnllgpdheidaaGreatDoor
open Go Go.Ab Go.ChangeShapes Go.WideShapes Go.ChangeAt Go.RowKit

set_option maxRecDepth 100000 in
theorem reads_DeskRuns (os : Os) (H : Type) (enc : TypeId × Value → H) : ∃ places, DataW.whole enc Tryz.prog ((World.laidAll Tryz.prog os Rows.fnDeskRunsRow.laid).forCall (fun _ _ => 0) ⟨#[], #[.slice none 0 0, .slice none 0 0], []⟩).memory Tryz.f4.params.toList Rows.fnDeskRunsSpec.vars false #[.slice none 0 0, .slice none 0 0].toList 12 = some ([.nil, .nil], [], places) := ⟨[], by kernel_rfl⟩
set_option maxRecDepth 100000 in
theorem laid_DeskRuns (os : Os) : laidMetH Tryz.prog Rows.fnDeskRunsRow.laid ((World.laidAll Tryz.prog os Rows.fnDeskRunsRow.laid).forCall (fun _ _ => 0) ⟨#[], #[.slice none 0 0, .slice none 0 0], []⟩).memory := by
  rw [MakeChecks.laidMetH_plain _ _ _ (by kernel_rfl)]
  exact laidMet_laidAll _ (by kernel_rfl) (by kernel_rfl)
set_option maxRecDepth 100000 in
theorem lifted_DeskRuns (os : Os) (started : os.Started) (H : Type) (enc : TypeId × Value → H) (F : Stop.Interp) :
    ReturnsInHanded {} Tryz.checked os 4 .any ((OpenSpec.ofChange Rows.fnDeskRunsSpec).preRow enc Tryz.prog Tryz.f4 Rows.fnDeskRunsRow.domain false Rows.fnDeskRunsRow.laid) (((OpenSpec.ofChange Rows.fnDeskRunsSpec).at F).post enc Tryz.prog Tryz.f4 false true false false) := by
  obtain ⟨places, hx⟩ := reads_DeskRuns os H enc
  refine returnsInHanded_of_row (C := Tryz.checked) (s := OpenSpec.ofChange Rows.fnDeskRunsSpec) own started (by kernel_rfl) Tryz.func4
    (zip_row (enc := enc) (C := Tryz.checked) (World.laidAll Tryz.prog os Rows.fnDeskRunsRow.laid) #[.slice none 0 0, .slice none 0 0] (World.laidAll_os _ _ _) (by kernel_rfl) (by kernel_rfl) (by kernel_rfl)
      (OpenSpec.preRow_of_cond 12 hx (by kernel_rfl) (fun k hk => by cases hk) (by kernel_rfl) (laid_DeskRuns os))) ?_
  intro W base args ds gs before hval hW _ _ hwt hL hsh _
  exact law_calls2 (s := Rows.fnDeskRunsSpec) Sh.S4 bulky 12 (by kernel_rfl) (tb := 4) (by rw [Tryz.params4]) Tryz.underlying22 Tryz.underlying22 (by kernel_rfl) (by kernel_rfl) (by kernel_rfl) (by kernel_rfl) rfl
    (fun ds hl => by
      rw [Tryz.params4] at hl
      match ds, hl with
      | [d1, d2], _ => rfl)
    (fun x hg h1 h2 => ⟨true, Sh.plain_DeskRuns x.1 x.2 (Sh.bytes_of hg.1) (Sh.bytes_of hg.2.1) h1 h2, rfl⟩) hval hW hwt (Sh.tabs_of (by kernel_rfl) (.tail _ (.tail _ (.head _))) hL)

/-- THE ROW. -/
theorem fnDeskRuns_said : Rows.FnDeskRunsSaid :=
  OpenClaim.holds_of_cond 4 Tryz.f4 rfl rfl rfl rfl rfl rfl rfl ⟨rfl, rfl, rfl, rfl, rfl⟩ rfl rfl rfl rfl rfl (by kernel_rfl) Tryz.func4 (by kernel_rfl)
    (of_decide_eq_true (by kernel_rfl)) (by unfold Func.isWrapper; first | (rw [if_pos (by decide +kernel)]; kernel_rfl) | (rw [if_neg (by decide +kernel)]; exact ⟨rfl, rfl⟩))
    (fun os started H enc _ F => by rw [OpenClaim.pre_eq_preRow]; exact lifted_DeskRuns os started H enc F)

theorem plain_card_DeskRuns (f : FuncId) (fn : Func) (hf : Tryz.pinned.checked.prog.funcNamed "loop.example/g00940/laws.FnDeskRuns" = some f) (hfn : Tryz.pinned.checked.prog.funcs[f]? = some fn) :
    false = Tryz.pinned.checked.prog.looks [] ∧ ∀ (j : Nat) t, fn.params[j]? = some t → Tryz.pinned.checked.prog.wantsStandIn t = false := by
  obtain rfl : f = 4 := Option.some.inj ((show Tryz.prog.funcNamed "loop.example/g00940/laws.FnDeskRuns" = some 4 by kernel_rfl).symm.trans hf) |>.symm
  obtain rfl : fn = Tryz.f4 := (Option.some.inj (Tryz.func4.symm.trans hfn)).symm
  refine ⟨by kernel_rfl, fun j t ht => ?_⟩
  rw [Tryz.params4] at ht
  have hm : t ∈ [22, 22] := by simpa using Array.mem_of_getElem? ht
  have hall : ([22, 22].all fun u => !Tryz.prog.wantsStandIn u) = true := by kernel_rfl
  exact (show Tryz.prog.wantsStandIn t = false by simpa using List.all_eq_true.1 hall t hm)

/-- THE STATEMENT: the card, tied to the program's text. -/
theorem fnDeskRuns_holds : Rows.FnDeskRunsCardSaid :=
  Claim7.holds_tied_plain_at .later [] _ _ _ _ fnDeskRuns_said (fun _ h => by cases h) (by kernel_rfl) (fun _ h => by cases h) fnDeskRuns_row_tie rfl ⟨rfl, rfl⟩ (by kernel_rfl) rfl plain_card_DeskRuns (by kernel_rfl)

end Go.Proofs.YthgnllgpdheidaaGreatDoor
