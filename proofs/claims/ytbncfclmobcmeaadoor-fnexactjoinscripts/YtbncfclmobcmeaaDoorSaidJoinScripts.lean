/-
  The statement 'FnExactJoinScripts', as a card tied to the program's text: the last step of its proof, for all arguments, where the listed variables read as the program's text lays them.
-/
import Derived.Test.YtbncfclmobcmeaaDoorJPlain
import Derived.Test.YtbncfclmobcmeaaDoorBulkJ
import Derived.Test.YtbncfclmobcmeaaDoorCards
import Derived.Test.YtbncfclmobcmeaaDoorTie
import Derived.ProofKit
import Derived.OpenShut
import Derived.JoinedCond
import Derived.SevenTiedAt
namespace Go.Proofs.YtbncfclmobcmeaaDoor
open Go Go.Ab Go.ChangeShapes Go.WideShapes Go.ChangeAt Go.RowKit

set_option maxRecDepth 100000 in
theorem reads_JoinScripts (os : Os) (H : Type) (enc : TypeId × Value → H) : ∃ places, DataW.whole enc Tryd.prog ((World.laidAll Tryd.prog os Rows.fnExactJoinScriptsRow.laid).forCall (fun _ _ => 0) ⟨#[], #[.string .empty, .string .empty], []⟩).memory Tryd.f3.params.toList Rows.fnExactJoinScriptsSpec.vars false #[.string .empty, .string .empty].toList 12 = some ([.lit (.string []), .lit (.string [])], [], places) := ⟨[], by kernel_rfl⟩
set_option maxRecDepth 100000 in
theorem laid_JoinScripts (os : Os) : laidMetH Tryd.prog Rows.fnExactJoinScriptsRow.laid ((World.laidAll Tryd.prog os Rows.fnExactJoinScriptsRow.laid).forCall (fun _ _ => 0) ⟨#[], #[.string .empty, .string .empty], []⟩).memory := by
  rw [MakeChecks.laidMetH_plain _ _ _ (by kernel_rfl)]
  exact laidMet_laidAll _ (by kernel_rfl) (by kernel_rfl)
set_option maxRecDepth 100000 in
theorem lifted_JoinScripts (os : Os) (started : os.Started) (H : Type) (enc : TypeId × Value → H) (F : Stop.Interp) :
    ReturnsInHanded {} Tryd.checked os 3 .any ((OpenSpec.ofChange Rows.fnExactJoinScriptsSpec).preRow enc Tryd.prog Tryd.f3 Rows.fnExactJoinScriptsRow.domain false Rows.fnExactJoinScriptsRow.laid) (((OpenSpec.ofChange Rows.fnExactJoinScriptsSpec).at F).post enc Tryd.prog Tryd.f3 false true false false) := by
  obtain ⟨places, hx⟩ := reads_JoinScripts os H enc
  refine returnsInHanded_of_row (C := Tryd.checked) (s := OpenSpec.ofChange Rows.fnExactJoinScriptsSpec) own started (by kernel_rfl) Tryd.func3
    (zip_row (enc := enc) (C := Tryd.checked) (World.laidAll Tryd.prog os Rows.fnExactJoinScriptsRow.laid) #[.string .empty, .string .empty] (World.laidAll_os _ _ _) (by kernel_rfl) (by kernel_rfl) (by kernel_rfl)
      (OpenSpec.preRow_of_cond 12 hx (by kernel_rfl) (fun k hk => by cases hk) (by kernel_rfl) (laid_JoinScripts os))) ?_
  intro W base args ds gs before hval hW _ _ _ hL hsh _
  exact law_calls (s := Rows.fnExactJoinScriptsSpec) Sh.S3 rfl bulky 12 (by kernel_rfl) (tb := 4) (by kernel_rfl) (by kernel_rfl) rfl
    (fun ds hl => by
      rw [Tryd.params3] at hl
      match ds, hl with
      | [d1, d2], _ => rfl)
    (fun x _ _ => ⟨true, Sh.plain_JoinScripts x.1 x.2, rfl⟩) hval hW (Nat.le_refl _) (Sh.tabs_ok hL hsh)

/-- THE ROW. -/
theorem fnExactJoinScripts_said : Rows.FnExactJoinScriptsSaid :=
  OpenClaim.holds_of_cond 3 Tryd.f3 rfl rfl rfl rfl rfl rfl rfl ⟨rfl, rfl, rfl, rfl, rfl⟩ rfl rfl rfl rfl rfl (by kernel_rfl) Tryd.func3 (by kernel_rfl)
    (of_decide_eq_true (by kernel_rfl)) (by unfold Func.isWrapper; first | (rw [if_pos (by decide +kernel)]; kernel_rfl) | (rw [if_neg (by decide +kernel)]; exact ⟨rfl, rfl⟩))
    (fun os started H enc _ F => by rw [OpenClaim.pre_eq_preRow]; exact lifted_JoinScripts os started H enc F)

theorem plain_card_JoinScripts (f : FuncId) (fn : Func) (hf : Tryd.pinned.checked.prog.funcNamed "loop.example/g00940/laws.FnExactJoinScripts" = some f) (hfn : Tryd.pinned.checked.prog.funcs[f]? = some fn) :
    false = Tryd.pinned.checked.prog.looks [] ∧ ∀ (j : Nat) t, fn.params[j]? = some t → Tryd.pinned.checked.prog.wantsStandIn t = false := by
  obtain rfl : f = 3 := Option.some.inj ((show Tryd.prog.funcNamed "loop.example/g00940/laws.FnExactJoinScripts" = some 3 by kernel_rfl).symm.trans hf) |>.symm
  obtain rfl : fn = Tryd.f3 := (Option.some.inj (Tryd.func3.symm.trans hfn)).symm
  refine ⟨by kernel_rfl, fun j t ht => ?_⟩
  rw [Tryd.params3] at ht
  have hm : t ∈ [9, 9] := by simpa using Array.mem_of_getElem? ht
  have hall : ([9, 9].all fun u => !Tryd.prog.wantsStandIn u) = true := by kernel_rfl
  exact (show Tryd.prog.wantsStandIn t = false by simpa using List.all_eq_true.1 hall t hm)

/-- THE STATEMENT: the card, tied to the program's text. -/
theorem fnExactJoinScripts_holds : Rows.FnExactJoinScriptsCardSaid :=
  Claim7.holds_tied_plain_at .later [] _ _ _ _ fnExactJoinScripts_said (fun _ h => by cases h) (by kernel_rfl) (fun _ h => by cases h) fnExactJoinScripts_row_tie rfl ⟨rfl, rfl⟩ (by kernel_rfl) rfl plain_card_JoinScripts (by kernel_rfl)

end Go.Proofs.YtbncfclmobcmeaaDoor
