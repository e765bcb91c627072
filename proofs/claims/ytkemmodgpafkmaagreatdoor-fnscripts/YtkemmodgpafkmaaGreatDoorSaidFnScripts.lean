/-
  The statement 'FnScripts', as a card tied to the program's text: the last step of its proof, for all arguments, where the listed variables read as the program's text lays them.
-/
import Derived.Test.YtkemmodgpafkmaaGreatDoorSL6
import Derived.Test.YtkemmodgpafkmaaGreatDoorBulkS
import Derived.Test.YtkemmodgpafkmaaGreatDoorCards
import Derived.Test.YtkemmodgpafkmaaGreatDoorTie
import Derived.ProofKit
import Derived.OpenShut
import Derived.JoinedCond
import Derived.SevenTiedAt
namespace Go.Proofs.YtkemmodgpafkmaaGreatDoor
open Go Go.Ab Go.ChangeShapes Go.WideShapes Go.ChangeAt Go.RowKit
set_option maxRecDepth 100000 in
theorem FB(os:Os)(H:Type)(enc:TypeId×Value->H):∃places,DataW.whole enc Tryz.prog ((World.laidAll Tryz.prog os Rows.fnScriptsRow.laid).forCall (λ_ _=>0) ⟨#[], #[.slice none 0 0,.slice none 0 0],[]⟩).memory Tryz.f9.params.toList Rows.fnScriptsSpec.vars false #[.slice none 0 0,.slice none 0 0].toList 12=some ([.nil,.nil],[],places):=⟨[],by kernel_rfl⟩
set_option maxRecDepth 100000 in
theorem H8(os:Os):laidMetH Tryz.prog Rows.fnScriptsRow.laid ((World.laidAll Tryz.prog os Rows.fnScriptsRow.laid).forCall (λ_ _=>0) ⟨#[], #[.slice none 0 0,.slice none 0 0],[]⟩).memory:=by rw[MakeChecks.laidMetH_plain _ _ _ (by kernel_rfl)];exact laidMet_laidAll _ (by kernel_rfl) (by kernel_rfl)
set_option maxRecDepth 100000 in
theorem Ew(os:Os)(started:os.Started)(H:Type)(enc:TypeId×Value->H)(F:Stop.Interp):ReturnsInHanded {} Tryz.checked os 9 .any ((OpenSpec.ofChange Rows.fnScriptsSpec).preRow enc Tryz.prog Tryz.f9 Rows.fnScriptsRow.domain false Rows.fnScriptsRow.laid) (((OpenSpec.ofChange Rows.fnScriptsSpec).at F).post enc Tryz.prog Tryz.f9 false true false false):=by
 obtain⟨places,hx⟩:=FB os H enc;refine returnsInHanded_of_row (C:=Tryz.checked) (s:=OpenSpec.ofChange Rows.fnScriptsSpec) own started (by kernel_rfl) Tryz.func9 (um (enc:=enc) (C:=Tryz.checked) (World.laidAll Tryz.prog os Rows.fnScriptsRow.laid) #[.slice none 0 0,.slice none 0 0] (World.laidAll_os _ _ _) (by kernel_rfl) (by kernel_rfl) (by kernel_rfl) (OpenSpec.preRow_of_cond 12 hx (by kernel_rfl) (λk hk=>by cases hk) (by kernel_rfl) (H8 os))) ?_;intro W base args c gs before hval d _ _ a e b _
 exact LU (s:=Rows.fnScriptsSpec) Sh.S9.1 Du 12 (by kernel_rfl) (tb:=4) (by rw[Tryz.params9]) Tryz.underlying51 Tryz.underlying51 (by kernel_rfl) (by kernel_rfl) (by kernel_rfl) (by kernel_rfl) rfl
   (λc hl=>by
     rw[Tryz.params9]at hl
     match c,hl with
     | [d1,d2],_=>rfl)
   (λx hg h1 f=>⟨true,Sh.Fj x.1 x.2 (Sh.JD hg.1) (Sh.JD hg.2.1) h1 f,rfl⟩) hval d a (Sh.uh (by kernel_rfl) (.tail _ (.tail _ (.head _))) (.tail _ (.tail _ (.tail _ (.tail _ (.tail _ (.head _)))))) (.tail _ (.tail _ (.tail _ (.tail _ (.head _))))) e b)
set_option maxHeartbeats 40000000 in
theorem Er:Rows.FnScriptsSaid:=
  OpenClaim.holds_of_cond 9 Tryz.f9 rfl rfl rfl rfl rfl rfl rfl ⟨rfl,rfl,rfl,rfl,rfl⟩ rfl rfl rfl rfl rfl (by as_aux_lemma=>kernel_rfl) Tryz.func9 (by
      unfold joinedFacts
      repeat' (with_reducible refine Bool.and_eq_true_iff.2 ⟨?_,?_⟩)
      all_goals as_aux_lemma=>kernel_rfl)
    (by as_aux_lemma=>exact of_decide_eq_true (by kernel_rfl)) (by as_aux_lemma=>
      unfold Func.isWrapper
      first
        |(rw[aN (by decide+kernel)];kernel_rfl)
        |(rw[aM (by decide+kernel)];exact⟨rfl,rfl⟩))
    (λos started H enc _ F=>by rw[OpenClaim.pre_eq_preRow];exact Ew os started H enc F)
set_option maxHeartbeats 40000000 in
theorem xP(f:FuncId)(fn:Func)(hf:Tryz.pinned.checked.prog.funcNamed "loop.example/g00940/laws.FnScripts" =some f)(b:Tryz.pinned.checked.prog.funcs[f]? =some fn):true=Tryz.pinned.checked.prog.looks []∧∀(j:Nat) t,fn.params[j]? =some t→Tryz.pinned.checked.prog.wantsStandIn t=false:=by obtain rfl:f=9:=aA ((show Tryz.prog.funcNamed "loop.example/g00940/laws.FnScripts" =some 9 by kernel_rfl).symm.trans hf)|>.symm;obtain rfl:fn=Tryz.f9:=(aA (Tryz.func9.symm.trans b)).symm;refine⟨by as_aux_lemma=>kernel_rfl,fun j t ht=> ?_⟩;rw[Tryz.params9]at ht;(have hm:t∈[51,51]:=by simpa using Array.mem_of_getElem? ht);(have a:([51,51].all fun u=>!Tryz.prog.wantsStandIn u)=true:=by kernel_rfl);exact(show Tryz.prog.wantsStandIn t=false by simpa using List.all_eq_true.1 a t hm)
theorem noGo : Tryz.prog.funcs.toList.any Func.goes = false := by as_aux_lemma => kernel_rfl
theorem goesNot {P : Program} (h : P.funcs.toList.any Func.goes = false) (c : OpenClaim) : false = c.goesBy P := by
  have h1 : ∀ (g : FuncId) (fn : Func), P.funcs[g]? = some fn → fn.goes = false := fun g fn e => by
    have := List.any_eq_false.1 h fn (Array.mem_toList_iff.2 (Array.mem_of_getElem? e))
    simpa using this
  have hg : ∀ f, P.goes f = false := fun f => by
    unfold Program.goes
    rw [Bool.or_eq_false_iff]
    refine ⟨List.any_eq_false.2 fun g _ => ?_, by rw [← Array.any_toList, h, Bool.and_false]⟩
    cases e : P.funcs[g]? with
    | none => simp
    | some fn => simpa using h1 g fn e
  unfold OpenClaim.goesBy Program.goesAt Program.goesFrom
  cases c.start <;> cases P.funcNamed c.func <;> simp [hg]
set_option maxHeartbeats 40000000 in
theorem fnScripts_holds:Rows.FnScriptsCardSaid:=
  Claim7.holds_tied_plain_at .later [] _ _ _ _ Er (λ_ h=>by cases h) (by as_aux_lemma=>kernel_rfl) (λ_ h=>by cases h) fnScripts_row_tie rfl ⟨rfl,rfl⟩ (by as_aux_lemma=>kernel_rfl) rfl xP (goesNot noGo _)
end Go.Proofs.YtkemmodgpafkmaaGreatDoor
