/-
  The statement 'FnExactCountReplies', as a card tied to the program's text: the last step of its proof, for all arguments, where the listed variables read as the program's text lays them.
-/
import Derived.Test.YtkemmodgpafkmaaGreatDoorBulkS
import Derived.Test.YtkemmodgpafkmaaGreatDoorCards
import Derived.Test.YtkemmodgpafkmaaGreatDoorTie
import Derived.ProofKit
import Derived.OpenShut
import Derived.JoinedCond
import Derived.SevenTiedAt
namespace Go.Proofs.YtkemmodgpafkmaaGreatDoor
open Go Go.Ab Go.ChangeShapes Go.WideShapes Go.ChangeAt Go.RowKit
set_option maxRecDepth 100000 in
theorem yf(os:Os)(H:Type)(enc:TypeId×Value->H):∃places,DataW.whole enc Tryz.prog ((World.laidAll Tryz.prog os Rows.fnExactCountRepliesRow.laid).forCall (λ_ _=>0) ⟨#[], #[.string .empty],[]⟩).memory Tryz.f4.params.toList Rows.fnExactCountRepliesSpec.vars false #[.string .empty].toList 12=some ([.lit (.string [])],[],places):=⟨[],by kernel_rfl⟩
set_option maxRecDepth 100000 in
theorem zu(os:Os):laidMetH Tryz.prog Rows.fnExactCountRepliesRow.laid ((World.laidAll Tryz.prog os Rows.fnExactCountRepliesRow.laid).forCall (λ_ _=>0) ⟨#[], #[.string .empty],[]⟩).memory:=by rw[MakeChecks.laidMetH_plain _ _ _ (by kernel_rfl)];exact laidMet_laidAll _ (by kernel_rfl) (by kernel_rfl)
set_option maxRecDepth 100000 in
theorem xa(os:Os)(started:os.Started)(H:Type)(enc:TypeId×Value->H)(F:Stop.Interp):ReturnsInHanded {} Tryz.checked os 4 .any ((OpenSpec.ofChange Rows.fnExactCountRepliesSpec).preRow enc Tryz.prog Tryz.f4 Rows.fnExactCountRepliesRow.domain false Rows.fnExactCountRepliesRow.laid) (((OpenSpec.ofChange Rows.fnExactCountRepliesSpec).at F).post enc Tryz.prog Tryz.f4 false true false false):=by
 obtain⟨places,hx⟩:=yf os H enc;refine returnsInHanded_of_row (C:=Tryz.checked) (s:=OpenSpec.ofChange Rows.fnExactCountRepliesSpec) own started (by kernel_rfl) Tryz.func4 (um (enc:=enc) (C:=Tryz.checked) (World.laidAll Tryz.prog os Rows.fnExactCountRepliesRow.laid) #[.string .empty] (World.laidAll_os _ _ _) (by kernel_rfl) (by kernel_rfl) (by kernel_rfl) (OpenSpec.preRow_of_cond 12 hx (by kernel_rfl) (λk hk=>by cases hk) (by kernel_rfl) (zu os))) ?_;intro W base args b gs before hval c _ _ _ d a _
 exact pA (s:=Rows.fnExactCountRepliesSpec) Sh.S4.1 rfl Du 12 (by kernel_rfl) (tb:=4) (by kernel_rfl) (by kernel_rfl) rfl
   (λb hl=>by
     rw[Tryz.params4]at hl
     match b,hl with
     | [d1],_=>rfl)
   (λx _ _=>⟨true,Sh.yh x,rfl⟩) hval c (aB _) (Sh.uh (by kernel_rfl) (.tail _ (.tail _ (.head _))) (.tail _ (.tail _ (.tail _ (.tail _ (.tail _ (.head _)))))) (.tail _ (.tail _ (.tail _ (.tail _ (.head _))))) d a)
set_option maxHeartbeats 40000000 in
theorem rM:Rows.FnExactCountRepliesSaid:=
  OpenClaim.holds_of_cond 4 Tryz.f4 rfl rfl rfl rfl rfl rfl rfl ⟨rfl,rfl,rfl,rfl,rfl⟩ rfl rfl rfl rfl rfl (by as_aux_lemma=>kernel_rfl) Tryz.func4 (by
      unfold joinedFacts
      repeat' (with_reducible refine Bool.and_eq_true_iff.2 ⟨?_,?_⟩)
      all_goals as_aux_lemma=>kernel_rfl)
    (by as_aux_lemma=>exact of_decide_eq_true (by kernel_rfl)) (by as_aux_lemma=>
      unfold Func.isWrapper
      first
        |(rw[aN (by decide+kernel)];kernel_rfl)
        |(rw[aM (by decide+kernel)];exact⟨rfl,rfl⟩))
    (λos started H enc _ F=>by rw[OpenClaim.pre_eq_preRow];exact xa os started H enc F)
theorem sx(f:FuncId)(fn:Func)(hf:Tryz.pinned.checked.prog.funcNamed "loop.example/g00940/laws.FnExactCountReplies" =some f)(b:Tryz.pinned.checked.prog.funcs[f]? =some fn):true=Tryz.pinned.checked.prog.looks []∧∀(j:Nat) t,fn.params[j]? =some t→Tryz.pinned.checked.prog.wantsStandIn t=false:=by obtain rfl:f=4:=aA ((show Tryz.prog.funcNamed "loop.example/g00940/laws.FnExactCountReplies" =some 4 by kernel_rfl).symm.trans hf)|>.symm;obtain rfl:fn=Tryz.f4:=(aA (Tryz.func4.symm.trans b)).symm;refine⟨by as_aux_lemma=>kernel_rfl,fun j t ht=> ?_⟩;rw[Tryz.params4]at ht;(have hm:t∈[9]:=by simpa using Array.mem_of_getElem? ht);(have a:([9].all fun u=>!Tryz.prog.wantsStandIn u)=true:=by kernel_rfl);exact(show Tryz.prog.wantsStandIn t=false by simpa using List.all_eq_true.1 a t hm)
theorem noGo : Tryz.prog.funcs.toList.any Func.goes = false := by as_aux_lemma => kernel_rfl
theorem goesNot {P : Program} (h : P.funcs.toList.any Func.goes = false) (c : OpenClaim) : false = c.goesBy P := by
  have h1 : ∀ (g : FuncId) (fn : Func), P.funcs[g]? = some fn → fn.goes = false := fun g fn e => by
    have := List.any_eq_false.1 h fn (Array.mem_toList_iff.2 (Array.mem_of_getElem? e))
    simpa using this
  have hg : ∀ f, P.goes f = false := fun f => by
    unfold Program.goes
    rw [Bool.or_eq_false_iff]
    refine ⟨List.any_eq_false.2 fun g _ => ?_, by rw [← Array.any_toList, h, Bool.and_false]⟩
    cases e : P.funcs[g]? with
    | none => simp
    | some fn => simpa using h1 g fn e
  unfold OpenClaim.goesBy Program.goesAt Program.goesFrom
  cases c.start <;> cases P.funcNamed c.func <;> simp [hg]
set_option maxHeartbeats 40000000 in
theorem fnExactCountReplies_holds:Rows.FnExactCountRepliesCardSaid:=
  Claim7.holds_tied_plain_at .later [] _ _ _ _ rM (λ_ h=>by cases h) (by as_aux_lemma=>kernel_rfl) (λ_ h=>by cases h) fnExactCountReplies_row_tie rfl ⟨rfl,rfl⟩ (by as_aux_lemma=>kernel_rfl) rfl sx (goesNot noGo _)
end Go.Proofs.YtkemmodgpafkmaaGreatDoor
