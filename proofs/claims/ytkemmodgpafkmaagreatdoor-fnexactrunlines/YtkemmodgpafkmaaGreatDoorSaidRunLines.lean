/-
  The statement 'FnExactRunLines', as a card tied to the program's text: the last step of its proof, for all arguments, where the listed variables read as the program's text lays them.
-/
import Derived.Test.YtkemmodgpafkmaaGreatDoorBulkS
import Derived.Test.YtkemmodgpafkmaaGreatDoorCards
import Derived.Test.YtkemmodgpafkmaaGreatDoorTie
import Derived.ProofKit
import Derived.OpenShut
import Derived.JoinedCond
import Derived.SevenTiedAt
namespace Go.Proofs.YtkemmodgpafkmaaGreatDoor
open Go Go.Ab Go.ChangeShapes Go.WideShapes Go.ChangeAt Go.RowKit
set_option maxRecDepth 100000 in
theorem DN(os:Os)(H:Type)(enc:TypeId×Value->H):∃places,DataW.whole enc Tryz.prog ((World.laidAll Tryz.prog os Rows.fnExactRunLinesRow.laid).forCall (λ_ _=>0) ⟨#[], #[.string .empty],[]⟩).memory Tryz.f3.params.toList Rows.fnExactRunLinesSpec.vars false #[.string .empty].toList 12=some ([.lit (.string [])],[],places):=⟨[],by kernel_rfl⟩
set_option maxRecDepth 100000 in
theorem Fl(os:Os):laidMetH Tryz.prog Rows.fnExactRunLinesRow.laid ((World.laidAll Tryz.prog os Rows.fnExactRunLinesRow.laid).forCall (λ_ _=>0) ⟨#[], #[.string .empty],[]⟩).memory:=by rw[MakeChecks.laidMetH_plain _ _ _ (by kernel_rfl)];exact laidMet_laidAll _ (by kernel_rfl) (by kernel_rfl)
set_option maxRecDepth 100000 in
theorem Cj(os:Os)(started:os.Started)(H:Type)(enc:TypeId×Value->H)(F:Stop.Interp):ReturnsInHanded {} Tryz.checked os 3 .any ((OpenSpec.ofChange Rows.fnExactRunLinesSpec).preRow enc Tryz.prog Tryz.f3 Rows.fnExactRunLinesRow.domain false Rows.fnExactRunLinesRow.laid) (((OpenSpec.ofChange Rows.fnExactRunLinesSpec).at F).post enc Tryz.prog Tryz.f3 false true false false):=by
 obtain⟨places,hx⟩:=DN os H enc;refine returnsInHanded_of_row (C:=Tryz.checked) (s:=OpenSpec.ofChange Rows.fnExactRunLinesSpec) own started (by kernel_rfl) Tryz.func3 (um (enc:=enc) (C:=Tryz.checked) (World.laidAll Tryz.prog os Rows.fnExactRunLinesRow.laid) #[.string .empty] (World.laidAll_os _ _ _) (by kernel_rfl) (by kernel_rfl) (by kernel_rfl) (OpenSpec.preRow_of_cond 12 hx (by kernel_rfl) (λk hk=>by cases hk) (by kernel_rfl) (Fl os))) ?_;intro W base args b gs before hval c _ _ _ d a _
 exact pA (s:=Rows.fnExactRunLinesSpec) Sh.S3.1 rfl Du 12 (by kernel_rfl) (tb:=4) (by kernel_rfl) (by kernel_rfl) rfl
   (λb hl=>by
     rw[Tryz.params3]at hl
     match b,hl with
     | [d1],_=>rfl)
   (λx _ _=>⟨true,Sh.Dx x,rfl⟩) hval c (aB _) (Sh.uh (by kernel_rfl) (.tail _ (.tail _ (.head _))) (.tail _ (.tail _ (.tail _ (.tail _ (.tail _ (.head _)))))) (.tail _ (.tail _ (.tail _ (.tail _ (.head _))))) d a)
set_option maxHeartbeats 40000000 in
theorem vT:Rows.FnExactRunLinesSaid:=
  OpenClaim.holds_of_cond 3 Tryz.f3 rfl rfl rfl rfl rfl rfl rfl ⟨rfl,rfl,rfl,rfl,rfl⟩ rfl rfl rfl rfl rfl (by as_aux_lemma=>kernel_rfl) Tryz.func3 (by
      unfold joinedFacts
      repeat' (with_reducible refine Bool.and_eq_true_iff.2 ⟨?_,?_⟩)
      all_goals as_aux_lemma=>kernel_rfl)
    (by as_aux_lemma=>exact of_decide_eq_true (by kernel_rfl)) (by as_aux_lemma=>
      unfold Func.isWrapper
      first
        |(rw[aN (by decide+kernel)];kernel_rfl)
        |(rw[aM (by decide+kernel)];exact⟨rfl,rfl⟩))
    (λos started H enc _ F=>by rw[OpenClaim.pre_eq_preRow];exact Cj os started H enc F)
theorem xf(f:FuncId)(fn:Func)(hf:Tryz.pinned.checked.prog.funcNamed "loop.example/g00940/laws.FnExactRunLines" =some f)(b:Tryz.pinned.checked.prog.funcs[f]? =some fn):true=Tryz.pinned.checked.prog.looks []∧∀(j:Nat) t,fn.params[j]? =some t→Tryz.pinned.checked.prog.wantsStandIn t=false:=by obtain rfl:f=3:=aA ((show Tryz.prog.funcNamed "loop.example/g00940/laws.FnExactRunLines" =some 3 by kernel_rfl).symm.trans hf)|>.symm;obtain rfl:fn=Tryz.f3:=(aA (Tryz.func3.symm.trans b)).symm;refine⟨by as_aux_lemma=>kernel_rfl,fun j t ht=> ?_⟩;rw[Tryz.params3]at ht;(have hm:t∈[9]:=by simpa using Array.mem_of_getElem? ht);(have a:([9].all fun u=>!Tryz.prog.wantsStandIn u)=true:=by kernel_rfl);exact(show Tryz.prog.wantsStandIn t=false by simpa using List.all_eq_true.1 a t hm)
theorem noGo : Tryz.prog.funcs.toList.any Func.goes = false := by as_aux_lemma => kernel_rfl
theorem goesNot {P : Program} (h : P.funcs.toList.any Func.goes = false) (c : OpenClaim) : false = c.goesBy P := by
  have h1 : ∀ (g : FuncId) (fn : Func), P.funcs[g]? = some fn → fn.goes = false := fun g fn e => by
    have := List.any_eq_false.1 h fn (Array.mem_toList_iff.2 (Array.mem_of_getElem? e))
    simpa using this
  have hg : ∀ f, P.goes f = false := fun f => by
    unfold Program.goes
    rw [Bool.or_eq_false_iff]
    refine ⟨List.any_eq_false.2 fun g _ => ?_, by rw [← Array.any_toList, h, Bool.and_false]⟩
    cases e : P.funcs[g]? with
    | none => simp
    | some fn => simpa using h1 g fn e
  unfold OpenClaim.goesBy Program.goesAt Program.goesFrom
  cases c.start <;> cases P.funcNamed c.func <;> simp [hg]
set_option maxHeartbeats 40000000 in
theorem fnExactRunLines_holds:Rows.FnExactRunLinesCardSaid:=
  Claim7.holds_tied_plain_at .later [] _ _ _ _ vT (λ_ h=>by cases h) (by as_aux_lemma=>kernel_rfl) (λ_ h=>by cases h) fnExactRunLines_row_tie rfl ⟨rfl,rfl⟩ (by as_aux_lemma=>kernel_rfl) rfl xf (goesNot noGo _)
end Go.Proofs.YtkemmodgpafkmaaGreatDoor
