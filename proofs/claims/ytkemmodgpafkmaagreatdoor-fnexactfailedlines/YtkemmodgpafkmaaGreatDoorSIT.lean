/-
  The arguments of a given statement, read as data.
-/
import Derived.Test.YtkemmodgpafkmaaGreatDoorXFun
import Derived.Deep.Slices
import Derived.ChangeSame
import Derived.ChangeStays
import Derived.ProofKit
import Derived.OpenShut
import Derived.Test.YtkemmodgpafkmaaGreatDoorXOps
import Derived.Test.YtkemmodgpafkmaaGreatDoorXGrow
import Derived.Laws.AppendOwn
import Derived.Laws.CopyOwn
import Derived.Laws.Cells
import Derived.SizedLaws
import Derived.Lib.SplitLaws
import Derived.Sort.Grow
import Derived.Lib.ItoaLen
import Derived.Lib.LaidTab
import Derived.Lib.Join
import Derived.Lay
import Derived.Deep.DeepHandedRow
import Derived.Shelf.Vars
import Derived.Lib.LaidU8
import Derived.MakeChecks
import Derived.Sort.Row
import Derived.Shelf.GgSortFunc.RowK
import Derived.Shelf.Strconv.Itoa3
import Derived.Shelf.Strings.OnBuilder
import Derived.Shelf.Strings.BuilderF
import Derived.Shelf.Strings.Split
import Derived.Shelf.Strconv.AtoiAll
import Derived.Shelf.Sort.Plain
import Derived.Shelf.Slices.In.SortNone
import Derived.Shelf.SlSortCmp.WholeK
import Derived.Ground.SlsfProg
import Derived.Test.YtkemmodgpafkmaaGreatDoorChecked
import Derived.Test.YtkemmodgpafkmaaGreatDoorRows
import Derived.KernelRfl
import Derived.WalkKit
import Derived.WalkSpells
import Derived.Lib.Small
import Derived.Lib.Walk
import Derived.Tactics
import Derived.Tactics2
import Derived.StillTactics
import Derived.Laws.Pointers
import Derived.Deep.RegionHeld3
import Derived.Shelf.SlSortCmp.NoneTotal
import Derived.Lib.AtoiAllCases
import Derived.Lib.SmallJoins
import Derived.Lib.OwnBridge
import Derived.Lib.Hide
import Derived.Deep.LoopGhost
import Derived.Deep.AppendSrc
import Derived.Deep.RegionLaw
open Array renaming ext->agW,extract_eq_self_of_le->agX,getElem?_append_left->agp,getElem?_eq_some_iff->agq,getElem?_push_size->agY,size_append->agZ,size_push->ag0
open Bool renaming false_eq_true->aeL
open Decidable renaming decide->ae
open Int renaming tdiv->ag1,tmod->ag2,toNat->ag3
open List renaming append_assoc->aeT,append_nil->aeU,drop_drop->aeV,drop_left->aeX,drop_zero->aeZ,ext_getElem?->ae0,getElem?_append_left->ae5,getElem?_cons_zero->ae6,getElem?_drop->ae7,getElem?_eq_none->agG,getElem?_eq_some_iff->ae8,getElem?_map->ae9,getElem?_take_of_lt->afQ,getElem_of_mem->afb,isPrefixOf->ag4,length->afd,length_cons->afe,length_drop->afR,length_map->ag5,length_nil->aff,length_range->ag6,length_singleton->ag7,length_take->afU,map_cons->afg,map_map->afW,mem_cons->afh,range->ag8,replicate->afi,set_append_right->ag9,size_toArray->aha,sum_cons->ahb,take->ahc,take_append_drop->afj,take_append_of_le_length->ahd,take_left->afk,take_of_length_le->ahe,take_succ_cons->ahf
open Nat renaming add_comm->afn,add_mul->afo,add_zero->afp,beq->afq,blt->afs,le_of_eq->ahg,le_succ->agh,lt_irrefl->ahh,lt_of_succ_le->agP,min_eq_left->afv,mod_lt->ahi,mul_comm->ahj,mul_le_mul_right->afw,one_mul->afx,pow_succ->ahk,sub_mul->ahl,succ_le_of_lt->ahm,succ_mul->ahn,zero_add->afz,zero_le->afA,zero_mul->agl
open Option renaming isSome_none->afC,map_some->afD,none->U,some->O
open Go.Result renaming andThen->aho,andThen_ok->afE
namespace Go.Ab
open Go Go.RowKit
def mX(P:Program)(c:TypeId->Ty->Bool):List Field->Ty->Nat->Bool
 |[],.unit,_=>true
 |f::r,.pair a b,off=>afq f.offset off&&afq (P.cellsOf f.type) a.size&&c f.type a&&mX P c r b (off+a.size)
 |_,_,_=>false
def lL(P:Program):Nat->TypeId->Ty->Bool
 |0,_,_=>false
 | n+1,t,u=>match P.underlying t,u with
   | some .bool,.bool=>true
   | some (.int k),.int a=>ae (k=a)
   | some .string,.str=>true
   | some (.slice te),.slice e=>(afq (P.cellsOf te) e.size&&afs 0 e.size)&&lL P n te e
   | some (.struct fs),u=>u.isAgg&&afq (P.cellsOf t) u.size&&mX P (lL P n) fs.toList u 0
   | _,_=>false
section
variable {H:Type} {enc:TypeId×Value->H} {P:Program} {W:World} {base:Nat} {spare:Nat->Bool} {held:Bool}
def bulk:(t:Ty)->t.den->Nat
 |.unit,_=>0
 |.bool,_=>1
 |.int _,_=>1
 |.str,x=>x.length+1
 |.raw,_=>1
 |.slice t,xs=>(xs.map (bulk t)).sum+1
 |.pair a b,x=>bulk a x.1+bulk b x.2
structure IU {H:Type} (bk:DataW H->Nat):Prop where
  lit:∀l,1<=bk (.lit l)
  str:∀b:List UInt8,b.length+1<=bk (.lit (.string b))
  nil:1<=bk .nil
  slice:∀e r,(e.map bk).sum+1<=bk (.slice e r)
  agg:∀e,(e.map bk).sum<=bk (.agg e)
abbrev Old(W:World):bu:=λq=>q<W.heap.size
theorem O2{α β:Type}(f:α->Nat)(g:β->Nat):∀(xs:List α) (ys:List β),xs.length=ys.length->(∀(i:Nat) (x:α) (y:β),xs[i]? =O x->ys[i]? =O y->f x<=g y)->(xs.map f).sum<=(ys.map g).sum
 |[],_,_,_=>afA _
 |_::_,[],h,_=>by cases h
 |x::xs,y::ys,h,k=>by have h1:=k 0 x y rfl rfl;have b:=O2 f g xs ys (by simpa using h) λi x y hx a=>k (i+1) x y (by simpa using hx) (by simpa using a);simp only[afg,ahb];omega
theorem Bv{bk:DataW H->Nat}{n fuel:Nat}(j:∀(u:Ty) (t:TypeId) (cs:List Value) (x:DataW H×List MemPlace),lL P n t u=true->DataW.trod enc P W base spare held fuel t cs=O x->∃y:u.den,eY (Old W) W u cs y/\bulk u y<=bk x.1):∀(fs:List Field) (u:Ty) (off:Nat) (cs:List Value) (xs:List (DataW H×List MemPlace)),mX P (lL P n) fs u off=true->cs.length=off+u.size->xs.length=fs.length->(∀(i:Nat) (f:Field) (x:DataW H×List MemPlace),fs[i]? =O f->xs[i]? =O x->DataW.trod enc P W base spare held fuel f.type ((cs.drop f.offset).take (P.cellsOf f.type))=O x)->∃y:u.den,eY (Old W) W u (cs.drop off) y/\bulk u y<=((xs.map (·.1)).map bk).sum
 |[],.unit,off,cs,_,_,hl,_,_=>⟨(),by simp[eY];simp[Ty.size]at hl;omega,afA _⟩
 |f::fs,.pair a b,off,cs,[],h,hl,hn,hx=>by cases hn
 |f::fs,.pair a b,off,cs,x::xs,h,hl,hn,hx=>by simp only[mX,ak]at h;obtain⟨⟨⟨h1,d⟩,k⟩,l⟩:=h;have h1:=ax h1;have d:=ax d;have hs:(Ty.pair a b).size=a.size+b.size:=rfl;have c:=hx 0 f x rfl rfl;rw[h1,d]at c;obtain⟨y,m,o⟩:=j a f.type _ x k c;obtain⟨z,p,q⟩:=Bv j fs b (off+a.size) cs xs l (by omega) (by simpa using hn) λi g x hg e=>hx (i+1) g x (by simpa using hg) (by simpa using e);refine⟨(y,z),⟨(cs.drop off).take a.size,cs.drop (off+a.size),?_,m,p⟩,?_⟩;{rw[<-aeV,afj]};{simp only[bulk,afg,ahb];omega}
 |[],.bool,_,_,_,h,_,_,_=>by cases h
 |[],.int _,_,_,_,h,_,_,_=>by cases h
 |[],.str,_,_,_,h,_,_,_=>by cases h
 |[],.raw,_,_,_,h,_,_,_=>by cases h
 |[],.slice _,_,_,_,h,_,_,_=>by cases h
 |[],.pair _ _,_,_,_,h,_,_,_=>by cases h
 |_::_,.unit,_,_,_,h,_,_,_=>by cases h
 |_::_,.bool,_,_,_,h,_,_,_=>by cases h
 |_::_,.int _,_,_,_,h,_,_,_=>by cases h
 |_::_,.str,_,_,_,h,_,_,_=>by cases h
 |_::_,.raw,_,_,_,h,_,_,_=>by cases h
 |_::_,.slice _,_,_,_,h,_,_,_=>by cases h
theorem G8[Tabs]{bk:DataW H->Nat}(q:IU bk):∀(n:Nat) {fuel:Nat} (u:Ty) (t:TypeId) (cs:List Value) (x:DataW H×List MemPlace),lL P n t u=true->DataW.trod enc P W base spare held fuel t cs=O x->∃y:u.den,eY (Old W) W u cs y/\bulk u y<=bk x.1
 |0,_,_,_,_,_,h,_=>by cases h
 |n+1,fuel,u,t,cs,x,h,hx=>by unfold lL at h;split at h;{rename_i hu;obtain⟨b,rfl,rfl⟩:=DataW.trod_bool hu hx;exact⟨b,rfl,q.lit _⟩};{rename_i k S hu;have hk:=of_decide_eq_true h;subst hk;obtain⟨v,rfl,rfl,hw⟩:=DataW.trod_int hu hx;exact⟨v,⟨rfl,hw⟩,q.lit _⟩};{rename_i hu;obtain⟨b,rfl,rfl,hl⟩:=DataW.trod_string hu hx;exact⟨b.data.toList,⟨rfl,by rw[az];exact hl⟩,q.str _⟩};{rename_i te e hu;simp only[ak]at h;have hs:=ax h.1.1;have F:0<e.size:=agP (by simpa[afs]using h.1.2);rcases DataW.trod_slice hu hx with ⟨rfl,rfl⟩|⟨a,len,cap,c,rest,m,_,rfl,rfl,I,hl,hc,E,s,_,_⟩;{exact⟨[],⟨by simp,.inl ⟨rfl,rfl⟩⟩,q.nil⟩};{(have each:∀i,i<len->∃d,W.cells? base (a.add (i*P.cellsOf te)) (P.cellsOf te)=O d/\∃y,eY (Old W) W e d y/\∀x,c[i]? =O x->bulk e y<=bk x.1:=λi hi=>by have:=s i hi;(have B:i<c.length:=by omega);rw[aJ B,ay]at this;obtain⟨d,h1,r⟩:=this;obtain⟨y,J,K⟩:=G8 q n e te d _ h.2 r;exact⟨d,h1,y,J,λx hx=>by rw[aJ B]at hx;cases hx;exact K⟩);(obtain⟨xs,w,z⟩:=Hp (p:=λi y=>∃d,W.cells? base (a.add (i*P.cellsOf te)) (P.cellsOf te)=O d/\eY (Old W) W e d y/\∀x,c[i]? =O x->bulk e y<=bk x.1) len λi hi=>by obtain⟨d,h1,y,r⟩:=each i hi;exact⟨y,d,h1,r⟩);subst w;(have C:xs=[]\/(a.spot=U/\Old W a.block/\a.block<W.heap.size):=by cases xs with|nil=>exact .inl rfl|cons L xs=>right;obtain⟨d,h1,r,_⟩:=z 0 L rfl;obtain⟨_,k2,k3⟩:=World.cells?_some h1;have g:=k3 0 (by omega);have M:∃v,d[0]? =O v:=⟨d[0]'(by omega),by simp⟩;obtain⟨v,N⟩:=M;rw[N]at g;unfold World.cell? at g;split at g;{rename_i c' T V D;split at g;{cases g};{rename_i l;refine⟨by simpa[Addr.add]using l,?_,?_⟩;{exact lt_of_heap (by simpa[Addr.add]using D)};{exact lt_of_heap (by simpa[Addr.add]using D)}}};{cases g});(have A:((xs.map (bulk e))).sum<=((c.map (·.1)).map bk).sum:=by rw[afW];exact O2 _ _ xs c E.symm λi y x Q hx=>(z i y Q).choose_spec.2.2 x hx);refine⟨xs,⟨aC hl hc,.inr ⟨a,cap,rfl,⟨hl,hc⟩,C,λi y hi=> ?_⟩⟩,aC (Nat.succ_le_succ A) (q.slice _ _)⟩;obtain⟨d,h1,r,_⟩:=z i y hi;obtain⟨_,k2,k3⟩:=World.cells?_some h1;refine⟨d,by rw[k2,hs],λj v G=> ?_,r⟩;have R:=(ae8.1 G).1;have g:=(k3 j (by omega)).trans G;(obtain⟨l,_⟩:=C.resolve_left λh=>by rw[h]at hi;simp at hi);obtain⟨b,o,sp⟩:=a;simp only at l;subst l;rw[eN,eN,hs]at g;exact g}};{rename_i X Y fs hu;simp only[ak]at h;obtain⟨xs,m,rfl,rfl,hl,w,s⟩:=DataW.trod_struct hu hx;have hs:=ax h.1.2;(obtain⟨y,h1,r⟩:=Bv (enc:=enc) (base:=base) (spare:=spare) (held:=held) (n:=n) (fuel:=m) (bk:=bk) (λu t cs x h hx=>G8 q n u t cs x h hx) fs.toList _ 0 cs xs h.2 (by omega) (by simpa using w) λi f x hf hx=>by have:=s i f (by simpa using hf);rw[hx]at this;exact this);exact⟨y,by simpa using h1,aC r (q.agg _)⟩};{cases h}
theorem NT{r:Reach}{b n:Nat}{t:TypeId}{u:Ty}{v:Value}(h:lL P n t u=true)(a:Value.okWide P W r b t v):v=mN u.isAgg v.cells.toList:=by cases n with|zero=>cases h|succ n=>unfold lL at h;split at h;{rename_i hu;unfold Value.okWide at a;simp only[hu]at a;unfold Cell.okWide at a;cases v<;>simp[Cell.ok,hu]at a<;>rfl};{rename_i hu;unfold Value.okWide at a;simp only[hu]at a;unfold Cell.okWide at a;cases v<;>simp[Cell.ok,hu]at a<;>rfl};{rename_i hu;unfold Value.okWide at a;simp only[hu]at a;unfold Cell.okWide at a;cases v<;>simp[Cell.ok,hu]at a<;>rfl};{rename_i hu;unfold Value.okWide at a;simp only[hu]at a;unfold Cell.okWide at a;cases v<;>simp[Cell.ok,hu]at a<;>rfl};{rename_i hu;unfold Value.okWide at a;simp only[hu]at a;simp only[ak]at h;obtain⟨cs,rfl,_⟩:=a;rw[h.1.1];rfl};{cases h}
def tB(P:Program)(n:Nat):List TypeId->List PK->Bool
 |[],[]=>true
 |t::ts,.val u::ps=>lL P n t u&&tB P n ts ps
 |_,_=>false
def zK:(ps:List PK)->bS (PK.dw ps)->Nat
 |[],_=>0
 |.val t::ps,x=>bulk t (headD x)+zK ps (tailD x)
 |.own t::ps,x=>bulk t (headD x)+zK ps (tailD x)
 |.rp _::ps,x=>zK ps (tailD x)
 |.fn _ _::ps,x=>zK ps (tailD x)
 |.dt t::ps,x=>bulk t (headD x)+zK ps (tailD x)
 |.cK t::ps,x=>bulk t (headD x)+zK ps (tailD x)
theorem Az[Tabs]{bk:DataW H->Nat}(f:IU bk){r:Reach}{i n:Nat}:∀{ts:List TypeId} {ps:List PK} {vs:List Value} {a:List (DataW H)} {p:List MemPlace},tB P n ts ps=true->DataW.TrodAll enc P W base spare held ts vs a p->(∀(j:Nat) (t:TypeId) (v:Value),ts[j]? =O t->vs[j]? =O v->Value.okWide P W r i t v)->∃x,cN (Old W) W ps vs x (λ_=>False)/\zK ps x<=(a.map bk).sum
 |[],[],[],_,_,_,_,_=>⟨(),⟨rfl,λ_ h=>h⟩,afA _⟩
 |[],[],_::_,[],_,_,h,_=>h.elim
 |[],[],_::_,_::_,_,_,h,_=>h.elim
 |t::ts,.val u::ps,vs,a,p,b,h,g=>by simp only[tB,ak]at b;match vs,a,h with|v::vs,d::a,h=>obtain⟨o,q,⟨fuel,h1⟩,k,_⟩:=h;obtain⟨y,l,c⟩:=G8 f n u t _ _ b.1 h1;obtain⟨z,m,s⟩:=Az f b.2 k λj t v ht e=>g (j+1) t v (by simpa using ht) (by simpa using e);refine⟨dC y z,⟨v,vs,rfl,⟨v.cells.toList,NT b.1 (g 0 t v rfl rfl),?_⟩,?_⟩,?_⟩;{rw[bK];exact l};{rw[bO];exact m};{simp only[zK,bK,bO,afg,ahb];simp only at c;omega}
end
end Go.Ab
namespace Go.Ab
open Go Go.RowKit Go.ChangeShapes Go.WideShapes
def good:(t:Ty)->t.den->Prop
 |.unit,_=>True
 |.bool,_=>True
 |.int k,x=>CC k x
 |.str,x=>x.length<=maxLen
 |.raw,_=>True
 |.slice t,xs=>xs.length<=maxLen/\∀x∈xs,good t x
 |.pair a b,x=>good a x.1/\good b x.2
def qm:(ps:List PK)->bS (PK.dw ps)->Prop
 |[],_=>True
 |.val t::ps,x=>good t (headD x)/\qm ps (tailD x)
 |.own t::ps,x=>good t (headD x)/\qm ps (tailD x)
 |.dt t::ps,x=>good t (headD x)/\qm ps (tailD x)
 |.cK t::ps,x=>good t (headD x)/\qm ps (tailD x)
 |.rp _::ps,x=>qm ps (tailD x)
 |.fn _ _::ps,x=>qm ps (tailD x)
theorem eY.good{S:bu}{w:World}:{t:Ty}->{cs:List Value}->{x:t.den}->eY S w t cs x->good t x
 |.unit,_,_,_=>trivial
 |.bool,_,_,_=>trivial
 |.int _,_,_,h=>h.2
 |.str,_,_,h=>h.2
 |.raw,_,_,_=>trivial
 |.slice _,_,x,h=>by obtain⟨hl,h⟩:=h;refine⟨hl,λy a=> ?_⟩;rcases h with ⟨_,rfl⟩|⟨_,_,_,_,_,h⟩;{cases a};{obtain⟨i,hi,rfl⟩:=afb a;obtain⟨c,_,_,r⟩:=h i x[i] (by simp[hi]);exact r.good}
 |.pair _ _,_,_,h=>by obtain⟨_,_,_,h1,b⟩:=h;exact⟨h1.good,b.good⟩
theorem cN.qm[Tabs]{S:bu}{w:World}:∀{ps:List PK} {vs:List Value} {x:bS (PK.dw ps)} {F:bu},ct ps=true->cN S w ps vs x F->qm ps x
 |[],_,_,_,_,_=>trivial
 |.val t::ps,vs,x,F,a,h=>by obtain⟨v,r,rfl,⟨c,_,h1⟩,b⟩:=h;exact⟨h1.good,cN.qm (ps:=ps) a b⟩
 |.rp t::ps,vs,x,F,a,h=>by obtain⟨v,r,rfl,_,b⟩:=h;exact cN.qm (ps:=ps) a b
 |.fn g ts::ps,vs,x,F,a,h=>by obtain⟨cs,r,rfl,_,b⟩:=h;exact cN.qm (ps:=ps) a b
 |.own t::ps,_,_,_,a,_=>by cases a
 |.dt t::ps,_,_,_,a,_=>by cases a
 |.cK t::ps,_,_,_,a,_=>by cases a
theorem Hv{P:Program}{l:List (Nat×Ty)}(h:l.all (λp=>dB P p.1 p.2)=true):∀p∈l,dB P p.1 p.2=true:=List.all_eq_true.1 h
theorem kQ[Tabs]{P:Program}:yV P [] [] [] [] []:=⟨(λ_ h=>nomatch h),(λ_ h=>nomatch h),(λ_ h=>nomatch h),(λ_ h=>nomatch h),(λ_ h=>nomatch h)⟩
theorem CE[Tabs]{P:Program}{f:Nat}{t:Ty}{l:List (Nat×Ty)}{d:List (Nat×uN)}{z:List (Nat×sP)}{q:List (Nat×Ty)}(h:xz P f t)(k:lK P f){a:List (Nat×MK)}(r:yV P l d z q a):yV P ((f,t)::l) d z q a:=⟨(λp hp=>by
  rcases afh.1 hp with rfl|hp
  ·exact⟨h,k⟩
  ·exact r.1 p hp),r.2⟩
theorem PO[Tabs]{P:Program}{f:Nat}{D:uN}{l:List (Nat×Ty)}{d:List (Nat×uN)}{z:List (Nat×sP)}{q:List (Nat×Ty)}(h:Jk P f D)(k:lK P f){a:List (Nat×MK)}(r:yV P l d z q a):yV P l ((f,D)::d) z q a:=⟨r.1,(λp hp=>by
  rcases afh.1 hp with rfl|hp
  ·exact⟨h,k⟩
  ·exact r.2.1 p hp),r.2.2⟩
theorem Ep[Tabs]{P:Program}{f:Nat}{D:sP}{l:List (Nat×Ty)}{d:List (Nat×uN)}{z:List (Nat×sP)}{q:List (Nat×Ty)}(h:MT P f D)(k:lK P f){a:List (Nat×MK)}(r:yV P l d z q a):yV P l d ((f,D)::z) q a:=⟨r.1,r.2.1,(λp hp=>by
  rcases afh.1 hp with rfl|hp
  ·exact⟨h,k⟩
  ·exact r.2.2.1 p hp),r.2.2.2⟩
theorem NP[Tabs]{P:Program}{f:Nat}{D:MK}{l:List (Nat×Ty)}{d:List (Nat×uN)}{z:List (Nat×sP)}{q:List (Nat×Ty)}(h:Xs P f D)(k:lK P f){a:List (Nat×MK)}(r:yV P l d z q a):yV P l d z q ((f,D)::a):=⟨r.1,r.2.1,r.2.2.1,r.2.2.2.1,(λp hp=>by
  rcases afh.1 hp with rfl|hp
  ·exact⟨h,k⟩
  ·exact r.2.2.2.2 p hp)⟩
theorem I3[Tabs]{P:Program}:∀p∈([]:List (Nat×aR)),Sound P p.1 p.2/\lK P p.1:=λ_ h=>by cases h
theorem O0[Tabs]{P:Program}{f:Nat}{C:aR}{l:List (Nat×aR)}(h:Sound P f C)(k:lK P f)(r:∀p∈l,Sound P p.1 p.2/\lK P p.1):∀p∈(f,C)::l,Sound P p.1 p.2/\lK P p.1:=λp hp=>by
  rcases afh.1 hp with rfl|hp
  ·exact⟨h,k⟩
  ·exact r p hp
noncomputable def LW{α:Type}(f:Nat->Option α):Option α:=by
  classical
  exact if h:∃k,(f k).isSome=true then f (Classical.choose h)else U
theorem ND{α:Type}{f:Nat->Option α}{r:α}(h:LW f=O r):∃k,f k=O r:=by unfold LW at h;split at h;{exact⟨_,h⟩};{cases h}
theorem Tu{α:Type}{f:Nat->Option α}{r:α}(h:∃k,f k=O r)(u:∀k a,f k=O a->a=r):LW f=O r:=by unfold LW;(have hx:∃k,(f k).isSome=true:=h.imp λk e=>by rw[e];rfl);rw[dif_pos hx];obtain⟨a,e⟩:=Option.isSome_iff_exists.1 (Classical.choose_spec hx);rw[e,u _ _ e]
theorem Ow[Tabs]{P:Program}{f:FuncId}{ps:List PK}{rs:List RK}{g:Nat->bS (PK.dw ps)->Option (bS (PK.dY ps (RK.dw rs)))}(h:∀k,Sound P f ⟨ps,rs,g k⟩):Sound P f ⟨ps,rs,λx=>LW λk=>g k x⟩:=
  λw args x r S a hT b ha c d=>let ⟨k,hk⟩:=ND d;h k w args x r S a hT b ha c hk
def Deep(P:Program)(t:TypeId):Prop:=∃n u,lL P n t u=true
section
variable {H:Type} {enc:TypeId×Value->H} {P:Program}
theorem uV{n:Nat}:∀{fs:List Field} {u:Ty} {off:Nat},mX P (lL P n) fs u off=true->(∀f∈fs,Deep P f.type)/\u.size=(fs.map λf=>P.cellsOf f.type).sum/\∀(j:Nat) (f:Field),fs[j]? =O f->f.offset=off+((fs.take j).map λf=>P.cellsOf f.type).sum
 |[],.unit,_,_=>⟨(λ_ h=>by cases h),rfl,(λ_ _ h=>by simp at h)⟩
 |f::fs,.pair a b,off,h=>by simp only[mX,ak]at h;obtain⟨⟨⟨h1,d⟩,e⟩,i⟩:=h;have h1:=ax h1;have d:=ax d;obtain⟨k1,k2,k3⟩:=uV i;refine⟨λg hg=> ?_,?_,λj g c=> ?_⟩;{rcases afh.1 hg with rfl|hg;{exact⟨n,a,e⟩};{exact k1 g hg}};{simp only[Ty.size,afg,ahb];omega};{cases j with|zero=>simp at c;subst c;simp[h1]|succ j=>have:=k3 j g (by simpa using c);rw[this];simp only[ahf,afg,ahb];omega}
 |[],.bool,_,h=>by cases h
 |[],.int _,_,h=>by cases h
 |[],.str,_,h=>by cases h
 |[],.raw,_,h=>by cases h
 |[],.slice _,_,h=>by cases h
 |[],.pair _ _,_,h=>by cases h
 |_::_,.unit,_,h=>by cases h
 |_::_,.bool,_,h=>by cases h
 |_::_,.int _,_,h=>by cases h
 |_::_,.str,_,h=>by cases h
 |_::_,.raw,_,h=>by cases h
 |_::_,.slice _,_,h=>by cases h
theorem CW{t e:TypeId}(h:Deep P t)(hu:P.underlying t=O (.slice e)):Deep P e/\0<P.cellsOf e:=by obtain⟨n,u,h⟩:=h;cases n with|zero=>cases h|succ n=>unfold lL at h;rw[hu]at h;cases u with|slice u=>simp only[ak]at h;have:=ax h.1.1;have a:0<u.size:=agP (by simpa[afs]using h.1.2);exact⟨⟨n,u,h.2⟩,by omega⟩|_=>cases h
theorem JV[Tabs]{t:TypeId}{fs:Array Field}(h:Deep P t)(hu:P.underlying t=O (.struct fs)):(∀f∈fs.toList,Deep P f.type)/\P.cellsOf t=(fs.toList.map λf=>P.cellsOf f.type).sum/\∀(j:Nat) f,fs.toList[j]? =O f->f.offset=((fs.toList.take j).map λf=>P.cellsOf f.type).sum:=by obtain⟨n,u,h⟩:=h;cases n with|zero=>cases h|succ n=>unfold lL at h;rw[hu]at h;simp only[ak]at h;have hs:=ax h.1.2;obtain⟨k1,k2,k3⟩:=uV h.2;exact⟨k1,by omega,λj f a=>by have:=k3 j f a;omega⟩
theorem ES{t:TypeId}(h:Deep P t):(∀e,P.underlying t≠O (.pointer e))/\(∀e n,P.underlying t≠O (.array n e))/\(∀k e,P.underlying t≠O (.map k e)):=by obtain⟨n,u,h⟩:=h;cases n with|zero=>cases h|succ n=>unfold lL at h;refine⟨λe hu=> ?_,λe n hu=> ?_,λk e hu=> ?_⟩<;>rw[hu]at h<;>cases u<;>cases h
theorem Nc[Tabs]:Kids P (Deep P):=⟨λh hu=>absurd hu ((ES h).1 _),λh hu=>(CW h hu).1,λh hu=>absurd hu ((ES h).2.1 _ _),λh hu=>JV h hu,λh hu=>absurd hu ((ES h).2.2 _ _)⟩
theorem tj{n:Nat}:∀{ts:List TypeId} {ps:List PK},tB P n ts ps=true->∀t∈ts,Deep P t
 |[],[],_,_,h=>by cases h
 |t::ts,.val u::ps,h,x,hx=>by simp only[tB,ak]at h;rcases afh.1 hx with rfl|hx;{exact⟨n,u,h.1⟩};{exact tj h.2 x hx}
theorem rO[Tabs]{w w':World}{base:Nat}{a:Nat->Bool}:∀{ts:List TypeId} {vs:List Value} {b:List (DataW H)} {ps:List MemPlace},(∀t∈ts,Deep P t)->DataW.TrodAll enc P w base (λ_=>true) true ts vs b ps->(∀p∈ps,w.sameAt w' p)->(∀p∈ps,a p.block=true)->DataW.TrodAll enc P w' base a true ts vs b ps
 |[],_,_,_,_,h,_,_=>by obtain⟨rfl,rfl,rfl⟩:=trodAll_nil h;exact trodAll_mk0
 |t::ts,vs,b,ps,hT,h,h1,c=>by obtain⟨v,vs,d,b,p,q,rfl,rfl,rfl,⟨n,e⟩,f⟩:=trodAll_cons h;refine⟨p,q,⟨n,?_⟩,rO (λt ht=>hT t (aL _ ht)) f (λx hx=>h1 x (by simp[hx])) (λx hx=>c x (by simp[hx])),rfl⟩;exact DataW.trod_stays Nc (λh hu=>(CW h hu).2) (λh=>by cases h) (hT t (by simp)) e (λx hx=>h1 x (by simp[hx])) (λx hx=>c x (by simp[hx]))
theorem pT{w:World}{base:Nat}{sp:Nat->Bool}{held:Bool}:∀{ts:List TypeId} {vs:List Value} {a:List (DataW H)} {ps:List MemPlace},DataW.TrodAll enc P w base sp held ts vs a ps->a.length=ts.length
 |[],_,_,_,h=>by obtain⟨rfl,rfl,rfl⟩:=trodAll_nil h;rfl
 |t::ts,_,_,_,h=>by obtain⟨v,vs,d,a,p,q,rfl,rfl,rfl,_,b⟩:=trodAll_cons h;simp[pT b]
theorem xE{w w':World}{p:MemPlace}(h:w'.heap[p.block]? =w.heap[p.block]?):w.sameAt w' p:=by cases p with|cell b o=>exact World.cell?_of_block (w:=w) (w':=w') h|map b=>exact h
theorem yC{w w':World}(p:iu w w' (λ_=>False))(may:MemPlace->Prop):w.keptBut w' may:=by refine⟨p.os,p.output,λi hi=> ?_⟩;rw[p.block i hi (λh=>h)];cases w.heap[i]? with|none=>trivial|some o=>cases o<;>simp
theorem sL{f:Func}{s:ChangeSpec}{apart fresh handsOn again:Bool}{W h:World}{args:Array Value}{v:Value}{i gs:List (DataW H)}{before pa pv:List MemPlace}(k:DataW.Whole enc P f.params.toList s.vars apart W args.toList i gs before)(g:∀(b:Nat) (sp:Nat->Bool) (q:Bool),DataW.TrodAll enc P h b sp q f.resultTypes.toList (v.resultList f.resultTypes.size) (s.fn H (i++gs)).results [])(c:∀sp:Nat->Bool,(∀p∈before,sp p.block=true)->DataW.TrodAll enc P h 0 sp true f.params.toList args.toList (s.fn H (i++gs)).args pa)(d:∀sp:Nat->Bool,(∀p∈before,sp p.block=true)->DataW.TrodVars enc P h sp s.vars (s.fn H (i++gs)).vars pv)(e:before=pa++pv)(hk:W.keptBut h (· ∈before))(l:∀a:Addr,a.block<W.heap.size->h.frozen? a=W.frozen? a)(m:∀(j:Nat) (t:TypeId) (r:Value),f.resultTypes[j]? =O t->(v.resultList f.resultTypes.size)[j]? =O r->Value.okWide P h .any 0 t r):s.post enc P f apart fresh handsOn again W args v h:=by(have hold:∀p∈before,(λb=>ae (b<W.heap.size)) p.block=true:=λp hp=>by simpa using k.lt p hp);have n:=k.lt;refine⟨i,gs,before,[],pa,pv,k,g _ _ _,c _ hold,d _ hold,World.keptBut_mono (λp hp=>⟨hp,?_⟩) hk,λ_=> ?_⟩;{rw[e,List.mem_append]at hp;exact Or.inr hp};{obtain⟨_,_,_,_,_,u,hn⟩:=k;refine⟨m,_,_,([]++pa)++pv,⟨[]++pa,pv,trodAll_append (c _ (λ_ _=>rfl)) (g _ _ _),d _ (λ_ _=>rfl),rfl,?_,?_⟩,?_⟩;{intro b off hp;(have o:MemPlace.cell b off∈before:=by rw[e];simpa using hp);rw[l _ (n _ o)];exact u b off o};{intro ha;have:=hn ha;rw[e]at this;simpa using this};{intro p hp _;rw[e];simpa using hp}}
theorem pA[Tabs]{f:FuncId}{fn:Func}{ps:List PK}{g:bS (PK.dw ps)->Option (bS (PK.dY ps (RK.dw [.val .bool])))}(hC:Sound P f ⟨ps,[.val .bool],g⟩)(o:ct ps=true){s:ChangeSpec}{bk:DataW H->Nat}(J:IU bk)(n:Nat)(F:tB P n fn.params.toList ps=true){tb:TypeId}(c:fn.resultTypes= #[tb])(l:P.underlying tb=O .bool)(a:s.vars=[])(hs:∀d:List (DataW H),fn.params.toList.length=d.length->s.fn H d=⟨[.lit (.bool true)],d,[]⟩){N:Nat}(plain:∀x,qm ps x->zK ps x<=N->∃r,g x=O r/\xd ps r=O true){apart fresh handsOn again:Bool}{W:World}{base:Nat}{args:Array Value}{d gs:List (DataW H)}{before:List MemPlace}(hval:∀(j:Nat) t v,fn.params[j]? =O t->args[j]? =O v->Value.okWide P W .any base t v)(G:DataW.Whole enc P fn.params.toList s.vars apart W args.toList d gs before)(K:(d.map bk).sum<=N)(hT:lU W W.heap.size (λ_=>False)):Calls P f args W λe w=>∃v,e=.returned v/\s.post enc P fn apart fresh handsOn again W args v w:=by have y:=G;obtain⟨p,q,z,I,rfl,L,M⟩:=G;have hA:DataW.TrodAll enc P W 0 (λ_=>true) true fn.params.toList args.toList d p:=z;rw[a]at I;obtain⟨rfl,rfl⟩:=trodVars_none I;obtain⟨x,hx,A⟩:=Az J F hA λj t v ht o=>hval j t v (by simpa using ht) (by simpa using o);obtain⟨r,Q,hm⟩:=plain x (hx.qm o) (aC A K);have call:=hC W args.toList x r (Old W) (λ_=>False) hT (λ_ h=>h) hx (λ_ h=>h.elim) Q;(have e:args.toList.toArray=args:=by simp);rw[e]at call;refine Calls.mono call λe w k=> ?_;obtain⟨vs,S',V,X,rfl,past,_,_,out,_,_⟩:=k;have res:=nI o hm out;obtain⟨v,Y,rfl,⟨B,R,S⟩,rfl,_⟩:=res;have C:B=[.bool true]:=S;subst C;subst R;refine⟨.bool true,rfl,?_⟩;have hs:=hs d (pT hA).symm;have D:=DataW.TrodAll.lt hA;have i:∀u∈p,W.sameAt w u:=λu E=>xE (past.block u.block (D u E) λh=>h);refine sL (pa:=p) (pv:=[]) y (λb sp T=> ?_) (λsp m=> ?_) (λsp _=> ?_) rfl (yC past _) past.fz ?_;{rw[aeU,hs,c];exact trodAll_mk1 (shut_bool l true)};{rw[aeU,hs];simp only[aeU]at m;exact rO (tj F) hA i m};{rw[aeU,hs,a];exact rfl};{exact ok_one c rfl (okWide_bool_mk l true)}
end
end Go.Ab
namespace Go.Ab
open Go
theorem js.det{α β:Type}{f:α->Option (α⊕β)}{a:α}{b c:β}(h:js f a b)(k:js f a c):b=c:=by induction h with|done h=>(cases k with|done k=>rw[h]at k;cases k;rfl|step k _=>rw[h]at k;cases k)|step h _ d=>cases k with|done k=>rw[h]at k;cases k|step k e=>rw[h]at k;cases k;exact d e
theorem u5{α β:Type}{f:α->Option (α⊕β)}{a:α}{b:β}(h:js f a b):aX f a=O b:=by unfold aX;have hx:∃b,js f a b:=⟨b,h⟩;rw[dif_pos hx];exact congrArg O ((Classical.choose_spec hx).det h)
theorem rX{α β:Type}{f:α->Option (α⊕β)}{a:α}{b:β}(h:aX f a=O b):js f a b:=by unfold aX at h;split at h;{rename_i hx;cases h;exact Classical.choose_spec hx};{cases h}
theorem bb{α β:Type}{f:α->Option (α⊕β)}{a:α}{b:β}(h:f a=O (.inr b)):aX f a=O b:=u5 (.done h)
theorem bq{α β:Type}{f:α->Option (α⊕β)}{a a':α}(h:f a=O (.inl a')):aX f a=aX f a':=by cases e:aX f a' with|some b=>exact u5 (.step h (rX e))|none=>cases c:aX f a with|none=>rfl|some b=>have:=rX c;cases this with|done k=>rw[h]at k;cases k|step k d=>rw[h]at k;cases k;rw[u5 d]at e;cases e
theorem U2(x:Int):aW x=(x+9223372036854775808)%18446744073709551616-9223372036854775808:=by simp only[aW,IntKind.wrap,IntKind.signed,IntKind.bits];simp;omega
theorem aZ{x:Int}(h1: -9223372036854775808<=x)(a:x<=9223372036854775807):aW x=x:=by rw[U2];omega
theorem qG{α β:Type}{f:α->Option (α⊕β)}{a:α}(h:f a=U):aX f a=U:=by cases e:aX f a with|none=>rfl|some b=>have:=rX e;cases this with|done k=>rw[h]at k;cases k|step k _=>rw[h]at k;cases k
theorem bh{α:Type}{xs:List α}{i:Nat}:idx xs (i:Int)=xs[i]? :=by unfold idx;rw[aM (by omega)];rfl
def eC{α σ ρ:Type}(step:σ->Nat->α->Option (σ⊕ρ))(fin:σ->ρ):σ->Nat->List α->Option ρ
 |s,_,[]=>O (fin s)
 | s,i,x::r=>(step s i x).bind λz=>match z with
   | .inl s'=>eC step fin s' (i+1) r
   | .inr y=>O y
theorem ii{α σ τ ρ:Type}{a:List α}{f:τ->Option (τ⊕ρ)}{init:τ}(mk:σ->Int->τ)(step:σ->Nat->α->Option (σ⊕ρ))(fin:σ->ρ)(s:σ)(b:init=mk s 0)
    (hf:∀s i x,i<a.length->a[i]? =O x->f (mk s i)=(step s i x).bind λz=>match z with
      |.inl s'=>O (.inl (mk s' ((i:Int)+1)))
      |.inr y=>O (.inr y)) (c:∀s,f (mk s a.length)=O (.inr (fin s))):aX f init=eC step fin s 0 a:=by
  have main:∀(r pre:List α) (s:σ),a=pre++r->aX f (mk s pre.length)=eC step fin s pre.length r:=by
    intro r
    induction r with
    |nil=>
     intro pre s e;rw[aeU]at e;subst e;exact bb (c s)
    |cons x r g=>
     intro pre s e;have hx:a[pre.length]? =O x:=by rw[e];simp
     have d:pre.length<a.length:=by rw[e];simp
     have h:=hf s pre.length x d hx;simp only[eC]
     cases hs:step s pre.length x with
     |none=>rw[hs]at h;exact qG h
     |some z=>
      rw[hs]at h
      cases z with
      |inr y=>exact bb h
      |inl s'=>
       rw[bq h];have:=g (pre++[x]) s' (by rw[e];simp);simp only[aG,afe,aff,afz]at this;exact this
  rw[b];exact main a [] s rfl
theorem Kh{α β:Type}(g:α->β):∀(r:List α) (pre a:List β),a.length=r.length->
    eC (ρ:=List β) (λ(out:List β) i x=>if i<out.length then O (.inl (out.set i (g x)))else U) (λout=>out) (pre++a) pre.length r=O (pre++r.map g)
  |[],pre,a,h=>by
   have:a=[]:=aH h;subst this;simp[eC]
  |x::r,pre,a,h=>by
   cases a with
   |nil=>cases h
   |cons y a=>
    have b:=Kh g r (pre++[g x]) a (by simpa using h);simp only[eC];rw[aN (by simp)];simp only[ah]
    have e:(pre++y::a).set pre.length (g x)=pre++[g x]++a:=by
      rw[ag9 _ _ (aB _)];simp
    rw[e];simp only[aG,afe,aff,afz]at b;rw[b];simp
theorem MA{α β:Type}(t:α->Bool)(g:Nat->β):∀(r:List α) (i:Nat),
    (r.all t=true->eC (ρ:=Unit⊕β) (λ(_:Unit) i x=>O (bif t x then .inl ()else .inr (.inr (g i)))) (λ_=>.inl ()) () i r=O (.inl ()))/\
    (r.all t=false->∃j,i<=j/\eC (ρ:=Unit⊕β) (λ(_:Unit) i x=>O (bif t x then .inl ()else .inr (.inr (g i)))) (λ_=>.inl ()) () i r=O (.inr (g j)))
  |[],i=>⟨λ_=>rfl,(λh=>by cases h)⟩
  |x::r,i=>by
   obtain⟨h1,a⟩:=MA t g r (i+1);simp only[List.all_cons,eC,ah]
   cases t x with
   |false=>exact⟨(λh=>by cases h),λ_=>⟨i,aB _,rfl⟩⟩
   |true=>
    refine⟨λh=>h1 h,λh=> ?_⟩;obtain⟨j,b,e⟩:=a h;exact⟨j,by omega,e⟩
theorem yG{α:Type}(pre:List α)(x:α)(a:List α):(pre++x::a)[ag3 (pre.length:Int)]? =O x:=by simp
theorem wQ{α:Type}(pre:List α)(x y:α)(a:List α):(pre++x::a).set (ag3 (pre.length:Int)) y=pre++y::a:=by rw[aK,ag9 _ _ (aB _)];simp
theorem dL{α β:Type}{l:List α}{f:Int->Option (Int⊕(Unit⊕β))}(t:α->Bool)(y:β)(hf:∀(i:Nat) x,l[i]? =O x->i<l.length->f i=O (bif t x then .inl ((i:Int)+1)else .inr (.inr y)))(b:f l.length=O (.inr (.inl ()))):aX f 0=O (bif l.all t then .inl ()else .inr y):=by rw[ii (a:=l) (λ(_:Unit) i=>i) (λ_ _ x=>O (bif t x then .inl ()else .inr (.inr y))) (λ_=>.inl ()) () rfl (λ_ i x hi hx=> ?_) (λ_=>b)];{obtain⟨h1,c⟩:=MA t (λ_=>y) l 0;cases ha:l.all t with|true=>rw[h1 ha];rfl|false=>obtain⟨_,_,e⟩:=c ha;rw[e];rfl};{rw[hf i x hx hi];cases t x<;>rfl}
def bD{α:Type}(t:α->Bool):List α->Nat->Option Nat
 |[],_=>U
 |x::r,i=>bif t x then O i else bD t r (i+1)
theorem lG{α:Type}{l:List α}{f:Int->Option (Int⊕(Unit⊕Int))}(t:α->Bool)
    (hf:∀(i:Nat) x,l[i]? =O x->i<l.length->f i=O (bif t x then .inr (.inr (i:Int))else .inl ((i:Int)+1))) (b:f l.length=O (.inr (.inl ()))):
    aX f 0=O (match bD t l 0 with|some i=>.inr (i:Int)|none=>.inl ()):=by
  rw[ii (a:=l) (λ(_:Unit) i=>i) (λ_ i x=>O (bif t x then .inr (.inr (i:Int))else .inl ())) (λ_=>.inl ()) () rfl (λ_ i x hi hx=> ?_) (λ_=>b)]
  ·have main:∀(r:List α) (i:Nat),eC (ρ:=Unit⊕Int) (λ(_:Unit) i x=>O (bif t x then .inr (.inr (i:Int))else .inl ())) (λ_=>.inl ()) () i r=O (match bD t r i with|some i=>.inr (i:Int)|none=>.inl ()):=by
     intro r
     induction r with
     |nil=>intro i;rfl
     |cons x r c=>
      intro i;simp only[eC,bD,ah]
      cases t x with
      |true=>rfl
      |false=>exact c (i+1)
   exact main l 0
  ·rw[hf i x hx hi]
   cases t x<;>rfl
def marked{α:Type}(wr:α->Int->α×Int):List α->Int->List α
 |[],_=>[]
 |x::r,k=>(wr x k).1::marked wr r (wr x k).2
def total{α:Type}(cnt:α->Nat):List α->Nat
 |[]=>0
 |x::r=>cnt x+total cnt r
theorem kW{α:Type}(wr:α->Int->α×Int):∀(l:List α) (k:Int),(marked wr l k).length=l.length
 |[],_=>rfl
 |x::r,k=>by simp[marked,kW wr r]
theorem mM{α:Type}(wr:α->Int->α×Int)(cnt:α->Nat){B:Int}{f:List α×Int×Int->Option ((List α×Int×Int)⊕(List α×Int))}(hk:∀x k,(wr x k).2=k+cnt x)(b:∀l k,f (l,k,(l.length:Int))=O (.inr (l,k))):∀(a pre:List α) (k:Int),(∀x∈a,∀pre a k,0<=k->k+cnt x<=B->(pre++x::a).length<=4194304->f (pre++x::a,k,(pre.length:Int))=O (.inl (pre++(wr x k).1::a,(wr x k).2,(pre.length:Int)+1)))->0<=k->k+total cnt a<=B->(pre++a).length<=4194304->aX f (pre++a,k,(pre.length:Int))=O (pre++marked wr a k,k+total cnt a)
 |[],pre,k,_,_,_,_=>by have:=bb (b pre k);simpa[marked,total]using this
 |x::r,pre,k,hf,h0,e,hl=>by simp only[total]at e;have h1:=hf x (by simp) pre r k h0 (by omega) hl;rw[bq h1];(have c:(pre++x::r).length=(pre++[(wr x k).1]++r).length:=by simp);have d:=mM wr cnt hk b r (pre++[(wr x k).1]) (wr x k).2 (λy g=>hf y (aL _ g)) (by rw[hk];omega) (by rw[hk];omega) (by rw[<-c];exact hl);(have h:pre++[(wr x k).1]++r=pre++(wr x k).1::r:=by simp);(have i:((pre++[(wr x k).1]).length:Int)=(pre.length:Int)+1:=by simp);rw[h,i]at d;rw[d,hk];simp only[marked,total,aeT,List.singleton_append,hk];congr 2;omega
theorem pL{α:Type}(wr:α->Int->α×Int)(cnt:α->Nat)(a:Int->Nat->α->Option (Int⊕(Int⊕Int)))(hk:∀x k,(wr x k).2=k+cnt x){B:Int}:∀(l:List α) (k:Int) (i:Nat),(∀x∈l,∀k i,0<=k->k+cnt x<=B->a k i (wr x k).1=O (.inl (k+cnt x)))->0<=k->k+total cnt l<=B->eC a (λk=>.inl k) k i (marked wr l k)=O (.inl (k+total cnt l))
 |[],k,i,_,_,_=>by simp[marked,eC,total]
 |x::r,k,i,h,h0,b=>by simp only[total]at b;simp only[marked,eC,h x (by simp) k i h0 (by omega),ah,hk];have c:=pL wr cnt a hk r (k+cnt x) (i+1) (λy d=>h y (aL _ d)) (by omega) (by omega);rw[c];simp only[total];congr 2;omega
theorem cS{α:Type}(c:Nat):∀l:List α,total (λ_=>c) l=c*l.length
 |[]=>rfl
 |x::r=>by simp[total,cS c r,Nat.mul_add,afn]
theorem dT{β:Type}{n:Nat}{f:Int->Option (Int⊕(Unit⊕β))}(T:Nat->Bool)(y:β)(hf:∀(i:Nat),i<n->f i=O (bif T i then .inl ((i:Int)+1)else .inr (.inr y)))(a:f n=O (.inr (.inl ()))):aX f 0=O (bif(ag8 n).all T then .inl ()else .inr y):=by refine dL (l:=ag8 n) T y (λi x hx hi=> ?_) (by rw[ag6];exact a);rw[ag6]at hi;rw[List.getElem?_range hi]at hx;cases hx;exact hf i hi
theorem EP{α:Type}(t:α->Bool):∀(l:List α) (k i:Nat),bD t l k=O i->k<=i
 |[],_,_,h=>by cases h
 |x::l,k,i,h=>by simp only[bD]at h;cases hx:t x with|true=>rw[hx]at h;cases h;exact aB _|false=>rw[hx]at h;have:=EP t l (k+1) i h;omega
theorem oV{α:Type}(t:α->Bool):∀(l:List α) (i k:Nat) (x:α),l[i]? =O x->t x=true->(bD t l k=O (k+i)↔bD t (l.take i) k=U)
 |[],i,_,_,h,_=>by simp at h
 |y::l,0,k,x,h,hx=>by simp at h;subst h;simp[bD,hx]
 |y::l,i+1,k,x,h,hx=>by have a:=oV t l i (k+1) x (by simpa using h) hx;simp only[bD,ahf];cases b:t y with|true=>simp only[ai,aw];exact⟨λh=>by omega,λh=>by cases h⟩|false=>simp only[aj];rw[show k+(i+1)=k+1+i by omega];exact a
theorem Av{α β:Type}{l:List α}{z:β}(g:α->β){f:List β×Int->Option ((List β×Int)⊕List β)}(hl:l.length<=1048576)(hf:∀(out:List β) (i:Nat) x,l[i]? =O x->i<l.length->f (out,(i:Int))=bif ae (0<=(i:Int))&&ae ((i:Int)<(out.length:Int))then O (.inl (out.set (ag3 (i:Int)) (g x),aW ((i:Int)+1)))else U)(b:∀out,f (out,(l.length:Int))=O (.inr out)):aX f (afi (ag3 (l.length:Int)) z,0)=O (l.map g):=by rw[ii (a:=l) Prod.mk (λ(out:List β) i x=>if i<out.length then O (.inl (out.set i (g x)))else U) (λout=>out) (afi l.length z) ?_ ?_ ?_];{have:=Kh g l [] (afi l.length z) (by simp);simpa using this};{rfl};{intro out i x hi hx;rw[hf out i x hx hi,aZ (by omega) (by omega)];by_cases c:i<out.length;{rw[aN c,show(ae (0<=(i:Int))&&ae ((i:Int)<(out.length:Int)))=true by simp;omega];rfl};{rw[aM c,show(ae (0<=(i:Int))&&ae ((i:Int)<(out.length:Int)))=false by simp;omega];rfl}};{intro out;exact b out}
theorem jN{n:Nat}(h:n<=1048576):(ae (0<=(n:Int))&&ae ((n:Int)<=(n:Int))&&ae ((n:Int)<=lim))=true:=by have a:(lim:Int)=4294967296:=rfl;simp;omega
theorem vo{τ ρ:Type}{n:Nat}{f:τ->Option (τ⊕ρ)}(R:Nat->τ->Prop)(Q:ρ->Prop)(step:∀i a,i<n->R i a->(∃a',f a=O (.inl a')/\R (i+1) a')\/∃y,f a=O (.inr y)/\Q y)(fin:∀a,R n a->∃y,f a=O (.inr y)/\Q y):∀(k i:Nat) (a:τ),i+k=n->R i a->∃y,aX f a=O y/\Q y
 |0,i,a,h,r=>by(obtain rfl:i=n:=by omega);obtain⟨y,h1,b⟩:=fin a r;exact⟨y,bb h1,b⟩
 |k+1,i,a,h,r=>by rcases step i a (by omega) r with ⟨a',h1,b⟩|⟨y,h1,b⟩;{rw[bq h1];exact vo R Q step fin k (i+1) a' (by omega) b};{exact⟨y,bb h1,b⟩}
end Go.Ab
namespace Go.Ab
open Go Go.RowKit
theorem zf{P:Program}{w:World}{f te e ty:TypeId}{inf:TypeInfo}(hu:P.underlying f=O (.slice e))(hi:P.info? e=O inf){b off dl dc sl sc n:Nat}{ad:Addr}{cur:Array Value}(hg:w.heap[b]? =O (.cells cur te (0,0))){news:List Value}(a:Nat.min sl dl=n)(hn:news.length=n*inf.size)(g:∀j v,news[j]? =O v->w.cell? (ad.add j)=O v)(h1:∀u∈news,u.oneCell'=true)(c:off+news.length<=cur.size):(Builtin.copy_ #[f,f] ty #[.slice (O ⟨b,off,U⟩) dl dc,.slice (O ad) sl sc]).run P w=.ok (goInt n) (w.setRow b (cur.toList.take off++news++cur.toList.drop (off+news.length)).toArray):=by have d:=run_storeCells_at P b off te news 0 cur w hg (by simpa using c) h1;simp only[afp]at d;have hf:=run_firstCells_some (P:=P) w inf.size n ad sl sc news hn g;subst a;have hlen:Builtin.lenOf (.slice (O ad) sl sc)=pure sl:=rfl;simp[Builtin.copy_,run_underlying hu,sizeOf,typeInfo,hi,hlen,hf,d]
theorem iz{P:Program}{ops:Array Oper}{o:Oper}{a:Act}{w w':World}{K:Act->World->Prop}{Q:Exit->Act->World->Prop}{E:Prop}(e:o.guard=U)(d s:Operand)(c:TypeId)(ho:o.op=.call {callee:=.builtin .copy,args:= #[d,s],argTypes:= #[c,c]}){v dv sv:Value}(f:a.eval d=dv)(hs:a.eval s=sv)(b:(Builtin.copy_ #[c,c] o.type #[dv,sv]).run P w=.ok v w')(h:K (a.put o.dst v) w'):if Region.wanted o (yielded ops a.tmps)=true then Oper.wp P o a w K Q else E:=by(have hw:Region.wanted o (yielded ops a.tmps)=true:=by simp[Region.wanted,e]);rw[aN hw];unfold Oper.wp;simp[execOp,ho,resolve,invoke,builtin,f,hs,b,aho];exact h
theorem iw{P:Program}{w w':World}{ops:Array Oper}{rest:List Oper}{o:Oper}{a:Act}{Q:Exit->Act->World->Prop}(e:o.guard=U)(d s:Operand)(c:TypeId)(ho:o.op=.call {callee:=.builtin .append,args:= #[d,s],argTypes:= #[c,c]}){v dv sv:Value}(f:a.eval d=dv)(hs:a.eval s=sv)(b:(Builtin.append_ #[c,c] o.type #[dv,sv]).run P w=.ok v w')(h:wpList P ops Q rest (a.put o.dst v) w'):wpList P ops Q (o::rest) a w:=by refine wpList_plain e λK g=> ?_;unfold Oper.wp;simp[execOp,ho,resolve,invoke,builtin,f,hs,b,aho];exact g _ _ h
theorem IX(e st2:TypeId)(rs:Array TypeId)(a b:Addr)(c d f g:Nat):Extern.SlicesOverlaps.overlaps #[e,st2] rs #[.slice (O a) c f,.slice (O b) d g]=(do
    let .slice elem<-underlying e|stuck "slices.overlaps: slice type expected"
    let size<-sizeOf elem
    if c=0\/d=0\/size=0 then pure (.bool false)
    else if a.block !=b.block&& (<-frozen a)&& (<-frozen b)then unsupported .addressObserved
    else do
      if a.block !=b.block then do
        noView a;noView b
        if<-mayBeOne a b then return .bool ((<-choose (.extern "sameAddr.stringBytes" 2))==1)
      pure (.bool (a.block==b.block&&a.off<b.off+d*size&&b.off<a.off+c*size)):Sem Value):=rfl
theorem uD[Tabs]{P:Program}{w:World}{d st2 te:TypeId}{inf:TypeInfo}{rs:Array TypeId}(hu:P.underlying d=O (.slice te))(hi:P.info? te=O inf){q g l m e f c1 c2:Nat}{h i:Array Value}{j tb:TypeId}(ha:w.heap[q]? =O (.cells h j (0,0)))(k:w.heap[g]? =O (.cells i tb (0,0)))(a:q≠g):(Extern.SlicesOverlaps.overlaps #[d,st2] rs #[.slice (O ⟨q,l,U⟩) e c1,.slice (O ⟨g,m,U⟩) f c2]).run P w=.ok (.bool false) w:=by(have f1:∀o,w.frozen? ⟨q,o,U⟩=false:=λo=>by simp[World.frozen?,ha]);(have f2:∀o,w.frozen? ⟨g,o,U⟩=false:=λo=>by simp[World.frozen?,k]);(have b:(q==g)=false:=by simpa using a);(have c:(q !=g)=true:=by simpa using a);(have s1:w.shape? q=O (j,h.size):=by simp[World.shape?,ha]);(have s2:w.shape? g=O (tb,i.size):=by simp[World.shape?,k]);rw[IX];by_cases h0:e=0\/f=0\/inf.size=0;{simp[run_underlying hu,sizeOf,typeInfo,hi,h0]};{simp[run_underlying hu,sizeOf,typeInfo,hi,h0,f1,f2,b,c,noView,viewAt,mayBeOne,stringish,s1,s2]}
def uI(t:Ty)(w:World)(L:List Value)(zs:List t.den):Prop:=∀k x,zs[k]? =O x->Own w t ((L.drop (k*t.size)).take t.size) x (λ_=>False)
theorem kt[Tabs]{t:Ty}(hl:t.leads=false){w w':World}{a:List Value}{x:t.den}{F:bu}(h:Own w t a x F):Own w' t a x (λ_=>False):=Own.mono (λ_ b=>b.elim) (eY.kt hl (Own.rep (S:=λ_=>True) h λ_ _=>trivial))
theorem uI.world{t:Ty}{w w':World}{L:List Value}{zs:List t.den}(h:uI t w L zs):uI t w' L zs:=λk x hk=>Own.mono (λ_ a=>a.elim) (h k x hk)
theorem uI.append[Tabs]{t:Ty}{w:World}{A N:List Value}{xs ys:List t.den}(hA:A.length=xs.length*t.size)(h1:uI t w A xs)(a:uI t w N ys):uI t w (A++N) (xs++ys):=λk x hk=>by
  rw[pJ hA]
  by_cases h:k<xs.length
  ·rw[aN h]
   rw[ae5 h]at hk;exact h1 k x hk
  ·rw[aM h]
   rw[aI (by omega)]at hk;exact a _ x hk
theorem uI.arr[Tabs]{t:Ty}{w:World}{g n cap:Nat}{row:Array Value}{te:TypeId}{S:bu}{L:List Value}{zs:List t.den}(hg:w.heap[g]? =O (.cells row te (0,0)))(hs:row.size=cap*t.size)(hn:zs.length=n)(hc:n<=cap)(hm:cap<=maxLen)(ht:row.toList.take (n*t.size)=L)(h:uI t w L zs):bL S w true t (.slice (O ⟨g,0,U⟩) n cap) zs (λb=>b=g):=by subst hn;refine .inr ⟨g,cap,row,te,λ_ _=>False,rfl,hg,hs,hc,hm,λk x hk=> ?_,λ_ _ _ _ _ h=>h.elim,λ_ _ h=>h,λb=>⟨λh=>.inl h,λh=>h.elim (λh=>h) λ⟨_,_,h⟩=>h.elim⟩⟩;have a:k<zs.length:=(ae8.1 hk).1;rw[fA ht a];exact h k x hk
theorem cell_of[Tabs]{w:World}{g:Nat}{cur:Array Value}{te:TypeId}{fz:Nat×Nat}(hg:w.heap[g]? =O (.cells cur te fz)){o n j:Nat}{v:Value}(h:((cur.toList.drop o).take n)[j]? =O v):w.cell? ⟨g,o+j,U⟩=O v:=by rw[cell_of_row w g (o+j) cur te fz hg];rw[iN]at h;split at h;{simpa using h};{cases h}
def il(t:Ty)(w:World)(L:List Value)(zs:List t.den)(Fs:Nat->bu):Prop:=∀k x,zs[k]? =O x->Own w t ((L.drop (k*t.size)).take t.size) x (Fs k)
theorem il.append[Tabs]{t:Ty}{w:World}{A N:List Value}{xs ys:List t.den}{Fs Gs:Nat->bu}(hA:A.length=xs.length*t.size)(h1:il t w A xs Fs)(a:il t w N ys Gs):il t w (A++N) (xs++ys) (λk=>if k<xs.length then Fs k else Gs (k-xs.length)):=λk x hk=>by
  rw[pJ hA]
  by_cases h:k<xs.length
  ·rw[aN h]
   simp only[h,if_true];rw[ae5 h]at hk;exact h1 k x hk
  ·rw[aM h]
   simp only[h,if_false];rw[aI (by omega)]at hk;exact a _ x hk
theorem il.world{t:Ty}{w w':World}{L:List Value}{zs:List t.den}{Fs:Nat->bu}(h:il t w L zs Fs)(hw:∀k b,k<zs.length->Fs k b->w'.heap[b]? =w.heap[b]?):il t w' L zs Fs:=λk x hk=>Own.mono (λb a=>hw k b (ae8.1 hk).1 a) (h k x hk)
theorem il.head[Tabs]{t:Ty}{w:World}{cur:List Value}{xs:List t.den}{Fs:Nat->bu}(h:∀i x,xs[i]? =O x->Own w t ((cur.drop (i*t.size)).take t.size) x (Fs i))(i:Nat):il t w (cur.take (i*t.size)) (xs.take i) Fs:=λk x hk=>by
  rw[List.getElem?_take]at hk;split at hk
  ·rename_i a
   rw[<-fA rfl a];exact h k x hk
  ·cases hk
theorem il.tail[Tabs]{t:Ty}{w:World}{cur:List Value}{xs:List t.den}{Fs:Nat->bu}(h:∀i x,xs[i]? =O x->Own w t ((cur.drop (i*t.size)).take t.size) x (Fs i))(i:Nat):il t w ((cur.drop (i*t.size)).take ((xs.length-i)*t.size)) (xs.drop i) (λk=>Fs (i+k)):=λk x hk=>by
  rw[ae7]at hk;have a:i+k<xs.length:=(ae8.1 hk).1;rw[<-fA (n:=xs.length-i) rfl (by omega),aeV,<-afo];exact h (i+k) x hk
theorem il.one[Tabs]{t:Ty}(a:0<t.size){w:World}{L:List Value}{zs:List t.den}{Fs:Nat->bu}(hl:L.length=zs.length*t.size)(h:il t w L zs Fs):∀u∈L,u.oneCell'=true:=by intro u hu;obtain⟨j,c,rfl⟩:=afb hu;have b:=c;rw[hl]at b;have hi:j/t.size<zs.length:=(Nat.div_lt_iff_lt_mul a).2 b;(have d:zs[j/t.size]? =O zs[j/t.size]:=by simp[hi]);have ho:=(h _ _ d).rep (S:=λ_=>True) (λ_ _=>trivial);refine(gB (h:=λ_=>U) (m:=λ_=>U) ho).2.1 _ ?_;refine aF (i:=j%t.size) ?_;(have e:j/t.size*t.size+j%t.size=j:=by rw[ahj];exact Nat.div_add_mod j t.size);rw[iN,aN (ahi _ a),e];exact aJ c
theorem il.arr[Tabs]{t:Ty}{w:World}{g n cap:Nat}{row:Array Value}{te:TypeId}{S:bu}{L:List Value}{zs:List t.den}{Fs:Nat->bu}(hg:w.heap[g]? =O (.cells row te (0,0)))(hs:row.size=cap*t.size)(hn:zs.length=n)(hc:n<=cap)(hm:cap<=maxLen)(ht:row.toList.take (n*t.size)=L)(h:il t w L zs Fs)(c:∀i j b,i<zs.length->j<zs.length->Fs i b->Fs j b->i=j)(hx:∀i,i<zs.length->¬Fs i g):bL S w true t (.slice (O ⟨g,0,U⟩) n cap) zs (λb=>b=g\/∃i,i<zs.length/\Fs i b):=by subst hn;refine .inr ⟨g,cap,row,te,Fs,rfl,hg,hs,hc,hm,λk x hk=> ?_,c,hx,λb=>Iff.rfl⟩;have a:k<zs.length:=(ae8.1 hk).1;rw[fA ht a];exact h k x hk
theorem Nb[Tabs]{t:Ty}{w w':World}{g cap i:Nat}{row:Array Value}{te:TypeId}{S:bu}{xs:List t.den}{y:t.den}{A Y Z:List Value}{Fs:Nat->bu}{F G l:bu}(hA:A.length=i*t.size)(hY:Y.length=t.size)(hi:i<=xs.length)(B:il t w A (xs.take i) Fs)(rY:Own w t Y y l)(rZ:il t w Z (xs.drop i) (λk=>Fs (i+k)))(C:∀j k b,j<xs.length->k<xs.length->Fs j b->Fs k b->j=k)(p:∀j b,j<xs.length->Fs j b->F b)(hG:∀b,l b->G b)(n:∀q,F q->G q->False)(hw:∀b,F b\/G b->b≠g->w'.heap[b]? =w.heap[b]?)(v:∀j,j<xs.length->¬Fs j g)(z:¬l g)(hg:w'.heap[g]? =O (.cells row te (0,0)))(hs:row.size=cap*t.size)(hc:xs.length+1<=cap)(hm:cap<=maxLen)(ht:row.toList.take ((xs.length+1)*t.size)=A++Y++Z):∃F',bL S w' true t (.slice (O ⟨g,0,U⟩) (xs.length+1) cap) (xs.take i++y::xs.drop i) F'/\∀q,F' q->q=g\/F q\/G q:=by(have o:(xs.take i).length=i:=by rw[afU];omega);(have r:il t w Y [y] (λ_=>l):=λk x hk=>by cases k with|zero=>simp only[ae6,aw]at hk;subst hk;rw[agl,aeZ,ahe (ahg hY)];exact rY|succ k=>simp at hk);have h1:=il.append (A:=Y) (N:=Z) (xs:=[y]) (ys:=xs.drop i) (by rw[hY];simp) r rZ;have D:=il.append (A:=A) (xs:=xs.take i) (by rw[hA,o]) B h1;(have hlen:(xs.take i++([y]++xs.drop i)).length=xs.length+1:=by simp;omega);let Fn:Nat->bu:=λk=>if k<i then Fs k else if k=i then l else Fs (k-1);(have s:∀k,(if k<(xs.take i).length then Fs k else(λk=>if k<[y].length then(λ_=>l) k else(λk=>Fs (i+k)) (k- [y].length)) (k-(xs.take i).length))=Fn k:=λk=>by rw[o];show _=(if k<i then Fs k else if k=i then l else Fs (k-1));by_cases h:k<i;{simp only[h,if_true]};{simp only[h,if_false,ag7];by_cases e:k=i;{subst e;simp};{(have u:¬k-i<1:=by omega);simp only[u,if_false,e];congr 1;omega}});(have u:il t w (A++(Y++Z)) (xs.take i++([y]++xs.drop i)) Fn:=λk x hk=>by have:=D k x hk;simp only[]at this;rw[<-s k];exact this);(have kind:∀k b,k<xs.length+1->Fn k b->(k≠i/\∃j,j<xs.length/\Fs j b/\(j=k/\k<i\/j+1=k/\i<k))\/(k=i/\l b):=λk b hk f=>by have f:(if k<i then Fs k else if k=i then l else Fs (k-1)) b:=f;by_cases h:k<i;{rw[aN h]at f;exact .inl ⟨by omega,k,by omega,f,.inl ⟨rfl,h⟩⟩};{rw[aM h]at f;by_cases e:k=i;{rw[aN e]at f;exact .inr ⟨e,f⟩};{rw[aM e]at f;exact .inl ⟨e,k-1,by omega,f,.inr ⟨by omega,by omega⟩⟩}});(have E:il t w' (A++(Y++Z)) (xs.take i++([y]++xs.drop i)) Fn:=u.world λk b hk f=>by rw[hlen]at hk;rcases kind k b hk f with ⟨_,j,m,d,_⟩|⟨_,d⟩;{exact hw b (.inl (p j b m d)) λe=>v j m (e▸d)};{exact hw b (.inr (hG b d)) λe=>z (e▸d)});refine⟨_,il.arr hg hs hlen hc hm (by rw[ht,aeT]) E (λa c b ha hc H I=> ?_) (λk hk f=> ?_),λq hq=> ?_⟩;{(replace ha:a<xs.length+1:=by rw[<-hlen];exact ha);(replace hc:c<xs.length+1:=by rw[<-hlen];exact hc);rcases kind a b ha H with ⟨_,j,m,d,J⟩|⟨K,d⟩<;>rcases kind c b hc I with ⟨_,k,k1,k2,k3⟩|⟨L,k2⟩;{have:=C j k b m k1 d k2;omega};{exact(n b (p j b m d) (hG b k2)).elim};{exact(n b (p k b k1 k2) (hG b d)).elim};{omega}};{(replace hk:k<xs.length+1:=by rw[<-hlen];exact hk);rcases kind k g hk f with ⟨_,j,m,d,_⟩|⟨_,d⟩;{exact v j m d};{exact z d}};{rcases hq with hq|⟨k,hk,f⟩;{exact .inl hq};{(replace hk:k<xs.length+1:=by rw[<-hlen];exact hk);rcases kind k q hk f with ⟨_,j,m,d,_⟩|⟨_,d⟩;{exact .inr (.inl (p j q m d))};{exact .inr (.inr (hG q d))}}}
def Mu(w:World)(te:TypeId)(n k:Nat)(L:List Value)(e:Ending)(w':World):Prop:=∃(cap:Nat) (row:Array Value),e=.returned (.slice (O ⟨w.heap.size,0,U⟩) (n+1) cap)/\w'.heap[w.heap.size]? =O (.cells row te (0,0))/\row.size=cap*k/\n+1<=cap/\cap<=maxLen/\row.toList.take ((n+1)*k)=L/\Grow w w'
def Jg(w:World)(g n cap k:Nat)(te:TypeId)(L:List Value)(e:Ending)(w':World):Prop:=∃(row:Array Value),e=.returned (.slice (O ⟨g,0,U⟩) (n+1) cap)/\w'.heap[g]? =O (.cells row te (0,0))/\row.size=cap*k/\row.toList.take ((n+1)*k)=L/\w'.os=w.os/\w'.tape=w.tape/\w'.output=w.output/\w'.heap.size=w.heap.size/\(∀q,q≠g->w'.heap[q]? =w.heap[q]?)/\∀a,w'.frozen? a=w.frozen? a
def SX(P:Program)(f:FuncId)(ty:TypeId):Prop:=∀(w a:World) (g n cap q c:Nat) (v2:Value),n<=cap->cap<=9223372036854775807->n<=1000000->(Builtin.append_ #[ty,ty] ty #[.slice (O ⟨g,0,U⟩) n cap,.slice (O ⟨q,0,U⟩) 1 c]).run P w=.ok v2 a->Calls P f #[.slice (O ⟨g,0,U⟩) n cap,.int .i64 n,.slice (O ⟨q,0,U⟩) 1 c] w λe w'=>e=.returned v2/\w'=a
def My(P:Program)(f:FuncId)(ty:TypeId):Prop:=∀(w a:World) (o:Option Addr) (q c:Nat) (v2:Value),(Builtin.append_ #[ty,ty] ty #[.slice o 0 0,.slice (O ⟨q,0,U⟩) 1 c]).run P w=.ok v2 a->Calls P f #[.slice o 0 0,.int .i64 0,.slice (O ⟨q,0,U⟩) 1 c] w λe w'=>e=.returned v2/\w'=a
structure Pk (w:World) (g n i q k:Nat) (A Y Z:Array Value):Prop where
  hA:A.size=i*k
  hY:Y.size=k
  hZ:Z.size=(n-i)*k
  rY:∀j v,Y.toList[j]? =O v->w.cell? ⟨q,j,U⟩=O v
  rZ:∀j v,Z.toList[j]? =O v->w.cell? ⟨g,i*k+j,U⟩=O v
  oY:∀u∈Y.toList,u.oneCell'=true
  oZ:∀u∈Z.toList,u.oneCell'=true
def RY(P:Program)(f:FuncId)(te:TypeId)(k:Nat):Prop:=∀(w:World) (g n i q c:Nat) (A Y Z:Array Value),n<=1000000->i<n->Pk w g n i q k A Y Z->(loadCellsFrom ⟨g,0,U⟩ 0 (i*k) #[]).run P w.drew=.ok A w.drew->g<w.heap.size->q<w.heap.size->Calls P f #[.slice (O ⟨g,0,U⟩) n n,.int .i64 i,.slice (O ⟨q,0,U⟩) 1 c] w (Mu w te n k (A.toList++Y.toList++Z.toList))
structure Wq (w:World) (g i q cap k:Nat) (te tq:TypeId) (cur xc A:Array Value):Prop where
  hq:q≠g
  hg:w.heap[g]? =O (.cells cur te (0,0))
  hx:w.heap[q]? =O (.cells xc tq (0,0))
  hc:cur.size=cap*k
  tA:cur.toList.take (i*k)=A.toList
def Ta(P:Program)(f:FuncId)(k:Nat):Prop:=∀(w:World) (g n i q c cap:Nat) (te a:TypeId) (cur b A Y Z:Array Value),cap<=9223372036854775807->n<=1000000->i<n->n+1<=cap->Pk w g n i q k A Y Z->Wq w g i q cap k te a cur b A->Calls P f #[.slice (O ⟨g,0,U⟩) n cap,.int .i64 i,.slice (O ⟨q,0,U⟩) 1 c] w (Jg w g n cap k te (A.toList++Y.toList++Z.toList))
section
variable {P:Program} {ty te:TypeId} {inf:TypeInfo} {k g n i q:Nat} {w:World} {A Y Z:Array Value}
theorem A3(hu:P.underlying ty=O (.slice te))(hi:P.info? te=O inf)(hs:inf.size=k)(z:Array Value)(I:z.size=k){C:Nat}(h:Pk w g n i q k A Y Z)(x:i<n)(o:n+1<=C)(hle:C<=maxLen)(y:g<w.heap.size)(B:q<w.heap.size):∃m,(∀t dc sc,(Builtin.copy_ #[ty,ty] t #[.slice (O ⟨w.heap.size,i*k,U⟩) (n+1-i) dc,.slice (O ⟨q,0,U⟩) 1 sc]).run P (w.alloc (.cells (A++(Builtin.zeroCells z (n+1-i)++Builtin.zeroCells z (C-(n+1)))) te)).drew=.ok (goInt 1) m)/\∃F,(∀t dc sc,(Builtin.copy_ #[ty,ty] t #[.slice (O ⟨w.heap.size,(i+1)*k,U⟩) (n-i) dc,.slice (O ⟨g,i*k,U⟩) (n-i) sc]).run P m.drew=.ok (goInt ((n-i:Nat):Int)) F)/\Mu w te n k (A.toList++Y.toList++Z.toList) (.returned (.slice (O ⟨w.heap.size,0,U⟩) (n+1) C)) F:=by obtain⟨hA,hY,hZ,rY,rZ,oY,oZ⟩:=h;have m1:(i+1)*k=i*k+k:=ahn i k;have m2:(n+1)*k=n*k+k:=ahn n k;have m3:(n-i)*k=n*k-i*k:=ahl _ _ _;have m4:(i+1)*k<=n*k:=afw k x;have m5:(n+1)*k<=C*k:=afw k o;generalize D:(A++(Builtin.zeroCells z (n+1-i)++Builtin.zeroCells z (C-(n+1))))=R;(have d:R.size=C*k:=by rw[<-D];simp only[agZ,size_zeroCells,hA,I];rw[<-afo,<-afo];congr 1;omega);(have p:R.toList.take (i*k)=A.toList:=by rw[<-D,Array.toList_append,<-hA,<-az];exact afk);clear D;have u:(w.alloc (.cells R te)).drew.heap[w.heap.size]? =O (.cells R te (0,0)):=heap_alloc_new w _;have e:∀q,q<w.heap.size->(w.alloc (.cells R te)).drew.heap[q]? =w.heap[q]? :=λq hq=>(Grow.alloc w R te).block q hq;(have G:Y.toList.length=k:=by rw[az,hY]);(have H:Z.toList.length=(n-i)*k:=by rw[az,hZ]);have c1:=λt dc sc=>zf (P:=P) (ty:=t) (dl:=n+1-i) (dc:=dc) (sl:=1) (sc:=sc) (off:=i*k) (ad:=⟨q,0,U⟩) (n:=1) (news:=Y.toList) hu hi u (afv (by omega)) (by rw[hs,G,afx]) (λj v E=>by rw[eN,afz];exact(World.cell?_of_block (e q B)).trans (rY j v E)) oY (by rw[G,d];omega);generalize f:(ahc (i*k) R.toList++Y.toList++List.drop (i*k+Y.toList.length) R.toList).toArray=b at c1;(have c:b.size=C*k:=by rw[<-f];simp only[aha,aG,afU,afR,az,d,hY];omega);(have r:b.toList.take (i*k+k)=A.toList++Y.toList:=by rw[<-f,p];(have hl:(A.toList++Y.toList).length=i*k+k:=by simp[hA,hY]);rw[<-hl];exact afk);clear f;have l:((w.alloc (.cells R te)).drew.setRow w.heap.size b).heap[w.heap.size]? =O (.cells b te (0,0)):=setRow_heap _ _ _ _ _ _ u;have s:∀q,q<w.heap.size->((w.alloc (.cells R te)).drew.setRow w.heap.size b).heap[q]? =w.heap[q]? :=λq hq=>(setRow_other _ _ _ _ (by omega)).trans (e q hq);have hG:Grow w ((w.alloc (.cells R te)).drew.setRow w.heap.size b):=⟨rfl,rfl,rfl,by rw[size_setRow];simp,s,λa ha=>(fe u a).trans ((Grow.alloc w R te).fz a ha)⟩;refine⟨_,c1,?_⟩;generalize ((w.alloc (.cells R te)).drew.setRow w.heap.size b)=m at*;clear u e p d c1;refine⟨_,λt dc sc=>zf (P:=P) (ty:=t) (dl:=n-i) (dc:=dc) (sl:=n-i) (sc:=sc) (off:=(i+1)*k) (ad:=⟨g,i*k,U⟩) (n:=n-i) (news:=Z.toList) hu hi (w:=m.drew) l (Nat.min_self _) (by rw[hs,H]) (λj v E=>by rw[eN];exact(World.cell?_of_block (s g y)).trans (rZ j v E)) oZ (by rw[H,c];omega),C,_,rfl,setRow_heap m.drew _ _ _ _ _ l,?_,o,hle,?_,?_⟩;{simp only[aha,aG,afU,afR,az,c,hZ];omega};{(have ht:ahc ((i+1)*k) b.toList=A.toList++Y.toList:=by rw[<-r,m1]);(have hl:(A.toList++Y.toList++Z.toList).length=(n+1)*k:=by simp only[aG,az,hA,hY,hZ];omega);rw[ht,<-hl];exact afk};{have J:m.drew.heap[w.heap.size]? =O (.cells b te (0,0)):=l;exact⟨hG.os,hG.tape,hG.output,by rw[size_setRow];exact hG.size,λq hq=>(setRow_other _ _ _ _ (by omega)).trans (hG.block q hq),λa ha=>(fe J a).trans (hG.fz a ha)⟩}
theorem Aq(hu:P.underlying ty=O (.slice te))(hi:P.info? te=O inf)(hs:inf.size=k){cap:Nat}{tr z:TypeId}{cur B:Array Value}(h:Pk w g n i q k A Y Z)(r:i<n)(hn:n+1<=cap)(C:Wq w g i q cap k tr z cur B A):∃s,(∀t dc sc,(Builtin.copy_ #[ty,ty] t #[.slice (O ⟨g,(i+1)*k,U⟩) (n-i) dc,.slice (O ⟨g,i*k,U⟩) (n+1-i) sc]).run P w.drew=.ok (goInt ((n-i:Nat):Int)) s)/\∃y,(∀t dc sc,(Builtin.copy_ #[ty,ty] t #[.slice (O ⟨g,i*k,U⟩) (n+1-i) dc,.slice (O ⟨q,0,U⟩) 1 sc]).run P s=.ok (goInt 1) y)/\Jg w g n cap k tr (A.toList++Y.toList++Z.toList) (.returned (.slice (O ⟨g,0,U⟩) (n+1) cap)) y:=by obtain⟨hA,hY,hZ,rY,rZ,oY,oZ⟩:=h;obtain⟨hq,hg,hx,d,tA⟩:=C;have m1:(i+1)*k=i*k+k:=ahn i k;have m2:(n+1)*k=n*k+k:=ahn n k;have m3:(n-i)*k=n*k-i*k:=ahl _ _ _;have m4:(i+1)*k<=n*k:=afw k r;have m5:(n+1)*k<=cap*k:=afw k hn;(have u:Y.toList.length=k:=by rw[az,hY]);(have p:Z.toList.length=(n-i)*k:=by rw[az,hZ]);(have cl:cur.toList.length=cap*k:=by rw[az,d]);have c1:=λt dc sc=>zf (P:=P) (ty:=t) (dl:=n-i) (dc:=dc) (sl:=n+1-i) (sc:=sc) (off:=(i+1)*k) (ad:=⟨g,i*k,U⟩) (n:=n-i) (news:=Z.toList) hu hi (w:=w.drew) hg (Nat.min_eq_right (by omega)) (by rw[hs,p]) (λj v x=>by rw[eN];exact rZ j v x) oZ (by rw[p,d];omega);generalize c:(cur.toList.take ((i+1)*k)++Z.toList++cur.toList.drop ((i+1)*k+Z.toList.length)).toArray=b at c1;(have hl:(cur.toList.take ((i+1)*k)).length=i*k+k:=by rw[afU,cl];omega);(have e:b.size=cap*k:=by rw[<-c];simp only[aha,aG,hl,afR,cl,p];omega);(have l:b.toList.take (i*k)=A.toList:=by rw[<-c,<-tA];show ahc (i*k) (cur.toList.take ((i+1)*k)++Z.toList++cur.toList.drop ((i+1)*k+Z.toList.length))=_;rw[aeT,ahd (by rw[hl];omega),List.take_take];congr 1;omega);(have m:(b.toList.drop (i*k+k)).take ((n-i)*k)=Z.toList:=by rw[<-c];show((cur.toList.take ((i+1)*k)++Z.toList++cur.toList.drop ((i+1)*k+Z.toList.length)).drop (i*k+k)).take ((n-i)*k)=_;rw[aeT,<-hl,aeX,<-p];exact afk);clear c;have f:(w.drew.setRow g b).heap[g]? =O (.cells b tr (0,0)):=setRow_heap _ _ _ _ _ _ hg;have o:∀q,q≠g->(w.drew.setRow g b).heap[q]? =w.heap[q]? :=λq hq=>setRow_other w.drew _ _ _ hq;have hf:∀a,(w.drew.setRow g b).frozen? a=w.frozen? a:=λa=>fe (w:=w.drew) hg a;have ho:(w.drew.setRow g b).os=w.os/\(w.drew.setRow g b).tape=w.tape/\(w.drew.setRow g b).output=w.output/\(w.drew.setRow g b).heap.size=w.heap.size:=⟨rfl,rfl,rfl,by rw[size_setRow];rfl⟩;refine⟨_,c1,?_⟩;generalize (w.drew.setRow g b)=s at*;refine⟨_,λt dc sc=>zf (P:=P) (ty:=t) (dl:=n+1-i) (dc:=dc) (sl:=1) (sc:=sc) (off:=i*k) (ad:=⟨q,0,U⟩) (n:=1) (news:=Y.toList) hu hi f (afv (by omega)) (by rw[hs,u,afx]) (λj v x=>by rw[eN,afz];exact(World.cell?_of_block (o q hq)).trans (rY j v x)) oY (by rw[u,e];omega),_,rfl,setRow_heap _ _ _ _ _ _ f,?_,?_,ho.1,ho.2.1,ho.2.2.1,by rw[size_setRow];exact ho.2.2.2,λq hq=>(setRow_other _ _ _ _ hq).trans (o q hq),λa=>(fe f a).trans (hf a)⟩;{simp only[aha,aG,afU,afR,az,e,hY];omega};{(have hl:(A.toList++Y.toList).length=i*k+k:=by simp only[aG,az,hA,hY]);show ahc ((n+1)*k) (b.toList.take (i*k)++Y.toList++b.toList.drop (i*k+Y.toList.length))=_;rw[l,u,<-m,show(n+1)*k=(A.toList++Y.toList).length+(n-i)*k by rw[hl];omega,List.take_length_add_append]}
theorem Dj[Tabs]{f:FuncId}{t:Ty}(hu:P.underlying ty=O (.slice te))(ht:dB P ty (.slice t)=true)(sz:t.size=k)(hA:SX P f ty)(al:My P f ty)(hB:RY P f te k)(hC:Ta P f k):xz P f t:=by subst sz;intro w v x xs y F G i hv hx p hi hn;obtain⟨am,inf,z,T,V,an,r,hz,ao,ap⟩:=fw ht;(obtain rfl:am=te:=by rw[hu]at T;cases T;rfl);(have av:z.cells.size=t.size:=by obtain⟨p',W,_,I,_⟩:=fp (S:=λ_=>False) (w:=w) (h:=λ_=>U) (m:=λ_=>U) t _ _ ao;rw[aeU]at W;rw[<-W]at I;simpa using I.len);have J:∀q,G q->q<w.heap.size:=hx.lt;have Y:∀q,F q->q<w.heap.size:=hv.lt;have aE:=hx;rcases hx with ⟨_,h0,_⟩|⟨q,c,K,tq,Gs,ex,M,aQ,Z,bs,a0,bv,bx,aa⟩;{cases h0};simp only[ag7]at ex Z;have a1:G q:=(aa q).2 (.inl rfl);(obtain⟨Gt,a2,a3,a4⟩:∃Gs:Nat->bu,((x=.slice U 0 0/\[y]=[])\/∃(ad:Addr) (cap:Nat) (news:List Value),x=.slice (O ad) [y].length cap/\news.length=[y].length*t.size/\(∀j u,news[j]? =O u->w.cell? (ad.add j)=O u)/\(∀u∈news,u.oneCell'=true)/\∀i y',[y][i]? =O y'->El (λ_=>False) w true t ((news.drop (i*t.size)).take t.size) y' (Gs i))/\(∀i j q,i<[y].length->j<[y].length->Gs i q->Gs j q->i=j)/\∀i q,i<[y].length->Gs i q->G q:=by rcases aE.Um r with ⟨e1,e2⟩|⟨ad,cap,news,Gs,e1,e2,e3,e4,e5,e6,e7⟩;{exact⟨λ_ _=>False,.inl ⟨e1,e2⟩,λ_ _ _ _ _ h=>h.elim,λ_ _ _ h=>h.elim⟩};{exact⟨Gs,.inr ⟨ad,cap,news,e1,e2,e3,e4,e5⟩,e6,e7⟩});(have app:∀(d:xs.drop i=[]),∃v' w' F',(Builtin.append_ #[ty,ty] ty #[v,x]).run P w=.ok v' w'/\w.heap.size<=w'.heap.size/\(∀q,q<w.heap.size->¬F q->w'.heap[q]? =w.heap[q]?)/\w'.os=w.os/\w'.tape=w.tape/\w'.output=w.output/\(∀a:Addr,a.block<w.heap.size->w'.frozen? a=w.frozen? a)/\bL (λ_=>False) w' true t v' (xs.take i++y::xs.drop i) F'/\∀q,F' q->F q\/G q\/(w.heap.size<=q/\q<w'.heap.size):=λd=>by have bm:lim=4294967296:=rfl;obtain⟨v',w',F',k1,k2,k3,k4,k5,k6,k7,k8,k9⟩:=rE (P:=P) (ty:=ty) (X:=G) (Gs:=Gt) hu V an hz av ap (S:=λ_=>False) (D:=true) hv a2 a3 a4 (λq hq hF=>p q hF hq) J (by simp only[ag7];omega) (λq h=>h.elim);refine⟨v',w',F',k1,k2,k3,k4,k5,k6,(λa _=>k7 a),?_,k9⟩;(have et:xs.take i=xs:=by have:=afj i xs;rw[d,aeU]at this;exact this);rw[d,et];exact k8);(have a5:K.toList.length=c*t.size:=by rw[az,aQ]);have bz:1*t.size<=c*t.size:=afw _ Z;(have Yl:(K.toList.take t.size).length=t.size:=by rw[afU,a5];omega);(have Yr:Own w t (K.toList.take t.size) y (Gs 0):=by have h0:Own w t ((K.toList.drop (0*t.size)).take t.size) y (Gs 0):=a0 0 y rfl;simpa using h0);have A:∀b,Gs 0 b->G b:=λb B=>(aa b).2 (.inr ⟨0,by simp,B⟩);have oY:∀u∈K.toList.take t.size,u.oneCell'=true:=il.one (t:=t) r (w:=w) (zs:=[y]) (Fs:=λ_=>Gs 0) (by rw[Yl];simp) (λk u hk=>by cases k with|zero=>simp only[ae6,aw]at hk;subst hk;rw[agl,aeZ,ahe (by rw[Yl];exact aB _)];exact Yr|succ k=>simp at hk);rcases hv with ⟨⟨o,rfl⟩,rfl,hF⟩|⟨g,cap,cur,tr,Fs,rfl,hg,hs,hc,hm,he,k7,k8,ab⟩;{simp only[aff,Nat.le_zero]at hi;subst hi;obtain⟨v',w',F',k1,k2⟩:=app rfl;rw[ex]at k1⊢;refine(al w w' o q c v' k1).mono λe w2 hk=> ?_;obtain⟨rfl,rfl⟩:=hk;exact⟨v',F',rfl,k2⟩};{have C:F g:=(ab g).2 (.inl rfl);have a6:q≠g:=λh=>p g C (h▸a1);have bX:maxLen=9223372036854775807:=rfl;by_cases a9:i=xs.length;{subst a9;obtain⟨v',w',F',k1,k2⟩:=app (by simp);rw[ex]at k1⊢;refine(hA w w' g xs.length cap q c v' hc (by omega) (by omega) k1).mono λe w2 hk=> ?_;obtain⟨rfl,rfl⟩:=hk;exact⟨v',F',rfl,k2⟩};{(have ac:i<xs.length:=by omega);(have af:cur.toList.length=cap*t.size:=by rw[az,hs]);have ag:∀k u,xs[k]? =O u->Own w t ((cur.toList.drop (k*t.size)).take t.size) u (Fs k):=λk u hk=>he k u hk;have Ar:=il.head (t:=t) ag i;have Zr:=il.tail (t:=t) ag i;have hmul:xs.length*t.size<=cap*t.size:=afw _ hc;have bc:i*t.size<=xs.length*t.size:=afw _ hi;have bd:(xs.length-i)*t.size=xs.length*t.size-i*t.size:=ahl _ _ _;(have Al:(cur.toList.take (i*t.size)).length=i*t.size:=by rw[afU,af];omega);(have Zl:((cur.toList.drop (i*t.size)).take ((xs.length-i)*t.size)).length=(xs.length-i)*t.size:=by rw[afU,afR,af];omega);have oZ:=il.one (t:=t) r (w:=w) (L:=(cur.toList.drop (i*t.size)).take ((xs.length-i)*t.size)) (zs:=xs.drop i) (by rw[Zl,afR]) Zr;have N:∀j b,j<xs.length->Fs j b->F b:=λj b E B=>(ab b).2 (.inr ⟨j,E,B⟩);have hR:Pk w g xs.length i q t.size (cur.toList.take (i*t.size)).toArray (K.toList.take t.size).toArray ((cur.toList.drop (i*t.size)).take ((xs.length-i)*t.size)).toArray:=⟨by simpa using Al,by simpa using Yl,by simpa using Zl,λj u E=>by have:=cell_of (w:=w) M (o:=0) (n:=t.size) (j:=j) (v:=u) (by simpa using E);simpa using this,λj u E=>cell_of (w:=w) hg (by simpa using E),by simpa using oY,by simpa using oZ⟩;have be:=lt_of_heap hg;have bf:=lt_of_heap M;rw[ex];by_cases s:xs.length+1<=cap;{refine(hC w g xs.length i q c cap tr tq cur K _ _ _ (by omega) (by omega) ac s hR ⟨a6,hg,M,hs,rfl⟩).mono λe w2 hk=> ?_;obtain⟨row,rfl,r1,r2,r3,r4,r5,H,r7,r8,r9⟩:=hk;obtain⟨F',f1,f2⟩:=Nb (t:=t) (w:=w) (w':=w2) (S:=λ_=>False) (F:=F) (G:=G) Al Yl hi Ar Yr Zr k7 N A p (λb _ B=>r8 b B) k8 (λh=>p g C (A g h)) r1 r2 s hm r3;exact⟨_,F',rfl,ahg r7.symm,λQ l bi=>r8 Q λh=>bi (h▸C),r4,r5,H,(λa _=>r9 a),f1,λQ l=>(f2 Q l).elim (λh=>.inl (h▸C)) λh=>h.imp (λh=>h) .inl⟩};{(have bk:cap=xs.length:=by omega);subst bk;(have R:(loadCellsFrom ⟨g,0,U⟩ 0 (i*t.size) #[]).run P w.drew=.ok (cur.toList.take (i*t.size)).toArray w.drew:=by have:=run_loadCells_list (P:=P) w.drew ⟨g,0,U⟩ (cur.toList.take (i*t.size)) (λj u E=>by rw[eN,afz];have:=cell_of (w:=w) hg (o:=0) (n:=i*t.size) (j:=j) (v:=u) (by simpa using E);simpa using this);rw[Al]at this;exact this);refine(hB w g xs.length i q c _ _ _ (by omega) ac hR R be bf).mono λe w2 hk=> ?_;obtain⟨bo,row,rfl,r1,r2,r3,r4,r5,H⟩:=hk;have old:∀b,F b\/G b->b<w.heap.size:=λb B=>B.elim (Y b) (J b);obtain⟨F',f1,f2⟩:=Nb (t:=t) (w:=w) (w':=w2) (S:=λ_=>False) (F:=F) (G:=G) Al Yl hi Ar Yr Zr k7 N A p (λb B _=>H.block b (old b B)) (λj E h=>absurd (Y _ (N j _ E h)) (ahh _)) (λh=>absurd (J _ (A _ h)) (ahh _)) r1 r2 r3 r4 r5;exact⟨_,F',rfl,H.size,λQ l _=>H.block Q l,H.os,H.tape,H.output,H.fz,f1,λQ l=>(f2 Q l).elim (λh=>.inr (.inr ⟨by omega,by rw[h];exact lt_of_heap r1⟩)) λh=>h.imp (λh=>h) .inl⟩}}}
end
end Go.Ab
namespace Go.Ab
open Go Go.RowKit Go.ChangeShapes Go.WideShapes
section
variable {H:Type} {enc:TypeId×Value->H} {P:Program}
end
end Go.Ab
namespace Go.Ab
open Go Go.RowKit Go.Lib
def zw:Obj->Prop:=λo=>∃(cs:Array Value) (e:TypeId) (fz:Nat×Nat) (n:Int),o=.cells cs e fz/\cs[0]? =O (.int .i64 n)
theorem Hi{w:World}{g:Nat}{o:Obj}(h:w.heap[g]? =O o)(hi:zw o):∃n,w.cell? ⟨g,0,U⟩=O (.int .i64 n):=by obtain⟨cs,e,fz,n,rfl,h1⟩:=hi;exact⟨n,by simp only[World.cell?,h,afC,aeL,if_false];exact h1⟩
def tC(s sep:Bytes):Option (List Bytes):=if s.length<4294967281/\1<=sep.length then O ((splitB ⟨⟨sep⟩⟩ 0 (countB ⟨⟨s⟩⟩ ⟨⟨sep⟩⟩) ⟨⟨s⟩⟩).map (·.data.toList))else U
theorem zW(sep:ByteArray):∀(k:Nat) (s:ByteArray),∀x∈splitB sep 0 k s,x.size<=s.size
 |0,s,x,h=>by rw[splitB_zero]at h;simp at h;subst h;exact aB _
 |k+1,s,x,h=>by by_cases hm:indexB s sep= -1;{rw[splitB_miss _ _ _ _ hm]at h;simp at h;subst h;exact aB _};{(have hn:0<=indexB s sep\/indexB s sep<0:=by omega);unfold splitB at h;split at h;{simp at h;subst h;exact aB _};{rcases afh.1 h with rfl|h;{simp only[ByteArray.size_extract];omega};{have:=zW sep k _ x h;simp only[ByteArray.size_extract]at this;omega}}}
theorem iu.Oa{w:World}(c:Array Value)(t:TypeId)(a:bu):iu w (w.alloc (.cells c t)) a:=
  let g:=Grow.alloc w c t
  ⟨g.os,g.tape,g.output,g.size,λq hq _=>g.block q hq,g.fz⟩
theorem IQ[Tabs]{P:Program}{f:FuncId}{g:Nat}{t9:TypeId}(hc:∀(s sep:ByteArray) (n:Int) (w:World),s.size<4294967281->w.cell? ⟨g,0,U⟩=O (.int .i64 n)->1<=sep.size->Calls P f #[.string s,.string sep] w λe w'=>e=.returned (.slice (O ⟨w.heap.size,0,U⟩) (countB s sep+1) (countB s sep+1))/\w'=w.alloc (.cells ((splitB sep 0 (countB s sep) s).map Value.string).toArray t9))(hg:(g,zw)∈Tabs.l):Sound P f ⟨[.val .str,.val .str],[.own (.slice .str)],λx=>tC x.1 x.2⟩:=by intro w args x r S H hT v j z d;obtain⟨v1,r1,rfl,⟨d1,rfl,k1⟩,v2,r2,rfl,⟨d2,rfl,k2⟩,rfl,_⟩:=j;obtain⟨rfl,A⟩:=k1;obtain⟨rfl,B⟩:=k2;obtain⟨a,c⟩:=x;simp only[headD,tailD]at A B⊢;have d:tC a c=O r:=d;unfold tC at d;split at d;{rename_i hlen;injection d with d;obtain⟨_,_,o,ho,hi⟩:=hT _ hg;obtain⟨n,hn⟩:=Hi ho hi;refine Calls.mono (hc ⟨⟨a⟩⟩ ⟨⟨c⟩⟩ n w hlen.1 hn hlen.2) ?_;rintro e w' ⟨rfl,rfl⟩;have hl:=splitB_all ⟨⟨c⟩⟩ hlen.2 0 _ ⟨⟨a⟩⟩ rfl;generalize C:splitB ⟨⟨c⟩⟩ 0 (countB ⟨⟨a⟩⟩ ⟨⟨c⟩⟩) ⟨⟨a⟩⟩=L at*;have u:∀y∈L,y.size<=a.length:=λy D=>zW ⟨⟨c⟩⟩ _ ⟨⟨a⟩⟩ y (C▸D);have E:countB ⟨⟨a⟩⟩ ⟨⟨c⟩⟩<=a.length:=countB_le ⟨⟨c⟩⟩ hlen.2 a.length ⟨⟨a⟩⟩ (aB _);have m:(w.alloc (.cells (L.map Value.string).toArray t9)).heap[w.heap.size]? =O (.cells (L.map Value.string).toArray t9 (0,0)):=agY;refine⟨[.slice (O ⟨w.heap.size,0,U⟩) (countB ⟨⟨a⟩⟩ ⟨⟨c⟩⟩+1) (countB ⟨⟨a⟩⟩ ⟨⟨c⟩⟩+1)],S,λ_=>False,λq=>q=w.heap.size,rfl,iu.Oa _ _ _,λq h=>h,λq h=>.inl h,⟨λq h=>h,?_⟩,λq h=>h.elim,λq hq=> ?_⟩;{refine⟨_,[],λq=>q=w.heap.size,λ_=>False,rfl,⟨[_],rfl,?_⟩,⟨rfl,λ_ h=>h⟩,λ_ _ h=>h,λq=>by simp⟩;refine⟨_,rfl,.inr ⟨w.heap.size,countB ⟨⟨a⟩⟩ ⟨⟨c⟩⟩+1,(L.map Value.string).toArray,t9,λ_ _=>False,?_,m,by simp[hl,Ty.size],?_,?_,λi y hi=> ?_,λ_ _ _ _ _ h=>h.elim,λ_ _ h=>h,λb=>by simp⟩⟩;{show Value.slice _ _ _=Value.slice _ (afd r) _;rw[<-d,ag5,hl]};{show afd r<=_;rw[<-d,ag5,hl];exact aB _};{unfold maxLen;omega};{have hi:r[i]? =O y:=hi;rw[<-d,ae9]at hi;cases k:L[i]? with|none=>rw[k]at hi;cases hi|some b=>rw[k]at hi;simp only[afD,aw]at hi;have p:b∈L:=aF k;have t:i<L.length:=(ae8.1 k).1;(have F:((L.map Value.string).toArray.toList.drop (i*Ty.size .str)).take (Ty.size .str)=[Value.string b]:=by simp only[Ty.size,Nat.mul_one];rw[<-List.map_drop,List.drop_eq_getElem_cons t];(have:L[i]=b:=by rw[aJ t]at k;exact aA k);simp[this]);rw[F];refine⟨⟨?_,?_⟩,λ_ h=>h⟩;{rw[<-hi]};{have:=u b p;(have G:y.length=b.size:=by rw[<-hi];exact(az (xs:=b.data)));rw[G];unfold maxLen;omega}}};{subst hq;refine⟨aB _,by rw[show(w.alloc (.cells (L.map Value.string).toArray t9)).heap.size=w.heap.size+1 from ag0 _];omega,λh=>ahh _ (v _ h),λh=>h⟩}};{cases d}
def pZ(cs:Array Value):Obj->Prop:=λo=>∃(e:TypeId) (fz:Nat×Nat),o=.cells cs e fz
theorem yw{P:Program}{w:World}{name:String}{g:Nat}{k:IntKind}{zs:List Int}{o:Obj}(hg:P.globalNamed name=O g)(ho:w.heap[g]? =O o)(h:pZ (zs.map λz=>Value.int k z).toArray o):TabIs P w name k zs:=by obtain⟨e,fz,rfl⟩:=h;unfold TabIs World.var?;rw[hg];simp only[ah,ho]
theorem Ht{P:Program}{w:World}{name:String}{g:Nat}{k:IntKind}{zs:List Int}(hg:P.globalNamed name=O g)(h:TabIs P w name k zs):g<w.heap.size/\¬False/\∃o,w.heap[g]? =O o/\pZ (zs.map λz=>Value.int k z).toArray o:=by unfold TabIs World.var? at h;rw[hg]at h;simp only[ah]at h;split at h;{rename_i cs e fz a;cases h;exact⟨(agq.1 a).1,λh=>h,_,a,e,fz,rfl⟩};{cases h}
theorem zV{w w':World}{a:Addr}(h:w'.heap[a.block]? =w.heap[a.block]?):w'.frozen? a=w.frozen? a:=by unfold World.frozen?;rw[h]
theorem iu.of_below{w w':World}(h:Below w.heap.size w w')(a:bu):iu w w' a:=⟨h.os,h.tape,h.output,h.size,λq hq _=>h.block q hq,λ_ ha=>zV (h.block _ ha)⟩
theorem iu.MO{w:World}(k:Nat)(os:Array Obj)(c:bu):iu w (Sort.grow (w.drewN k) os) c:=by(have b:∀q,q<w.heap.size->(Sort.grow (w.drewN k) os).heap[q]? =w.heap[q]? :=λq hq=>by show(w.heap++os)[q]? =_;rw[agp hq]);exact⟨rfl,rfl,rfl,by show w.heap.size<=(w.heap++os).size;rw[agZ];omega,λq hq _=>b q hq,λa ha=>zV (b _ ha)⟩
def wl(n:Int):Option Bytes:=O (itoa n)
theorem sD{w w':World}{S a:bu}(_:∀q,S q->q<w.heap.size)(p:iu w w' a){y:Bytes}(d:y.length<=maxLen):∃(vs:List Value) (S' b c:bu),Ending.returned (Value.string ⟨⟨y⟩⟩)=.returned (ur vs)/\iu w w' a/\(∀q,S q->S' q)/\(∀q,S' q->S q\/(w.heap.size<=q/\q<w'.heap.size))/\((∀q,¬b q)/\cV S' w' [.val .str] vs y c)/\(∀q,b q->(a q\/w.heap.size<=q)/\q<w'.heap.size/\¬S' q)/\(∀q,c q->w.heap.size<=q/\q<w'.heap.size/\¬S' q/\¬b q):=⟨[.string ⟨⟨y⟩⟩],S,λ_=>False,λ_=>False,rfl,p,λ_ h=>h,λ_ h=>.inl h,⟨λ_ h=>h,_,[],rfl,⟨[_],rfl,rfl,d⟩,rfl,λ_ h=>h⟩,λ_ h=>h.elim,λ_ h=>h.elim⟩
theorem KI[Tabs]{P:Program}{f:FuncId}{g:Nat}(b:P.globalNamed "internal/strconv.uint64pow10" =O g)(hc:∀(n:Int) (w:World),-9223372036854775808≤n→n≤9223372036854775807→TabIs P w "internal/strconv.uint64pow10" .u64 pow10Tab→Calls P f #[.int .i64 n] w fun e w'=>e=.returned (.string ⟨(itoa n).toArray⟩)∧∃k os,w'=Sort.grow (w.drewN k) os)(hg:(g,pZ (pow10Tab.map fun z=>Value.int .u64 z).toArray)∈Tabs.l):Sound P f ⟨[.val (.int .i64)],[.val .str],fun x=>wl x⟩:=by intro w args x r S d hT h a i c;obtain⟨v1,r1,rfl,⟨d1,rfl,k1⟩,rfl,_⟩:=a;obtain⟨rfl,j⟩:=k1;have c:wl x=O r:=c;cases c;obtain⟨_,_,o,ho,hi⟩:=hT _ hg;(have hw: -9223372036854775808≤(x:Int)∧(x:Int)≤9223372036854775807:=by have:(Lit.int .i64 (x:Int)).wf=true:=j;simp only[Lit.wf,ak,au]at this;exact this);refine Calls.mono (hc x w hw.1 hw.2 (yw b ho hi)) ?_;rintro e w' ⟨rfl,k,os,rfl⟩;have hlen:=itoa_length_le x hw.1 hw.2;exact sD h (iu.MO k os d) (by unfold maxLen;omega)
def uK(xs:List Bytes)(sep:Bytes):Option Bytes:=if xs.length<=140737488355328/\(join xs sep).length<=140737488355328 then O (join xs sep)else U
theorem Lm[Tabs]{P:Program}{f:FuncId}(h0:∀(a:Option Addr) (c:Nat) (sep:ByteArray) (w:World),Calls P f #[.slice a 0 c,.string sep] w λe w'=>e=.returned (.string ⟨#[]⟩)/\w'=w)(hc:∀(bk o c:Nat) (xs:List ByteArray) (sep:ByteArray) (w:World),(∀(j:Nat) x,xs[j]? =O x->w.cell? ⟨bk,o+j,U⟩=O (.string x))->bk<w.heap.size->xs.length<=140737488355328->xs.length<=c->(join (xs.map (·.data.toList)) sep.data.toList).length<=140737488355328->Calls P f #[.slice (O ⟨bk,o,U⟩) xs.length c,.string sep] w λe w'=>e=.returned (.string ⟨(join (xs.map (·.data.toList)) sep.data.toList).toArray⟩)/\Below w.heap.size w w'):Sound P f ⟨[.val (.slice .str),.val .str],[.val .str],λx=>uK x.1 x.2⟩:=by intro w args x r S u hT v g B d;obtain⟨v1,r1,rfl,⟨d1,rfl,k1⟩,v2,r2,rfl,⟨d2,rfl,k2⟩,rfl,_⟩:=g;obtain⟨rfl,C⟩:=k2;obtain⟨i,t⟩:=x;simp only[headD,tailD]at k1 C⊢;have d:uK i t=O r:=d;unfold uK at d;split at d;{rename_i hlen;injection d with d;subst d;(have big:∀n:Nat,n<=140737488355328->n<=maxLen:=λn h=>by unfold maxLen;omega);obtain⟨hl,⟨rfl,rfl⟩|⟨a,cap,rfl,k,l,he⟩⟩:=k1;{refine Calls.mono (h0 U 0 ⟨⟨t⟩⟩ w) ?_;rintro e w' ⟨rfl,rfl⟩;exact sD (y:=[]) v (iu.of_below (Below.refl _ _) u) (by simp)};{by_cases hx:i=[];{subst hx;refine Calls.mono (h0 (O a) cap ⟨⟨t⟩⟩ w) ?_;rintro e w' ⟨rfl,rfl⟩;exact sD (y:=[]) v (iu.of_below (Below.refl _ _) u) (by simp)};{obtain⟨m,z,p⟩:=l.resolve_left hx;obtain⟨bk,off,sp⟩:=a;simp only at m p he z;subst m;(have A:(i.map λb=>(⟨⟨b⟩⟩:ByteArray)).map (·.data.toList)=i:=by rw[afW];simp[Function.comp_def]);have call:=hc bk off cap (i.map λb=>⟨⟨b⟩⟩) ⟨⟨t⟩⟩ w (λj y q=>by rw[ae9]at q;cases l:i[j]? with|none=>rw[l]at q;cases q|some b=>rw[l]at q;cases q;obtain⟨E,_,D,rfl,_⟩:=he j b l;have:=D 0 _ rfl;simpa[Ty.size]using this) p (by rw[ag5];exact hlen.1) (by rw[ag5];exact k.1) (by rw[A];exact hlen.2);rw[A,ag5]at call;refine Calls.mono call ?_;rintro e w' ⟨rfl,s⟩;exact sD v (iu.of_below s u) (big _ hlen.2)}}};{cases d}
end Go.Ab
namespace Go.Ab
open Go
theorem um{C:Checked}{os:Os}{f:FuncId}{fn:Func}{s:OpenSpec}{conds:List PathCond}{laid:List (String×DataW Unit)}{H:Type}{enc:TypeId×Value->H}(w0:World)(args:Array Value)(c:w0.os=os)
    (d:(w0.forCall (λ_ _=>0) ⟨#[],args,[]⟩).variablesZipB C.prog=true)
    (e:((w0.forCall (λ_ _=>0) ⟨#[],args,[]⟩).heap.toList.drop C.prog.globals.size).take ((begin C.prog (λ_ _=>0) default).world.heap.size-C.prog.globals.size)=
      (begin C.prog (λ_ _=>0) default).world.heap.toList.drop C.prog.globals.size)
    (a:Input.okWideB C.prog (w0.forCall (λ_ _=>0) ⟨#[],args,[]⟩) f ⟨#[],args,[]⟩=true)
    (b:s.preRow enc C.prog fn conds false laid (w0.forCall (λ_ _=>0) ⟨#[],args,[]⟩).memory args):
    ∃(w:World) (tape:Tape) (i:Input),w.os=os/\(w.forCall tape i).Shaped C.prog/\i.vars=[]/\Input.okWide C.prog (w.forCall tape i) .any w.heap.size f i/\
     s.preRow enc C.prog fn conds false laid (w.forCall tape i).memory i.args/\({}:Assume).holds C.prog (lone (Frame.enter C.prog f i.args .normal) [] (w.forCall tape i)):=
  ⟨w0,λ_ _=>0,⟨#[],args,[]⟩,c,World.shaped_of_ZipB d e,(Input.okWide_of_okWideB (base:=0) a).1,(Input.okWide_of_okWideB a).2,b,by
    simp only[Assume.holds];exact⟨by simp,by simp,λ_=>Modest.zero,by simp,by simp⟩⟩
theorem Il{w:World}{g:Nat}{v:Value}(h:w.cell? ⟨g,0,U⟩=O v):∃cs e fz,w.heap[g]? =O (.cells cs e fz)/\cs[0]? =O v:=by simp only[World.cell?]at h;split at h;{rename_i cs e fz a;exact⟨cs,e,fz,a,by simpa using h⟩};{cases h}
theorem Ff{P:Program}{w:World}{g:Nat}{t:TypeId}{zero:Array Value}(h:w.ShapedOpen P)(hg:g<P.globals.size)(h0:((begin P (λ_ _=>0) default).world.heap[g]?).bind Obj.row? =O (zero,t))(a:zero.size=1)(b:P.buildable t=true)(hc:P.cellTypes P.depth t=O [t])(hu:P.underlying t=O (.int .i64)):g<w.heap.size/\¬False/\∃o,w.heap[g]? =O o/\zw o:=by obtain⟨m,hm⟩:=Proofs.cell_of_shapedOpen_int h hg h0 a b hc hu;obtain⟨cs,e,fz,h1,c⟩:=Il hm;exact⟨(agq.1 h1).1,λh=>h,_,h1,cs,e,fz,m,rfl,c⟩
theorem Jz{P:Program}{W:World}{l:List (String×DataW Unit)}{name:String}{k:IntKind}{zs:List Int}{g:Nat}{t e:TypeId}{n:Nat}(hg:P.globalNamed name=O g)(b:(P.globals[g]?).map (·.type)=O t)(ht:P.underlying t=O (.array n e))(he:P.underlying e=O (.int k))(c:P.cellsOf e=1)(d:P.cellsOf t=n)(hp:(l.all λx=>x.2.handleName?.isNone)=true)(hm:(name,Lib.tabData k zs)∈l)(h:laidMetH P l W):g<W.heap.size/\¬False/\∃o,W.heap[g]? =O o/\pZ (zs.map λz=>Value.int k z).toArray o:=by rw[MakeChecks.laidMetH_plain _ _ _ hp]at h;refine Ht (name:=name) hg ?_;obtain⟨m,q,cs,fuel,p,f,i,a,j⟩:=Lib.laidMet.reads h hm;obtain rfl:=aA (hg.symm.trans f);obtain rfl:=aA (b.symm.trans i);unfold Lib.TabIs;rw[a,<-Lib.cells_of_tab ht he c d j]
end Go.Ab
namespace Go.Ab
open Go Go.Lib
theorem Ga(u:Nat)(h:u<10):toStr [(IntKind.u8.wrap (aW (48+(u:Int))))]=[UInt8.ofNat (48+u)]:=by(have e:IntKind.u8.wrap (aW (48+(u:Int)))=((48+u:Nat):Int):=by rw[aZ (by omega) (by omega)];unfold IntKind.wrap;simp only[IntKind.signed,IntKind.bits];simp;omega);rw[e];rfl
theorem Cg(u:Nat)(h:u<18446744073709551616):(decDigits u).length<=20:=by rw[decDigits_length];exact nDigits_le20 u h
theorem PU{g:Int->Option Bytes}{u:Nat}(hu:u<=9223372036854775807):(bif(ae ((u:Int)<10))then O (toStr [(IntKind.u8.wrap (aW (48+(u:Int))))])else(g (aW (ag1 (u:Int) 10))).bind λr1=>bif ae (afd r1+afd (toStr [(IntKind.u8.wrap (aW (48+(ag2 (u:Int) 10))))])<=lim)then O (r1++(toStr [(IntKind.u8.wrap (aW (48+(ag2 (u:Int) 10))))]))else U)=if u<10 then O [UInt8.ofNat (48+u)]else(g ((u/10:Nat):Int)).bind λr1=>if r1.length+1<=lim then O (r1++[UInt8.ofNat (48+u%10)])else U:=by by_cases h:u<10;{rw[aN h,aq (show(u:Int)<10 by omega),Ga u h];rfl};{(have b:ag1 (u:Int) 10=((u/10:Nat):Int):=by rw[Int.tdiv_eq_ediv_of_nonneg (by omega)];omega);(have c:ag2 (u:Int) 10=((u%10:Nat):Int):=by rw[Int.tmod_eq_emod_of_nonneg (by omega)];omega);rw[aM h,ar (show¬(u:Int)<10 by omega),b,c,Ga (u%10) (by omega),aZ (x:=((u/10:Nat):Int)) (by omega) (by omega)];simp only[aj,afe,aff,afz];congr 1;funext r1;by_cases a:r1.length+1<=lim;{rw[aN a,aq a];rfl};{rw[aM a,ar a];rfl}}
theorem Sd{it:Nat->Int->Option Bytes}(h0:∀n,it 0 n=U)(hs:∀k n,it (k+1) n=(bif(ae (n<10))then O (toStr [(IntKind.u8.wrap (aW (48+n)))])else(it k (aW (ag1 n 10))).bind λr1=>bif ae (afd r1+afd (toStr [(IntKind.u8.wrap (aW (48+(ag2 n 10))))])<=lim)then O (r1++(toStr [(IntKind.u8.wrap (aW (48+(ag2 n 10))))]))else U)){n:Int}(hn:0<=n)(hm:n<=9223372036854775807):LW (λk=>it k n)=O (itoa n):=by have d:lim=4294967296:=rfl;have step:∀k (u:Nat),u<=9223372036854775807->it (k+1) (u:Int)=if u<10 then O [UInt8.ofNat (48+u)]else(it k ((u/10:Nat):Int)).bind λr1=>if r1.length+1<=lim then O (r1++[UInt8.ofNat (48+u%10)])else U:=λk u hu=>(hs k u).trans (PU hu);(have small:∀u,u<10->decDigits u=[UInt8.ofNat (48+u)]:=λu h=>by rw[decDigits,dif_pos h]);(have more:∀u,¬u<10->decDigits u=decDigits (u/10)++[UInt8.ofNat (48+u%10)]:=λu h=>by rw[decDigits,dif_neg h]);(have A:∀k (u:Nat),u<=9223372036854775807->u<10^(k+1)->it (k+1) (u:Int)=O (decDigits u):=by intro k;induction k with|zero=>intro u hu h;rw[step 0 u hu,aN (by omega),small u (by omega)]|succ k c=>intro u hu h;rw[step (k+1) u hu];by_cases a:u<10;{rw[aN a,small u a]};{have hp:10^(k+1+1)=10^(k+1)*10:=ahk ..;rw[aM a,c (u/10) (by omega) (by omega),ah,aN (by have:=Cg (u/10) (by omega);omega),<-more u a]});(have B:∀k (u:Nat) r,u<=9223372036854775807->it k (u:Int)=O r->r=decDigits u:=by intro k;induction k with|zero=>intro u r _ h;rw[h0]at h;cases h|succ k c=>intro u r hu h;rw[step k u hu]at h;by_cases a:u<10;{rw[aN a]at h;rw[small u a];exact(aA h).symm};{rw[aM a,ay]at h;obtain⟨r1,h1,b⟩:=h;have:=c (u/10) r1 (by omega) h1;subst this;split at b;{rw[more u a];exact(aA b).symm};{cases b}});obtain⟨u,rfl⟩:∃u:Nat,n=u:=⟨n.toNat,by omega⟩;rw[itoa_nonneg];refine Tu ⟨u+1,A u u (by omega) ?_⟩ λk e h=>B k u e (by omega) h;have:u<10^u:=Nat.lt_pow_self (by omega);have b:10^(u+1)=10^u*10:=ahk ..;omega
theorem vz{n:Int}(h0:0<=n)(h1:n<=9223372036854775807):(itoa n).length<=21:=itoa_length_le n (by omega) (by omega)
end Go.Ab
namespace Go.Ab
open Go Go.RowKit Go.Sort
structure Flat (t:Ty) (enc:t.den->List Value) (wf:t.den->Prop):Prop where
  own:∀(w:World) (cs:List Value) (x:t.den) (F:bu),Own w t cs x F↔(cs=enc x/\wf x)/\∀q,¬F q
  len:∀x,(enc x).length=t.size
theorem QI:Flat (.int .i64) (λx=>[.int .i64 x]) (CC .i64):=⟨λ_ _ _ _=>Iff.rfl,λ_=>rfl⟩
abbrev T3:Ty:=.pair (.int .i64) (.pair (.int .i64) (.pair (.int .i64) .unit))
def Nf(x:T3.den):List Value:=[.int .i64 x.1,.int .i64 x.2.1,.int .i64 x.2.2.1]
def wf3(x:T3.den):Prop:=CC .i64 x.1/\CC .i64 x.2.1/\CC .i64 x.2.2.1
theorem P1:Flat T3 Nf wf3:=⟨λw cs x F=>by
  constructor
  ·rintro⟨a,b,G,H,rfl,⟨⟨rfl,i⟩,hG⟩,⟨c,d,s,t,rfl,⟨⟨rfl,j⟩,k⟩,⟨e,f,G3,u,rfl,⟨⟨rfl,l⟩,m⟩,⟨rfl,n⟩,_,o⟩,_,p⟩,_,r⟩
   refine⟨⟨rfl,i,j,l⟩,λq hq=> ?_⟩;rcases(r q).1 hq with h|h
   ·exact hG q h
   ·rcases(p q).1 h with h|h
    ·exact k q h
    ·rcases(o q).1 h with h|h
     ·exact m q h
     ·exact n q h
  ·rintro⟨⟨rfl,i,j,l⟩,g⟩
   refine⟨[_],[_,_],F,F,rfl,⟨⟨rfl,i⟩,g⟩,⟨[_],[_],F,F,rfl,⟨⟨rfl,j⟩,g⟩,⟨[_],[],F,F,rfl,⟨⟨rfl,l⟩,g⟩,⟨rfl,g⟩,λq h=>absurd h (g q),λq=>by simp⟩,λq h=>absurd h (g q),λq=>by simp⟩,λq h=>absurd h (g q),λq=>by simp⟩,λ_=>rfl⟩
variable {P:Program} {f:FuncId} {t:Ty} {enc:t.den->List Value} {wf:t.den->Prop} {w:World}
theorem Ov[Inhabited t.den](_:Flat t enc wf)(d:Array t.den)(i j:Nat)(hi:i<d.size)(b:j<t.size):(flatK enc t.size d)[i*t.size+j]! =(enc d[i]!)[j]! :=by(have a:i*t.size+j<d.size*t.size:=by have:=afw t.size (ahm hi);rw[ahn]at this;omega);rw[get_flatK _ _ _ _ a];(have h0:0<t.size:=by omega);rw[ahj,Nat.mul_add_div h0,Nat.div_eq_of_lt b,Nat.mul_add_mod,Nat.mod_eq_of_lt b,afp]
theorem Oy[Inhabited t.den]{d:Array t.den}{n g:Nat}{os:Array Obj}{cur:Array Value}{e:TypeId}(hg:w.heap[g]? =O (.cells cur e (0,0))){w':World}(hw:w'=grow (putRow id (Sort.ahead w n) g 0 (flatK enc t.size d)) os):w'.heap[g]? =O (.cells (putCells id 0 (flatK enc t.size d) cur) e (0,0))/\(∀q,q<w.heap.size->q≠g->w'.heap[q]? =w.heap[q]?)/\w.heap.size<=w'.heap.size/\w'.os=w.os/\w'.tape=w.tape/\w'.output=w.output/\∀a:Addr,a.block<w.heap.size->w'.frozen? a=w.frozen? a:=by subst hw;have b:=lt_of_heap hg;(have c:∀q,q<w.heap.size->(grow (putRow id (Sort.ahead w n) g 0 (flatK enc t.size d)) os).heap[q]? =(w.heap[q]?).map λo=>if q=g then onCells (putCells id 0 (flatK enc t.size d)) o else o:=λq hq=>by(have h1:q<(w.heap.modify g (onCells (putCells id 0 (flatK enc t.size d)))).size:=by simpa using hq);show((w.heap.modify g (onCells (putCells id 0 (flatK enc t.size d))))++os)[q]? =_;rw[agp h1,Array.getElem?_modify];by_cases e:g=q;{subst e;simp};{rw[aM e];have:¬q=g:=λh=>e h.symm;simp[this]});refine⟨by rw[c g b,hg];simp[onCells],λq hq f=>by rw[c q hq];simp[f],?_,rfl,rfl,rfl,λa ha=> ?_⟩;{show w.heap.size<=((w.heap.modify g _)++os).size;simp};{unfold World.frozen?;rw[c a.block ha];by_cases e:a.block=g;{rw[e,hg];simp[onCells]};{cases w.heap[a.block]? <;>simp[e]}}
theorem O7[Tabs][Inhabited t.den](k:Flat t enc wf)(hp:0<t.size){ps:List PK}(_:ct ps=true){b:List t.den->List t.den}(d:∀xs,(b xs).Perm xs){v:Value}{xs:List t.den}{G:bu}(o:Own w (.slice t) [v] xs G):(∃a:Option Addr,v=.slice a 0 0/\xs=[]/\∀q,¬G q)\/∃g cap,v=.slice (O ⟨g,0,U⟩) xs.toArray.size cap/\xs.toArray.size<=maxLen/\HoldsK enc t.size w g 0 xs.toArray/\g<w.heap.size/\G g/\∀(n:Nat) (os:Array Obj) (w':World),w'=grow (putRowK enc t.size (Sort.ahead w n) g 0 (b xs).toArray) os->iu w w' G/\Own w' (.slice t) [v] (b xs) G:=by obtain⟨v',y,o⟩:=o;cases y;rcases o with ⟨⟨a,h1⟩,m,z⟩|⟨g,cap,cur,e,Fs,h1,m,z,s,D,A,N,P,u⟩;{exact .inl ⟨a,h1,m,z⟩};{refine .inr ⟨g,cap,by rw[h1];simp,by simpa using aC s D,?_,lt_of_heap m,(u g).2 (.inl rfl),?_⟩;{intro j f;simp only[size_flatK,aha]at f;have hi:j/t.size<xs.length:=Nat.div_lt_of_lt_mul (by rw[ahj];exact f);have B:=((k.own _ _ _ _).1 (A (j/t.size) xs[j/t.size] (by simp[hi]))).1.1;have hm:j%t.size<t.size:=ahi _ hp;(have p:j<cur.size:=by have:=afw t.size s;omega);refine⟨?_,by unfold World.frozen?;rw[m];simp⟩;unfold World.cell?;rw[m];simp only[afC,aeL,if_false,afz];rw[show(flatK enc t.size xs.toArray)[j]! =(enc xs.toArray[j/t.size]!)[j%t.size]! from get_flatK _ _ _ _ (by simpa using f)];(have E:xs.toArray[j/t.size]! =xs[j/t.size]:=by simp[hi]);rw[E,<-B];(have F:(((cur.toList.drop (j/t.size*t.size)).take t.size))[j%t.size]! =cur[j]:=by have C:j/t.size*t.size+j%t.size=j:=Nat.div_add_mod' j t.size;rw[List.getElem!_eq_getElem?_getD,afQ hm,ae7,C];simp[p]);rw[F];simp[p,id]};{intro n os w' hw;obtain⟨k1,k2,k3,H,I,J,K⟩:=Oy (t:=t) (enc:=enc) m hw;have c:=(d xs).length_eq;refine⟨⟨H,I,J,k3,λq hq hn=>k2 q hq λe=>hn (e▸(u g).2 (.inl rfl)),K⟩,v,rfl,.inr ⟨g,cap,_,e,λ_ _=>False,by rw[h1,c],k1,?_,by rw[c];exact s,D,λi x hi=> ?_,λ_ _ _ _ _ h=>h.elim,λ_ _ h=>h,λq=> ?_⟩⟩;{simp[putCells,z]};{(have l:i<xs.length:=by rw[<-c];exact(ae8.1 hi).1);refine(k.own _ _ _ _).2 ⟨⟨?_,?_⟩,λ_ h=>h⟩;{apply ae0;intro j;by_cases f:j<t.size;{(have L:i*t.size+j<xs.length*t.size:=by have:=afw t.size (ahm l);rw[ahn]at this;omega);(have hc:i*t.size+j<cur.size:=by have:=afw t.size s;omega);rw[afQ f,ae7,Array.getElem?_toList];(have M:(flatK enc t.size (b xs).toArray).size=xs.length*t.size:=by simp[c]);simp only[putCells,Array.getElem?_mapIdx,afA,afz,true_and,M];(have hx:(b xs).toArray[i]! =x:=by(have:i<(b xs).length:=by rw[c];exact l);have hx:=(ae8.1 hi).2;simp[this,hx]);have:=Ov k (b xs).toArray i j (by simp[c,l]) f;rw[hx]at this;simp only[Array.getElem?_eq_getElem hc,afD,aN L,Nat.sub_zero,id,this];(have hlen:j<(enc x).length:=by rw[k.len];exact f);simp[hlen]};{rw[agG (by simp;omega),agG (by rw[k.len];omega)]}};{have r:x∈xs:=(d xs).mem_iff.1 (aF hi);obtain⟨j,f,rfl⟩:=afb r;exact((k.own _ _ _ _).1 (A j xs[j] (by simp[f]))).1.2}};{have hn:∀i,i<xs.length->¬Fs i q:=λi hi h=>((k.own _ _ _ _).1 (A i xs[i] (by simp[hi]))).2 q h;exact⟨λh=>.inl (((u q).1 h).resolve_right λ⟨i,hi,h⟩=>hn i hi h),λh=>(u q).2 (.inl (h.resolve_right λ⟨_,_,h⟩=>h))⟩}}}
theorem MI{α:Type}[Inhabited α](c:α->Value)(d:Array α):flatK (λx=>[c x]) 1 d=d.map c:=by apply agW;{simp};{intro i h1 a;(have hi:i<d.size:=by simpa using a);simp[flatK,hi,Nat.mod_one]}
theorem PI{α:Type}[Inhabited α]{c:α->Value}{b o:Nat}{d:Array α}(h:HoldsK (λx=>[c x]) 1 w b o d):Holds c w b o d:=by unfold HoldsK at h;rw[MI]at h;intro j a;have:=h j (by simpa using a);simpa[a]using this
theorem UY{α:Type}[Inhabited α](c:α->Value)(w:World)(b o:Nat)(d:Array α):putRow c w b o d=putRowK (λx=>[c x]) 1 w b o d:=by unfold putRowK putRow;rw[MI];congr 1;funext k;unfold putCells;apply agW;{simp};{intro i h1 a;simp only[Array.getElem_mapIdx,Array.size_map];split;{rename_i h;(have:i-o<d.size:=by omega);simp[this]};{rfl}}
def sj{α:Type}(a:List α->List α)(l:List α):Option (List α):=if l.length<4611686018427387904 then O (a l)else U
theorem Bb[Tabs][Inhabited t.den](l:Flat t enc wf)(hp:0<t.size){c:List t.den->List t.den}(b:∀xs,(c xs).Perm xs)(mk:Value->Array Value)(d:∀(a:Option Addr) (w:World),Calls P f (mk (.slice a 0 0)) w λe w'=>e=.returned (.tuple #[])/\w'=w)(hc:∀(g cap:Nat) (xs:List t.den) (w:World),HoldsK enc t.size w g 0 xs.toArray->g<w.heap.size->xs.length<4611686018427387904->Calls P f (mk (.slice (O ⟨g,0,U⟩) xs.toArray.size cap)) w λe w'=>e=.returned (.tuple #[])/\∃n os,w'=grow (putRowK enc t.size (Sort.ahead w n) g 0 (c xs).toArray) os){v:Value}{x:List t.den}{G:bu}(ho:KB w (.slice t) v x G)(hx:x.length<4611686018427387904):Calls P f (mk v) w λe w'=>∃j,e=.returned (.tuple #[])/\iu w w' G/\KB w' (.slice t) v (c x) j/\∀q,j q->G q:=by obtain⟨cs,rfl,v0,rfl,ho⟩:=ho;have ho:Own w (.slice t) [v0] x G:=⟨v0,rfl,ho⟩;rcases O7 l hp (ps:=[]) rfl b ho with ⟨a,h1,i,k⟩|⟨g,cap,h1,hm,i,k,o,m⟩;{subst h1;subst i;refine Calls.mono (d a w) ?_;rintro e w' ⟨rfl,rfl⟩;have hs:c []=[]:=List.Perm.eq_nil (b []);exact⟨λ_=>False,rfl,⟨rfl,rfl,rfl,aB _,λ_ _ _=>rfl,λ_ _=>rfl⟩,⟨_,rfl,_,rfl,.inl ⟨⟨a,rfl⟩,hs,λ_ h=>h⟩⟩,λ_ h=>h.elim⟩};{subst h1;refine Calls.mono (hc g cap x w i k hx) ?_;rintro e w' ⟨rfl,n,os,hw⟩;obtain⟨k1,k2⟩:=m n os w' hw;exact⟨G,rfl,k1,⟨_,rfl,k2⟩,λ_ h=>h⟩}
theorem Kl[Tabs]{b:List t.den->List t.den}{v:Value}{x r:List t.den}{S c G:bu}{e:Ending}{w':World}(d:∀q,c q↔G q)(f:∀q,c q->¬S q/\q<w.heap.size)(i:b x=r)(h:∃a,e=.returned (.tuple #[])/\iu w w' G/\KB w' (.slice t) v (b x) a/\∀q,a q->G q):∃(vs:List Value) (S' a g:bu),e=.returned (ur vs)/\iu w w' c/\(∀q,S q->S' q)/\(∀q,S' q->S q\/(w.heap.size<=q/\q<w'.heap.size))/\(KB w' (.slice t) v r a/\vs=[]/\∀q,¬g q)/\(∀q,a q->(c q\/w.heap.size<=q)/\q<w'.heap.size/\¬S' q)/\(∀q,g q->w.heap.size<=q/\q<w'.heap.size/\¬S' q/\¬a q):=by obtain⟨a,rfl,k1,k2,k3⟩:=h;subst i;have hm:∀q,a q->c q:=λq h=>(d q).2 (k3 q h);exact⟨[],S,a,λ_=>False,rfl,⟨k1.os,k1.tape,k1.output,k1.size,λq hq hn=>k1.block q hq λh=>hn ((d q).2 h),k1.fz⟩,λ_ h=>h,λ_ h=>.inl h,⟨k2,rfl,λ_ h=>h⟩,λq h=>⟨.inl (hm q h),aD (f q (hm q h)).2 k1.size,(f q (hm q h)).1⟩,λ_ h=>h.elim⟩
theorem DW{α:Type}{a:List α->List α}{l r:List α}(h:sj a l=O r):l.length<4611686018427387904/\a l=r:=by unfold sj at h;split at h;{exact⟨by assumption,by injection h⟩};{cases h}
theorem KO[Tabs][Inhabited t.den](o:Flat t enc wf)(hp:0<t.size){b:List t.den->List t.den}(c:∀xs,(b xs).Perm xs)(i:∀(a:Option Addr) (w:World),Calls P f #[.slice a 0 0] w λe w'=>e=.returned (.tuple #[])/\w'=w)(hc:∀(g cap:Nat) (xs:List t.den) (w:World),HoldsK enc t.size w g 0 xs.toArray->g<w.heap.size->xs.length<4611686018427387904->Calls P f #[.slice (O ⟨g,0,U⟩) xs.toArray.size cap] w λe w'=>e=.returned (.tuple #[])/\∃n os,w'=grow (putRowK enc t.size (Sort.ahead w n) g 0 (b xs).toArray) os):Sound P f ⟨[.own (.slice t)],[],λx=>sj b x⟩:=by intro w args x r S C hT D d j k;obtain⟨v,r1,G,H,rfl,ho,⟨rfl,hH⟩,E,l⟩:=d;have k:sj b (x:List t.den)=O r:=k;obtain⟨hlen,hs⟩:=DW k;refine Calls.mono (Bb o hp c (λv=> #[v]) i hc ho hlen) λe w' h=> ?_;obtain⟨vs,S',m,p,k1,k2,k3,s,⟨u,y,z⟩,A,B⟩:=Kl (λq=>⟨λh=>((l q).1 h).resolve_right (hH q),λh=>(l q).2 (.inl h)⟩) j hs h;exact⟨vs,S',m,p,k1,k2,k3,s,⟨_,[],m,λ_=>False,rfl,u,⟨λ_ h=>h,y,z⟩,λ_ _ h=>h,λ_=>by simp⟩,A,B⟩
theorem Kr[Tabs][Inhabited t.den]{c:Nat}(p:Flat t enc wf)(hp:0<t.size){b:List t.den->List t.den}(d:∀xs,(b xs).Perm xs)(j:∀(a:Option Addr) (w:World),Calls P f #[.slice a 0 0,.func (.func c) #[] #[]] w λe w'=>e=.returned (.tuple #[])/\w'=w)(hc:∀(g cap:Nat) (xs:List t.den) (w:World),HoldsK enc t.size w g 0 xs.toArray->g<w.heap.size->xs.length<4611686018427387904->Calls P f #[.slice (O ⟨g,0,U⟩) xs.toArray.size cap,.func (.func c) #[] #[]] w λe w'=>e=.returned (.tuple #[])/\∃n os,w'=grow (putRowK enc t.size (Sort.ahead w n) g 0 (b xs).toArray) os):Sound P f ⟨[.own (.slice t),.fn c []],[],λx=>sj b x.1⟩:=by intro w args x r S D hT E i k l;obtain⟨v,r1,G,H,rfl,ho,⟨cs,r2,rfl,hcs,rfl,hH⟩,F,m⟩:=i;obtain⟨x,I⟩:=x;have l:sj b (x:List t.den)=O r:=l;obtain⟨hlen,hs⟩:=DW l;(have hcs:cs= #[]:=by have:cs.toList=[]:=hcs;simpa using this);subst hcs;refine Calls.mono (Bb p hp d (λv=> #[v,.func (.func c) #[] #[]]) j hc ho hlen) λe w' h=> ?_;obtain⟨vs,S',o,s,k1,k2,k3,u,⟨y,z,A⟩,B,C⟩:=Kl (λq=>⟨λh=>((m q).1 h).resolve_right (hH q),λh=>(m q).2 (.inl h)⟩) k hs h;exact⟨vs,S',o,s,k1,k2,k3,u,⟨_,_,o,λ_=>False,rfl,y,⟨λ_ h=>h,z,A⟩,λ_ _ h=>h,λ_=>by simp⟩,B,C⟩
end Go.Ab
namespace Go.Ab
open Go Go.Lib
def cut(c:UInt8):Bytes->List Bytes
 |[]=>[[]]
 | x::r=>bif ae (x=c)then []::cut c r else match cut c r with
   | []=>[[x]]
   | y::ys=>(x::y)::ys
def J1(p:Bytes):List Bytes->List Bytes
 |[]=>[p]
 |y::ys=>(p++y)::ys
theorem AR(c:UInt8):∀s:Bytes,cut c s≠[]
 |[]=>by simp[cut]
 |x::r=>by unfold cut;cases ae (x=c)with|true=>simp|false=>simp only[aj];split<;>simp
theorem Ko{l:List Bytes}(h:l≠[]):J1 [] l=l:=by cases l with|nil=>exact absurd rfl h|cons y ys=>simp[J1]
theorem Qq(c x:UInt8)(p r:Bytes)(h:x≠c):J1 p (cut c (x::r))=J1 (p++[x]) (cut c r):=by(have:ae (x=c)=false:=by simpa using h);have a:=AR c r;simp only[cut,this,aj];cases hc:cut c r with|nil=>exact absurd hc a|cons y ys=>simp[J1]
theorem Ho(c:UInt8):∀s:Bytes,(cut c s).length<=s.length+1
 |[]=>by simp[cut]
 |x::r=>by have a:=Ho c r;unfold cut;cases ae (x=c)with|true=>simp;omega|false=>simp only[aj];split;{simp};{rename_i e;rw[e]at a;simp only[afe]at a⊢;omega}
theorem DU(c:UInt8):∀s:Bytes,cut c (s++[c])=cut c s++[[]]
 |[]=>by simp[cut]
 |x::r=>by have b:=DU c r;have a:=AR c r;simp only[List.cons_append];unfold cut;cases ae (x=c)with|true=>simp[b]|false=>simp only[aj,b];cases hc:cut c r with|nil=>exact absurd hc a|cons y ys=>simp
theorem EZ(c:UInt8):∀s:Bytes,splitK [c] 0 (count s [c]) s=cut c s
 |[]=>by rw[count_miss (by simp[index])];rfl
 |b::l=>by have d:=EZ c l;by_cases h:b=c;{subst h;(have f:index (b::l) [b]=((0:Nat):Int):=by rw[index];simp[ag4]);rw[count_cons_eq,afn,splitK,f];simp[cut,d]};{(have hp:([c]:List UInt8).isPrefixOf (b::l)=false:=by simp[ag4,Ne.symm h]);(have f:index (b::l) [c]=if index l [c]== -1 then -1 else index l [c]+1:=by rw[index,hp];simp);(have i:ae (b=c)=false:=by simpa using h);rw[count_cons_ne b c l h];by_cases hm:index l [c]= -1;{rw[count_miss hm]at d⊢;simp only[splitK]at d⊢;simp only[cut,i,aj,<-d]};{have k:=index_ge l [c];obtain⟨j,g⟩:∃j:Nat,index l [c]=j:=⟨(index l [c]).toNat,by omega⟩;(have a:index (b::l) [c]=((j+1:Nat):Int):=by rw[f,aM (λe=>hm (beq_iff_eq.1 e)),g];omega);(have hk:count l [c]=1+count (l.drop (j+1)) [c]:=by have:=count_hit (s:=l) (sub:=[c]) (by simp) g;simpa using this);rw[hk,afn 1]at d⊢;have m:¬((index l [c]== -1)=true):=λe=>hm (beq_iff_eq.1 e);(have n:¬((index (b::l) [c]== -1)=true):=λe=>by have:=beq_iff_eq.1 e;rw[a]at this;omega);rw[splitK,aM m]at d;rw[splitK,aM n];simp only[cut,i,aj,<-d,a,g];simp}}
theorem Em{s:Bytes}{c:UInt8}(h:s.length<4294967281):tC s [c]=O (cut c s):=by unfold tC;rw[aN ⟨h,by simp⟩];congr 1;rw[splitB_data];exact EZ c s
theorem yQ{α:Type}{xs:List α}{k:Nat}(h:k<=xs.length):sub xs (k:Int) (xs.length:Int)=O (xs.drop k):=by unfold sub;rw[aN ⟨by omega,by omega,by omega⟩];simp
theorem MG{α:Type}(a b c:List α):sub (a++b++c) (a.length:Int) ((a.length+b.length:Nat):Int)=O b:=by unfold sub;rw[aN ⟨by omega,by omega,by simp;omega⟩];simp only[aK];rw[ahd (by simp)];rw[ahe (by simp),aeX]
theorem Dp{s:Bytes}{b:Int}{c:UInt8}(t:(c.toNat:Int)=b)(hl:s.length<4294967290):((aX (λ(st2:(List Bytes)×Int×Int)=>(bif(ae (st2.2.2<(s.length:Int)))then(idx s st2.2.2).bind λn=>bif(ae ((n.toNat:Int)=b))then(sub s st2.2.1 st2.2.2).bind λi=>bif ae (afd st2.1+afd [i]<=lim)then O (.inl ((st2.1++[i]),(aW (st2.2.2+1)),(aW (st2.2.2+1))))else U else O (.inl (st2.1,st2.2.1,(aW (st2.2.2+1))))else O (.inr (st2.1,st2.2.1)):Option (((List Bytes)×Int×Int)⊕(((List Bytes)×Int))))) ([],0,0)).bind λp=>(sub s p.2 (s.length:Int)).bind λu=>bif ae (afd p.1+afd [u]<=lim)then O (p.1++[u])else U)=O (cut c s):=by have v:lim=4294967296:=rfl;generalize hf:(λ(st2:(List Bytes)×Int×Int)=>(bif(ae (st2.2.2<(s.length:Int)))then(idx s st2.2.2).bind λn=>bif(ae ((n.toNat:Int)=b))then(sub s st2.2.1 st2.2.2).bind λi=>bif ae (afd st2.1+afd [i]<=lim)then O (.inl ((st2.1++[i]),(aW (st2.2.2+1)),(aW (st2.2.2+1))))else U else O (.inl (st2.1,st2.2.1,(aW (st2.2.2+1))))else O (.inr (st2.1,st2.2.1)):Option (((List Bytes)×Int×Int)⊕(((List Bytes)×Int)))))=f;(have main:∀(r pre cur:Bytes) (out:List Bytes),s=pre++cur++r->out.length<=pre.length->∃o,aX f (out,(pre.length:Int),((pre.length+cur.length:Nat):Int))=O o/\∃k:Nat,o.2=(k:Int)/\k<=s.length/\o.1.length<=s.length/\o.1++[s.drop k]=out++J1 cur (cut c r):=by intro r;induction r with|nil=>intro pre cur out e ho;rw[aeU]at e;(have q:s.length=pre.length+cur.length:=by rw[e];simp);refine⟨(out,(pre.length:Int)),bb ?_,pre.length,rfl,by omega,by simp only;omega,?_⟩;{rw[<-hf];simp only;rw[show ae (((pre.length+cur.length:Nat):Int)<(s.length:Int))=false from ar (by omega)];rfl};{simp only[cut,J1];rw[e,aeX];simp}|cons x r w=>intro pre cur out e ho;(have q:s.length=pre.length+cur.length+(r.length+1):=by rw[e];simp only[aG,afe]);(have hx:idx s ((pre.length+cur.length:Nat):Int)=O x:=by rw[bh,e];rw[show pre++cur++x::r=(pre++cur)++x::r from rfl,aI (by simp)];simp);(have hw:aW (((pre.length+cur.length:Nat):Int)+1)=((pre.length+cur.length+1:Nat):Int):=by rw[aZ (by omega) (by omega)];omega);by_cases d:x=c;{subst d;(have a:f (out,(pre.length:Int),((pre.length+cur.length:Nat):Int))=O (.inl (out++[cur],((pre++cur++[x]).length:Int),(((pre++cur++[x]).length+([]:Bytes).length:Nat):Int))):=by rw[<-hf];simp only;rw[show ae (((pre.length+cur.length:Nat):Int)<(s.length:Int))=true from aq (by omega),hx];simp only[ai,ah];rw[show ae ((x.toNat:Int)=b)=true by simpa using t];(have g:sub s (pre.length:Int) ((pre.length+cur.length:Nat):Int)=O cur:=by rw[e];exact MG pre cur (x::r));simp only[ai,g,ah,afe,aff];rw[show ae (out.length+(0+1)<=lim)=true from aq (by omega),hw];simp only[ai,aG,afe,aff,afz,afp]);obtain⟨o,h1,k,j,l,g,m⟩:=w (pre++cur++[x]) [] (out++[cur]) (by rw[e];simp) (by simp;omega);refine⟨o,(bq a).trans h1,k,j,l,g,m.trans ?_⟩;rw[Ko (AR x r)];simp[cut,J1]};{(have a:f (out,(pre.length:Int),((pre.length+cur.length:Nat):Int))=O (.inl (out,(pre.length:Int),((pre.length+(cur++[x]).length:Nat):Int))):=by rw[<-hf];simp only;rw[show ae (((pre.length+cur.length:Nat):Int)<(s.length:Int))=true from aq (by omega),hx];simp only[ai,ah];rw[show ae ((x.toNat:Int)=b)=false by rw[<-t];simp only[decide_eq_false_iff_not];intro h;exact d (UInt8.toNat_inj.1 (by omega)),hw];simp only[aj,aG,afe,aff];rfl);obtain⟨o,h1,k,j,l,g,m⟩:=w pre (cur++[x]) out (by rw[e];simp) ho;refine⟨o,(bq a).trans h1,k,j,l,g,m.trans ?_⟩;rw[Qq c x cur r d]});obtain⟨o,h1,k,j,l,g,m⟩:=main s [] [] [] rfl (aB _);have h1:aX f ([],0,0)=O o:=h1;rw[h1];simp only[ah,j];rw[yQ l];simp only[ah,afe,aff];rw[show ae (o.1.length+(0+1)<=lim)=true from aq (by omega),m,Ko (AR c s)];rfl
end Go.Ab
namespace Sh
open Go Go.Ab Go.Proofs Go.Shelf Go.RowKit
def tY:Obj->Prop:=λo=>∃(cs:Array Value) (e:TypeId) (fz:Nat×Nat) (v:Value),o=.cells cs e fz/\cs[0]? =O v/\(v=.nilIface\/∃te a,v=.iface te a)
instance:Tabs:=⟨[(0,zw),(1,tY),(2,tY),(5,pZ (Lib.pow10Tab.map λz=>Value.int .u64 z).toArray)]⟩
def BI:Go.Shelf.Ren:=⟨fun|169=>49|n=>n,fun|70=>74|9=>9|0=>0|72=>76|37=>51|127=>116|3=>3|5=>5|n=>n,fun|n=>n⟩
theorem Sm:Go.Proofs.Lays.n169 Tryz.prog BI:=by constructor<;>first|kernel_rfl|(intro;kernel_rfl)
theorem zB:Builder.Extra Tryz.prog BI:=by constructor<;>first|kernel_rfl|(intro;kernel_rfl)|decide|(constructor<;>first|kernel_rfl|(intro;kernel_rfl)|decide)
def BJ:Go.Shelf.Ren:=⟨fun|156=>199|165=>262|166=>48|169=>49|240=>76|241=>306|276=>113|277=>351|n=>n,fun|31=>69|9=>9|3=>3|4=>4|0=>0|20=>20|72=>76|76=>79|70=>74|37=>51|75=>78|127=>116|164=>142|5=>5|80=>81|n=>n,fun|n=>n⟩
theorem Ic:Go.Proofs.Lays.n156 Tryz.prog BJ:=by constructor<;>first|kernel_rfl|(intro;kernel_rfl)
theorem ml:Builder.Extra Tryz.prog BJ:=by constructor<;>first|kernel_rfl|(intro;kernel_rfl)|decide|(constructor<;>first|kernel_rfl|(intro;kernel_rfl)|decide)
open Go.RowKit in
theorem strings_Join_none(a:Option Addr)(c:Nat)(sep:ByteArray)(w:World):Calls Tryz.prog 199 #[.slice a 0 c,.string sep] w λe w'=>e=.returned (.string ⟨#[]⟩)/\w'=w:=Any.strings_Join_none Ic ml a c sep w
open Go.RowKit in
theorem strings_Join(bk o c:Nat)(xs:List ByteArray)(sep:ByteArray)(w:World)(a:∀(j:Nat) x,xs[j]? =O x->w.cell? ⟨bk,o+j,U⟩=O (.string x))(d:bk<w.heap.size)(f:xs.length<=140737488355328)(b:xs.length<=c)(hlen:(Lib.join (xs.map (·.data.toList)) sep.data.toList).length<=140737488355328):Calls Tryz.prog 199 #[.slice (O ⟨bk,o,U⟩) xs.length c,.string sep] w λe w'=>e=.returned (.string ⟨(Lib.join (xs.map (·.data.toList)) sep.data.toList).toArray⟩)/\Below w.heap.size w w':=Any.strings_Join Ic ml bk o c xs sep w a d f b hlen
open Go.RowKit in
theorem Builder_String_any_f(B b:Nat)(l:List UInt8)(w:World)(h:Lib.IsBuilderF 76 5 B b (Lib.byteCells l) w)(a:B<=w.heap.size):Calls Tryz.prog 49 #[.pointer (O ⟨b,0,U⟩)] w λe w'=>e=.returned (.string ⟨l.toArray⟩)/\(Lib.IsBuilderF 76 5 B b (Lib.byteCells l) w'/\Below B w w'):=Any.Builder_String_any_f Sm zB B b l w h a
def HM:Go.Shelf.Ren:=⟨fun|171=>143|243=>194|246=>257|283=>300|284=>301|285=>302|286=>303|129=>322|317=>345|318=>346|319=>347|320=>348|337=>365|338=>366|n=>n,fun|3=>3|9=>9|2=>2|4=>4|171=>263|0=>0|53=>96|37=>51|5=>5|173=>266|212=>300|51=>277|20=>20|213=>301|46=>144|232=>320|233=>321|n=>n,fun|17=>5|18=>6|19=>7|n=>n⟩
theorem Ra:Go.Proofs.LaysM.n171 Tryz.prog HM:=by constructor<;>first|kernel_rfl|(intro;kernel_rfl)|(constructor<;>first|kernel_rfl|(intro;kernel_rfl))
open Go.RowKit Go.Sort Go.Lib in
theorem strconv_Itoa(n:Int)(h0: -9223372036854775808≤n)(h1:n≤9223372036854775807)(w:World)(a:Lib.TabIs Tryz.prog w "internal/strconv.uint64pow10" .u64 Lib.pow10Tab):Calls Tryz.prog 143 #[.int .i64 n] w fun e w'=>e=.returned (.string ⟨(Lib.itoa n).toArray⟩)∧∃k os,w'=grow (w.drewN k) os:=Any.strconv_Itoa Ra n h0 h1 w a
def Hy:Go.Shelf.Ren:=⟨fun|172=>142|244=>192|245=>193|247=>252|279=>253|280=>254|281=>255|282=>256|287=>297|316=>298|171=>143|205=>299|321=>343|322=>344|243=>194|246=>257|283=>300|284=>301|285=>302|286=>303|129=>322|317=>345|318=>346|319=>347|320=>348|337=>365|338=>366|n=>n,fun|9=>9|3=>3|75=>78|76=>79|4=>4|5=>5|167=>232|37=>51|0=>0|85=>233|2=>2|168=>235|53=>96|175=>258|46=>144|210=>261|127=>116|145=>298|143=>296|21=>21|171=>263|173=>266|212=>300|51=>277|20=>20|213=>301|232=>320|233=>321|80=>81|n=>n,fun|15=>1|16=>2|17=>5|18=>6|19=>7|n=>n⟩
theorem Ef:Go.Proofs.LaysC.n172 Tryz.prog Hy:=by constructor<;>first|kernel_rfl|(intro;kernel_rfl)|(constructor<;>first|kernel_rfl|(intro;kernel_rfl)|(constructor<;>first|kernel_rfl|(intro;kernel_rfl)))
open Go.RowKit in
theorem strconv_Atoi_ok(s:ByteArray)(a:s.size<=9223372036854775806)(v:Int)(h:Lib.atoiAll s.data.toList=.ok v)(w:World):Calls Tryz.prog 142 #[.string s] w λe w'=>e=.returned (.tuple #[.int .i64 v,.nilIface])/\(w'=w\/∃t,w'=Lib.bytesWorld w 5 t):=Any.strconv_Atoi_ok Ef s a v h w
open Go.RowKit in
theorem strconv_Atoi_syntax(s:ByteArray)(a:s.size<=281474976710656)(h:Lib.atoiAll s.data.toList=Lib.atoiAll [])(ev:Value)(w:World)(c:w.cell? ⟨1,0,U⟩=O ev)(b:ev=.nilIface\/∃te d,ev=.iface te d):Calls Tryz.prog 142 #[.string s] w λe w'=>∃N,e=.returned (.tuple #[.int .i64 (0),.iface 235 (.pointer (O ⟨N,0,U⟩))])/\w.heap.size<=N/\w'.heap[N]? =O (.cells #[.string ⟨#[65,116,111,105]⟩,.string s,ev] 261 (0,0))/\Below w.heap.size w w':=Any.strconv_Atoi_syntax Ef s a (h.trans rfl) ev w c b
open Go.RowKit in
theorem strconv_Atoi_range(s:ByteArray)(a:s.size<=281474976710656)(h:Lib.atoiAll s.data.toList=.range)(ev:Value)(w:World)(c:w.cell? ⟨2,0,U⟩=O ev)(b:ev=.nilIface\/∃te d,ev=.iface te d):Calls Tryz.prog 142 #[.string s] w λe w'=>∃N,e=.returned (.tuple #[.int .i64 (Lib.atoiSat s.data.toList),.iface 235 (.pointer (O ⟨N,0,U⟩))])/\w.heap.size<=N/\w'.heap[N]? =O (.cells #[.string ⟨#[65,116,111,105]⟩,.string s,ev] 261 (0,0))/\Below w.heap.size w w':=Any.strconv_Atoi_range Ef s a h ev w c b
def Jo:Go.Shelf.Ren:=⟨fun|189=>225|125=>277|257=>285|128=>321|129=>322|294=>332|295=>333|296=>334|297=>335|298=>336|299=>337|216=>338|300=>339|301=>340|328=>362|329=>355|330=>356|331=>363|332=>364|215=>115|343=>370|n=>n,fun|28=>26|3=>3|46=>144|0=>0|51=>277|53=>96|4=>4|183=>271|182=>270|131=>137|5=>5|9=>9|218=>305|222=>309|228=>316|229=>145|n=>n,fun|n=>n⟩
theorem MS:Go.Proofs.Lays.n189 Tryz.prog Jo:=by constructor<;>first|kernel_rfl|(intro;kernel_rfl)
open Go.Sort Go.RowKit in
theorem slices_Sort_int(a off cap:Nat)(zs:List Int)(w:World)(hH:Holds (Value.int .i64) w a off zs.toArray)(hblk:a<w.heap.size)(b:zs.length<4611686018427387904):Calls Tryz.prog 225 #[.slice (O ⟨a,off,U⟩) zs.length cap] w λe w'=>e=.returned (.tuple #[])/\∃n os,w'=grow (putRow (Value.int .i64) (Sort.ahead w n) a off (zs.mergeSort λx y=>ae (x<=y)).toArray) os:=Any.slices_Sort_int MS a off cap zs w hH hblk b
def J3:Go.Shelf.Ren:=⟨fun|146=>105|221=>141|268=>189|138=>190|143=>191|195=>248|197=>249|218=>250|219=>251|260=>292|217=>293|225=>294|224=>295|267=>296|266=>341|314=>342|n=>n,fun|9=>9|31=>69|3=>3|4=>4|0=>0|105=>229|21=>21|5=>5|46=>144|119=>289|139=>292|138=>291|146=>293|51=>277|n=>n,fun|1=>0|3=>3|4=>4|n=>n⟩
theorem Sj:Go.Proofs.Lays.n146 Tryz.prog J3:=by constructor<;>first|kernel_rfl|(intro;kernel_rfl)
open Go.RowKit Go.Lib in
theorem strings_Split(s sep:ByteArray)(m:Int)(w:World)(hs:s.size<4294967281)(hm:w.cell? ⟨0,0,U⟩=O (.int .i64 m))(h1:1<=sep.size):
    Calls Tryz.prog 105 #[.string s,.string sep] w λe w'=>
      e=.returned (.slice (O ⟨w.heap.size,0,U⟩) (Lib.countB s sep+1) (Lib.countB s sep+1))/\w'=w.alloc (.cells ((Lib.splitB sep 0 (Lib.countB s sep) s).map Value.string).toArray 9):=Any.strings_Split Sj (by kernel_rfl) s sep m w hs hm h1
def DM:Go.Shelf.Ren:=⟨fun|6=>215|15=>277|14=>276|28=>321|29=>322|20=>313|21=>314|22=>315|23=>316|24=>317|25=>318|26=>319|27=>320|46=>354|47=>355|48=>356|49=>357|50=>358|57=>368|n=>n,fun|22=>65|24=>155|25=>210|3=>3|39=>144|0=>0|53=>277|55=>96|4=>4|46=>271|45=>270|50=>137|5=>5|9=>9|66=>305|70=>309|76=>316|77=>145|n=>n,fun|n=>n⟩
theorem EB:Go.Proofs.SlLaysF0.n6 Tryz.prog DM:={
  mixed:=by kernel_rfl
  f6:=⟨Tryz.f215.name,by decide,Tryz.func215.trans (congrArg O (by kernel_rfl))⟩
  f14:=⟨Tryz.f276.name,by decide,Tryz.func276.trans (congrArg O (by kernel_rfl))⟩
  f15:=Tryz.func277.trans (congrArg O (by kernel_rfl))
  f20:=⟨Tryz.f313.name,by decide,Tryz.func313.trans (congrArg O (by kernel_rfl))⟩
  f21:=⟨Tryz.f314.name,by decide,Tryz.func314.trans (congrArg O (by kernel_rfl))⟩
  f22:=⟨Tryz.f315.name,by decide,Tryz.func315.trans (congrArg O (by kernel_rfl))⟩
  f23:=⟨Tryz.f316.name,by decide,Tryz.func316.trans (congrArg O (by kernel_rfl))⟩
  f24:=⟨Tryz.f317.name,by decide,Tryz.func317.trans (congrArg O (by kernel_rfl))⟩
  f25:=⟨Tryz.f318.name,by decide,Tryz.func318.trans (congrArg O (by kernel_rfl))⟩
  f26:=⟨Tryz.f319.name,by decide,Tryz.func319.trans (congrArg O (by kernel_rfl))⟩
  f27:=⟨Tryz.f320.name,by decide,Tryz.func320.trans (congrArg O (by kernel_rfl))⟩
  f28:=Tryz.func321.trans (congrArg O (by kernel_rfl))
  f29:=Tryz.func322.trans (congrArg O (by kernel_rfl))
  f46:=⟨Tryz.f354.name,by decide,Tryz.func354.trans (congrArg O (by kernel_rfl))⟩
  f47:=Tryz.func355.trans (congrArg O (by kernel_rfl))
  f48:=Tryz.func356.trans (congrArg O (by kernel_rfl))
  f49:=⟨Tryz.f357.name,by decide,Tryz.func357.trans (congrArg O (by kernel_rfl))⟩
  f50:=⟨Tryz.f358.name,by decide,Tryz.func358.trans (congrArg O (by kernel_rfl))⟩
  f57:=⟨Tryz.f368.name,by decide,Tryz.func368.trans (congrArg O (by kernel_rfl))⟩
  t0:=Tryz.underlying0
  a0:=Tryz.isAgg0
  z0:=Tryz.sizeOf0
  v0:=Tryz.zeroValue0
  t3:=Tryz.underlying3
  a3:=Tryz.isAgg3
  z3:=Tryz.sizeOf3
  v3:=Tryz.zeroValue3
  t4:=Tryz.underlying4
  a4:=Tryz.isAgg4
  z4:=Tryz.sizeOf4
  v4:=Tryz.zeroValue4
  t5:=Tryz.underlying5
  a5:=Tryz.isAgg5
  z5:=Tryz.sizeOf5
  v5:=Tryz.zeroValue5
  t9:=Tryz.underlying9
  a9:=Tryz.isAgg9
  z9:=Tryz.sizeOf9
  v9:=Tryz.zeroValue9
  t22:=Tryz.underlying65
  a22:=Tryz.isAgg65
  z22:=Tryz.sizeOf65
  v22:=Tryz.zeroValue65
  t25:=Tryz.underlying210
  a25:=Tryz.isAgg210
  z25:=Tryz.sizeOf210
  v25:=Tryz.zeroValue210
  t39:=Tryz.underlying144
  a39:=Tryz.isAgg144
  z39:=Tryz.sizeOf144
  v39:=Tryz.zeroValue144
  t45:=Tryz.underlying270
  a45:=Tryz.isAgg270
  z45:=Tryz.sizeOf270
  v45:=Tryz.zeroValue270
  t46:=Tryz.underlying271
  a46:=Tryz.isAgg271
  z46:=Tryz.sizeOf271
  v46:=Tryz.zeroValue271
  t50:=Tryz.underlying137
  a50:=Tryz.isAgg137
  z50:=Tryz.sizeOf137
  v50:=Tryz.zeroValue137
  t53:=Tryz.underlying277
  a53:=Tryz.isAgg277
  z53:=Tryz.sizeOf277
  v53:=Tryz.zeroValue277
  t55:=Tryz.underlying96
  a55:=Tryz.isAgg96
  z55:=Tryz.sizeOf96
  v55:=Tryz.zeroValue96
  t66:=Tryz.underlying305
  a66:=Tryz.isAgg305
  z66:=Tryz.sizeOf305
  v66:=Tryz.zeroValue305
  t70:=Tryz.underlying309
  a70:=Tryz.isAgg309
  z70:=Tryz.sizeOf309
  v70:=Tryz.zeroValue309
  t76:=Tryz.underlying316
  a76:=Tryz.isAgg316
  z76:=Tryz.sizeOf316
  v76:=Tryz.zeroValue316
  t77:=Tryz.underlying145
  a77:=Tryz.isAgg145
  z77:=Tryz.sizeOf145
  v77:=Tryz.zeroValue145}
def Bc:Go.Shelf.Ren:=⟨fun|6=>222|15=>277|14=>282|28=>321|29=>322|20=>323|21=>324|22=>325|23=>326|24=>327|25=>328|26=>329|27=>330|46=>359|47=>355|48=>356|49=>360|50=>361|57=>369|n=>n,fun|22=>68|24=>159|25=>215|3=>3|39=>144|0=>0|53=>277|55=>96|4=>4|46=>271|45=>270|50=>137|5=>5|9=>9|66=>305|70=>309|76=>316|77=>145|n=>n,fun|n=>n⟩
theorem zP:Go.Proofs.SlLaysF0.n6 Tryz.prog Bc:={
  mixed:=by kernel_rfl
  f6:=⟨Tryz.f222.name,by decide,Tryz.func222.trans (congrArg O (by kernel_rfl))⟩
  f14:=⟨Tryz.f282.name,by decide,Tryz.func282.trans (congrArg O (by kernel_rfl))⟩
  f15:=Tryz.func277.trans (congrArg O (by kernel_rfl))
  f20:=⟨Tryz.f323.name,by decide,Tryz.func323.trans (congrArg O (by kernel_rfl))⟩
  f21:=⟨Tryz.f324.name,by decide,Tryz.func324.trans (congrArg O (by kernel_rfl))⟩
  f22:=⟨Tryz.f325.name,by decide,Tryz.func325.trans (congrArg O (by kernel_rfl))⟩
  f23:=⟨Tryz.f326.name,by decide,Tryz.func326.trans (congrArg O (by kernel_rfl))⟩
  f24:=⟨Tryz.f327.name,by decide,Tryz.func327.trans (congrArg O (by kernel_rfl))⟩
  f25:=⟨Tryz.f328.name,by decide,Tryz.func328.trans (congrArg O (by kernel_rfl))⟩
  f26:=⟨Tryz.f329.name,by decide,Tryz.func329.trans (congrArg O (by kernel_rfl))⟩
  f27:=⟨Tryz.f330.name,by decide,Tryz.func330.trans (congrArg O (by kernel_rfl))⟩
  f28:=Tryz.func321.trans (congrArg O (by kernel_rfl))
  f29:=Tryz.func322.trans (congrArg O (by kernel_rfl))
  f46:=⟨Tryz.f359.name,by decide,Tryz.func359.trans (congrArg O (by kernel_rfl))⟩
  f47:=Tryz.func355.trans (congrArg O (by kernel_rfl))
  f48:=Tryz.func356.trans (congrArg O (by kernel_rfl))
  f49:=⟨Tryz.f360.name,by decide,Tryz.func360.trans (congrArg O (by kernel_rfl))⟩
  f50:=⟨Tryz.f361.name,by decide,Tryz.func361.trans (congrArg O (by kernel_rfl))⟩
  f57:=⟨Tryz.f369.name,by decide,Tryz.func369.trans (congrArg O (by kernel_rfl))⟩
  t0:=Tryz.underlying0
  a0:=Tryz.isAgg0
  z0:=Tryz.sizeOf0
  v0:=Tryz.zeroValue0
  t3:=Tryz.underlying3
  a3:=Tryz.isAgg3
  z3:=Tryz.sizeOf3
  v3:=Tryz.zeroValue3
  t4:=Tryz.underlying4
  a4:=Tryz.isAgg4
  z4:=Tryz.sizeOf4
  v4:=Tryz.zeroValue4
  t5:=Tryz.underlying5
  a5:=Tryz.isAgg5
  z5:=Tryz.sizeOf5
  v5:=Tryz.zeroValue5
  t9:=Tryz.underlying9
  a9:=Tryz.isAgg9
  z9:=Tryz.sizeOf9
  v9:=Tryz.zeroValue9
  t22:=Tryz.underlying68
  a22:=Tryz.isAgg68
  z22:=Tryz.sizeOf68
  v22:=Tryz.zeroValue68
  t25:=Tryz.underlying215
  a25:=Tryz.isAgg215
  z25:=Tryz.sizeOf215
  v25:=Tryz.zeroValue215
  t39:=Tryz.underlying144
  a39:=Tryz.isAgg144
  z39:=Tryz.sizeOf144
  v39:=Tryz.zeroValue144
  t45:=Tryz.underlying270
  a45:=Tryz.isAgg270
  z45:=Tryz.sizeOf270
  v45:=Tryz.zeroValue270
  t46:=Tryz.underlying271
  a46:=Tryz.isAgg271
  z46:=Tryz.sizeOf271
  v46:=Tryz.zeroValue271
  t50:=Tryz.underlying137
  a50:=Tryz.isAgg137
  z50:=Tryz.sizeOf137
  v50:=Tryz.zeroValue137
  t53:=Tryz.underlying277
  a53:=Tryz.isAgg277
  z53:=Tryz.sizeOf277
  v53:=Tryz.zeroValue277
  t55:=Tryz.underlying96
  a55:=Tryz.isAgg96
  z55:=Tryz.sizeOf96
  v55:=Tryz.zeroValue96
  t66:=Tryz.underlying305
  a66:=Tryz.isAgg305
  z66:=Tryz.sizeOf305
  v66:=Tryz.zeroValue305
  t70:=Tryz.underlying309
  a70:=Tryz.isAgg309
  z70:=Tryz.sizeOf309
  v70:=Tryz.zeroValue309
  t76:=Tryz.underlying316
  a76:=Tryz.isAgg316
  z76:=Tryz.sizeOf316
  v76:=Tryz.zeroValue316
  t77:=Tryz.underlying145
  a77:=Tryz.isAgg145
  z77:=Tryz.sizeOf145
  v77:=Tryz.zeroValue145}
theorem Nx:Sound Tryz.prog 143 ⟨[.val (.int .i64)],[.val .str],λx=>wl x⟩:=
  KI (g:=5) (by kernel_rfl) (λn w h0 h1 ht=>strconv_Itoa n h0 h1 w ht) (by simp[Tabs.l])
theorem Np:Sound Tryz.prog 199 ⟨[.val (.slice .str),.val .str],[.val .str],λx=>uK x.1 x.2⟩:=Lm (λa c sep w=>strings_Join_none a c sep w) (λbk o c xs sep w h1 b d e f=>strings_Join bk o c xs sep w h1 b d e f)
theorem K4:Sound Tryz.prog 105 ⟨[.val .str,.val .str],[.own (.slice .str)],λx=>tC x.1 x.2⟩:=
  IQ (g:=0) (λs sep n w h1 a b=>strings_Split s sep n w h1 a b) (by simp[Tabs.l])
end Sh
namespace Sh
open Go Go.Ab Go.Proofs Go.Shelf Go.RowKit Go.Sort
abbrev T3:Ty:=.pair (.int .i64) (.pair (.int .i64) (.pair (.int .i64) .unit))
abbrev G3:Type:=Int×Int×Int×Unit
def Li(x y:Int):Bool:=ae (x<=y)
def gR(l:List Int):Option (List Int):=sj (λl=>l.mergeSort Li) l
theorem Hd:Sound Tryz.prog 225 ⟨[.own (.slice (.int .i64))],[],λx=>gR x⟩:=
  KO QI (by decide) (λxs=>List.mergeSort_perm xs Li) (λa w=>Any.slices_Sort_int_none MS a 0 w) (λg cap xs w hH b hl=>by
   refine Calls.mono (slices_Sort_int g 0 cap xs w (PI (c:=Value.int .i64) (show HoldsK (λx=>[Value.int .i64 x]) 1 w g 0 xs.toArray from hH)) b hl) ?_;rintro e w' ⟨he,n,os,hw⟩;exact⟨he,n,os,by rw[hw,UY];rfl⟩)
set_option maxHeartbeats 1000000 in
theorem SL(x:Int)(W:World):Calls Tryz.prog 115 #[.int .i64 x] W fun e w'=>e=.returned (.bool false)/\w'=W:=by go_enter Tryz.func115,Tryz.ntmps115;go_wp2;go_ret;exact⟨by simp,rfl⟩
set_option maxHeartbeats 1000000 in
theorem FE(x y:Int)(W:World):Calls Tryz.prog 87 #[.int .i64 x,.int .i64 y] W fun e w'=>e=.returned (.int .i64 (Lib.compareInt x y))/\w'=W:=by go_enter Tryz.func87,Tryz.ntmps87;go_wp2_with (go_at_call 115;refine(SL _ _).mono ?_;rintro e w' ⟨rfl,hw⟩;rw[hw]);all_goals (go_ret;refine⟨?_,rfl⟩;unfold Lib.compareInt;(repeat' split)<;>first|rfl|(exfalso;omega))
def Su(a b:Int):Int:=if a≠0 then a else b
set_option maxHeartbeats 1000000 in
theorem Wo(a c:Int)(b cap:Nat)(W:World)(h0:W.cell? ⟨b,0,U⟩=O (.int .i64 a))(h1:W.cell? ⟨b,1,U⟩=O (.int .i64 c)):Calls Tryz.prog 86 #[.slice (O ⟨b,0,U⟩) 2 cap] W fun e w'=>e=.returned (.int .i64 (Su a c))/\w'=W:=by by_cases ha:a=0;{subst ha;by_cases hc:c=0;{subst hc;go_enter Tryz.func86,Tryz.ntmps86;go_wp2;refine wp_loop_rounds 3 ?_;rw[rounds_succ];go_wp2;rw[rounds_succ];go_wp2;rw[rounds_succ];go_wp2;go_ret;exact⟨rfl,rfl⟩};{(have hc':(c !=0)=true:=by simpa using hc);go_enter Tryz.func86,Tryz.ntmps86;go_wp2;refine wp_loop_rounds 3 ?_;rw[rounds_succ];go_wp2;rw[rounds_succ];go_wp2;go_ret;exact⟨by simp[Su],rfl⟩}};{(have ha':(a !=0)=true:=by simpa using ha);go_enter Tryz.func86,Tryz.ntmps86;go_wp2;refine wp_loop_rounds 3 ?_;rw[rounds_succ];go_wp2;go_ret;exact⟨by simp[Su,ha],rfl⟩}
theorem wI(W:World)(A B C:Array Value)(t1 t2 t3:TypeId)(i:Nat)(v:Value)(h:C[i]? =O v):((((W.alloc (.cells A t1)).alloc (.cells B t2)).alloc (.cells C t3)).drew).cell? ⟨W.heap.size+1+1,i,U⟩=O v:=by(have e:((((W.alloc (.cells A t1)).alloc (.cells B t2)).alloc (.cells C t3)).drew).heap[W.heap.size+1+1]? =O (.cells C t3 (0,0)):=by show(((W.heap.push _).push _).push _)[W.heap.size+1+1]? =_;rw[show W.heap.size+1+1=((W.heap.push (.cells A t1)).push (.cells B t2)).size by simp];exact agY);unfold World.cell?;rw[e];simpa using h
set_option maxHeartbeats 4000000 in
set_option maxRecDepth 100000 in
theorem V6(x0 x1 x2 y0 y1 y2:Int)(W:World):Calls Tryz.prog 216 #[.agg #[.int .i64 x0,.int .i64 x1,.int .i64 x2],.agg #[.int .i64 y0,.int .i64 y1,.int .i64 y2]] W fun e w'=>e=.returned (.int .i64 (Su (Lib.compareInt x0 y0) (Lib.compareInt x1 y1)))/\∃q os',w'=grow (W.drewN q) os':=by
 have hcon:=fun x y W'=>FE x y W';have hor:=fun a c b cap W'=>Wo a c b cap W';generalize hr1:Lib.compareInt x0 y0=r1 at*;generalize hr2:Lib.compareInt x1 y1=r2 at*;have k1:∀W',Calls Tryz.prog 87 #[.int .i64 x0,.int .i64 y0] W' fun e w'=>e=.returned (.int .i64 r1)/\w'=W':=fun W'=>hr1▸hcon x0 y0 W';have k2:∀W',Calls Tryz.prog 87 #[.int .i64 x1,.int .i64 y1] W' fun e w'=>e=.returned (.int .i64 r2)/\w'=W':=fun W'=>hr2▸hcon x1 y1 W';clear hcon hr1 hr2;go_enter Tryz.func216,Tryz.ntmps216;go_wp
 go_region_held3 (fun w'=>w'.cell? ⟨W.heap.size,0,U⟩=O (.int .i64 x0)/\w'.cell? ⟨W.heap.size,1,U⟩=O (.int .i64 x1)/\w'.cell? ⟨W.heap.size+1,0,U⟩=O (.int .i64 y0)/\w'.cell? ⟨W.heap.size+1,1,U⟩=O (.int .i64 y1)) (go_keep)
   (first
     | (go_at_call_of 87 (Value.int .i64 x0);refine(k1 _).mono ?_;rintro e w' ⟨rfl,rfl⟩)
     | (go_at_call_of 87 (Value.int .i64 x1);refine(k2 _).mono ?_;rintro e w' ⟨rfl,rfl⟩)
     | (go_at_call 86;refine(hor r1 r2 _ _ _ (wI _ _ _ _ _ _ _ _ _ rfl) (wI _ _ _ _ _ _ _ _ _ rfl)).mono ?_;rintro e w' ⟨rfl,rfl⟩))
 (all_goals go_wp2);(all_goals go_ret);all_goals exact⟨rfl,1,_,by rw[alloc_eq_grow,alloc_eq_grow,alloc_eq_grow,grow_grow,grow_grow];rfl⟩
set_option maxHeartbeats 4000000 in
set_option maxRecDepth 100000 in
theorem Th(x0 x1 x2 y0 y1 y2:Int)(W:World):Calls Tryz.prog 223 #[.agg #[.int .i64 x0,.int .i64 x1,.int .i64 x2],.agg #[.int .i64 y0,.int .i64 y1,.int .i64 y2]] W fun e w'=>e=.returned (.int .i64 (Su (Lib.compareInt x1 y1) (Lib.compareInt x0 y0)))/\∃q os',w'=grow (W.drewN q) os':=by
 have hcon:=fun x y W'=>FE x y W';have hor:=fun a c b cap W'=>Wo a c b cap W';generalize hr1:Lib.compareInt x1 y1=r1 at*;generalize hr2:Lib.compareInt x0 y0=r2 at*;have k1:∀W',Calls Tryz.prog 87 #[.int .i64 x1,.int .i64 y1] W' fun e w'=>e=.returned (.int .i64 r1)/\w'=W':=fun W'=>hr1▸hcon x1 y1 W';have k2:∀W',Calls Tryz.prog 87 #[.int .i64 x0,.int .i64 y0] W' fun e w'=>e=.returned (.int .i64 r2)/\w'=W':=fun W'=>hr2▸hcon x0 y0 W';clear hcon hr1 hr2;go_enter Tryz.func223,Tryz.ntmps223;go_wp
 go_region_held3 (fun w'=>w'.cell? ⟨W.heap.size,1,U⟩=O (.int .i64 x1)/\w'.cell? ⟨W.heap.size,0,U⟩=O (.int .i64 x0)/\w'.cell? ⟨W.heap.size+1,1,U⟩=O (.int .i64 y1)/\w'.cell? ⟨W.heap.size+1,0,U⟩=O (.int .i64 y0)) (go_keep)
   (first
     | (go_at_call_of 87 (Value.int .i64 x1);refine(k1 _).mono ?_;rintro e w' ⟨rfl,rfl⟩)
     | (go_at_call_of 87 (Value.int .i64 x0);refine(k2 _).mono ?_;rintro e w' ⟨rfl,rfl⟩)
     | (go_at_call 86;refine(hor r1 r2 _ _ _ (wI _ _ _ _ _ _ _ _ _ rfl) (wI _ _ _ _ _ _ _ _ _ rfl)).mono ?_;rintro e w' ⟨rfl,rfl⟩))
 (all_goals go_wp2);(all_goals go_ret);all_goals exact⟨rfl,1,_,by rw[alloc_eq_grow,alloc_eq_grow,alloc_eq_grow,grow_grow,grow_grow];rfl⟩
def lex(a b c d:Int):Prop:=a<c\/(a=c/\b<d)
theorem BO(a b c d:Int):Su (Lib.compareInt a c) (Lib.compareInt b d)<0↔lex a b c d:=by unfold Su Lib.compareInt lex;(repeat' split)<;>simp_all<;>omega
def K5(x y:G3):Int:=Su (Lib.compareInt x.1 y.1) (Lib.compareInt x.2.1 y.2.1)
def oD(x y:G3):Int:=Su (Lib.compareInt x.2.1 y.2.1) (Lib.compareInt x.1 y.1)
theorem Sn:SWO (ltOf K5) where
  irrefl x:=by simp only[ltOf,K5,BO,lex,decide_eq_false_iff_not];omega
  trans x y z h1 a:=by simp only[ltOf,K5,BO,lex,au]at*;omega
  ntrans x y z h1 a:=by simp only[ltOf,K5,BO,lex,decide_eq_false_iff_not]at*;omega
theorem Pj:SWO (ltOf oD) where
  irrefl x:=by simp only[ltOf,oD,BO,lex,decide_eq_false_iff_not];omega
  trans x y z h1 a:=by simp only[ltOf,oD,BO,lex,au]at*;omega
  ntrans x y z h1 a:=by simp only[ltOf,oD,BO,lex,decide_eq_false_iff_not]at*;omega
def mE(a:G3->G3->Int)(l:List G3):List G3:=(pdq (ltOf a) l.toArray 0 l.length (Lib.bitLen l.length) true true).toList
theorem JE(x:G3):(Ab.Nf x).length=3:=rfl
theorem Jv(x:G3):∀v∈Ab.Nf x,v.oneCell'=true:=by intro v a;simp only[Ab.Nf,afh,List.not_mem_nil,or_false]at a;rcases a with rfl|rfl|rfl<;>rfl
theorem O1:∀args w,(callFunc 216 args).run Tryz.prog w=.ok (.enter 216 args) w:=enters_of Tryz.func216 (by kernel_rfl) rfl
theorem OG:∀args w,(callFunc 223 args).run Tryz.prog w=.ok (.enter 223 args) w:=enters_of Tryz.func223 (by kernel_rfl) rfl
theorem CL{a:G3->G3->Int}(hO:SWO (ltOf a))(l:List G3):PermIn 0 l.length l.toArray (mE a l).toArray/\SortedIn (ltOf a) 0 l.length (mE a l).toArray:=by have:=pdq_sorts (ltOf a) hO l.toArray 0 l.length (Lib.bitLen l.length) true true (afA _) (by simp) (Or.inl rfl);simpa[mE]using this
theorem px{a:G3->G3->Int}(hO:SWO (ltOf a))(l:List G3):(mE a l).Perm l:=by obtain⟨h1,_,b⟩:=(CL hO l).1;have c:(mE a l).toArray.extract 0 l.length=(mE a l).toArray:=agX (by rw[h1];simp);have d:l.toArray.extract 0 l.length=l.toArray:=agX (by simp);rw[c,d]at b;exact b
def sr(l:List G3):Option (List G3):=sj (mE K5) l
theorem Ig:Sound Tryz.prog 215 ⟨[.own (.slice T3),.fn 216 []],[],λx=>sr x.1⟩:=
  Kr (t:=Ab.T3) P1 (by decide) (px Sn) (λa w=>AnyF.slices_SortFunc_none EB a 0 _ w) (λg cap xs w hH b hl=>AnyQ.slices_SortFunc_eq EB 3 Tryz.isAgg155 Tryz.sizeOf155 Ab.Nf JE Jv K5 Sn 216 #[] g 0 cap xs.toArray w O1 (λ_ _ _ _ x y=>V6 x.1 x.2.1 x.2.2.1 y.1 y.2.1 y.2.2.1 _) hH b (by simpa using hl))
theorem Lj{w:World}{v:Value}{x:List G3}{G:bu}(ho:KB w (.slice T3) v x G)(hx:x.length<4611686018427387904):Calls Tryz.prog 222 #[v,.func (.func 223) #[] #[]] w λe w'=>∃b,e=.returned (.tuple #[])/\iu w w' G/\KB w' (.slice T3) v (mE oD x) b/\∀q,b q->G q:=
  Bb (t:=Ab.T3) P1 (by decide) (px Pj) (λv=> #[v,.func (.func 223) #[] #[]]) (λa w=>AnyF.slices_SortFunc_none zP a 0 _ w) (λg cap xs w hH c hl=>AnyQ.slices_SortFunc_eq zP 3 Tryz.isAgg159 Tryz.sizeOf159 Ab.Nf JE Jv oD Pj 223 #[] g 0 cap xs.toArray w OG (λ_ _ _ _ x y=>Th x.1 x.2.1 x.2.2.1 y.1 y.2.1 y.2.2.1 _) hH c (by simpa using hl)) ho hx
end Sh
namespace Sh
open Go Go.Ab Go.Proofs Go.Shelf Go.RowKit Go.Lib
def iG(s:Bytes):Int×Bool:=
  match atoiAll s with
  |.ok v=>if v<0\/itoa v≠s then(0,false)else(v,true)
  |_=>(0,false)
def BV(s:Bytes):Option (Int×Bool):=if s.length<=281474976710656 then O (iG s)else U
set_option maxHeartbeats 1000000 in
theorem II(s:ByteArray)(w:World)(n:Int)(K:World->Prop)(hA:Calls Tryz.prog 142 #[.string s] w fun e w'=>∃te pe,e=.returned (.tuple #[.int .i64 n,.iface te pe])/\K w'):Calls Tryz.prog 107 #[.string s] w fun e w'=>e=.returned (.tuple #[.int .i64 0,.bool false])/\K w':=by go_enter Tryz.func107,Tryz.ntmps107;go_wp2_with (go_at_call 142;refine hA.mono ?_;rintro e w' ⟨te,pe,rfl,hK⟩);go_ret2;exact⟨rfl,hK⟩
set_option maxHeartbeats 1000000 in
theorem Qy(s:ByteArray)(w:World)(n:Int)(hn:n<0)(K:World->Prop)(hA:Calls Tryz.prog 142 #[.string s] w fun e w'=>e=.returned (.tuple #[.int .i64 n,.nilIface])/\K w'):Calls Tryz.prog 107 #[.string s] w fun e w'=>e=.returned (.tuple #[.int .i64 0,.bool false])/\K w':=by go_enter Tryz.func107,Tryz.ntmps107;go_wp2_with (go_at_call 142;refine hA.mono ?_;rintro e w' ⟨rfl,hK⟩);go_ret2;exact⟨rfl,hK⟩
set_option maxHeartbeats 1000000 in
theorem Ju(s t:ByteArray)(w:World)(n n':Int)(b:Bool)(hn:0<=n)(he:t.toList=s.toList->n'=n/\b=true)(hne:t.toList≠s.toList->n'=0/\b=false)(K K2:World->Prop)(hA:Calls Tryz.prog 142 #[.string s] w fun e w'=>e=.returned (.tuple #[.int .i64 n,.nilIface])/\K w')(hI:∀W,K W->Calls Tryz.prog 143 #[.int .i64 n] W fun e w'=>e=.returned (.string t)/\K2 w'):Calls Tryz.prog 107 #[.string s] w fun e w'=>e=.returned (.tuple #[.int .i64 n',.bool b])/\K2 w':=by go_enter Tryz.func107,Tryz.ntmps107;go_wp2_with (first|(go_at_call 142;refine hA.mono ?_;rintro e w' ⟨rfl,hK⟩)|(go_at_call 143;refine(hI _ hK).mono ?_;rintro e w' ⟨rfl,hK2⟩));{rename_i h;(have h:t.toList≠s.toList:=by rcases h with h|h;{omega};{simpa using h});obtain⟨rfl,rfl⟩:=hne h;go_ret2;exact⟨rfl,hK2⟩};{rename_i h;(have h:t.toList=s.toList:=by simpa using h.2);obtain⟨rfl,rfl⟩:=he h;go_ret2;exact⟨rfl,hK2⟩}
abbrev Old(w w':World):Prop:=iu w w' λ_=>False
theorem Old.trans{w c d:World}(a:Old w c)(b:Old c d):Old w d:=⟨b.os.trans a.os,b.tape.trans a.tape,b.output.trans a.output,aC a.size b.size,λq hq h=>(b.block q (aD hq a.size) h).trans (a.block q hq h),λq hq=>(b.fz q (aD hq a.size)).trans (a.fz q hq)⟩
theorem Old.rfl'(w:World):Old w w:=⟨rfl,rfl,rfl,aB _,λ_ _ _=>rfl,λ_ _=>rfl⟩
theorem NW:Sound Tryz.prog 107 ⟨[.val .str],[.val (.int .i64),.val .bool],λx=>BV x⟩:=by intro w args x r S D hT X c I a;obtain⟨v1,r1,rfl,⟨d1,rfl,k1⟩,rfl,E⟩:=c;obtain⟨rfl,Y⟩:=k1;have a:BV (x:Bytes)=O r:=a;change Bytes at x;have hx:mN (Ty.isAgg .str) [Value.string ⟨⟨x⟩⟩]=.string ⟨⟨x⟩⟩:=rfl;unfold BV at a;split at a;rotate_left;{cases a};rename_i hlen;injection a with a;subst a;(have J:(ByteArray.mk ⟨x⟩).size=x.length:=by simp[ByteArray.size]);have Z:(ByteArray.mk ⟨x⟩).data.toList=x:=rfl;obtain⟨q1,_,o1,f,K,g,f1,v1,rfl,i,j⟩:=hT (1,tY) (by simp[Tabs.l]);obtain⟨q2,_,o2,m,L,o,f2,v2,rfl,s,u⟩:=hT (2,tY) (by simp[Tabs.l]);obtain⟨M,_,P,y,A⟩:=hT (5,pZ (Lib.pow10Tab.map λz=>Value.int .u64 z).toArray) (by simp[Tabs.l]);(have Q:w.cell? ⟨1,0,U⟩=O v1:=by unfold World.cell?;rw[f];simpa using i);(have R:w.cell? ⟨2,0,U⟩=O v2:=by unfold World.cell?;rw[m];simpa using s);(have fin:∀(n:Int) (b:Bool),iG x=(n,b)->(-9223372036854775808<=n/\n<=9223372036854775807)->(Calls Tryz.prog 107 #[.string ⟨⟨x⟩⟩] w λe w'=>e=.returned (.tuple #[.int .i64 n,.bool b])/\Old w w')->Calls Tryz.prog 107 #[.string ⟨⟨x⟩⟩] w λe w'=>∃vs S' B F,e=.returned (ur vs)/\iu w w' D/\(∀q,S q->S' q)/\(∀q,S' q->S q\/(w.heap.size<=q/\q<w'.heap.size))/\mf S' w' [.val .str] [.string ⟨⟨x⟩⟩] (RK.dw [.val (.int .i64),.val .bool]) (iG x) B (λz=>cV S' w' [.val (.int .i64),.val .bool] vs z F)/\(∀q,B q->(D q\/w.heap.size<=q)/\q<w'.heap.size/\¬S' q)/\(∀q,F q->w.heap.size<=q/\q<w'.heap.size/\¬S' q/\¬B q):=by intro n b T hw hc;refine Calls.mono hc ?_;rintro e w' ⟨rfl,p⟩;refine⟨[.int .i64 n,.bool b],S,λ_=>False,λ_=>False,rfl,⟨p.os,p.tape,p.output,p.size,λq hq _=>p.block q hq (λh=>h),p.fz⟩,λ_ h=>h,λ_ h=>.inl h,⟨λ_ h=>h,?_⟩,λ_ h=>h.elim,λ_ h=>h.elim⟩;rw[T];exact⟨_,_,rfl,⟨[_],rfl,rfl,by simp only[CC,Lit.wf,ak,au];exact hw⟩,_,[],rfl,⟨[_],rfl,rfl⟩,rfl,λ_ h=>h⟩);show Calls Tryz.prog 107 #[.string ⟨⟨x⟩⟩] w _;cases hA:atoiAll x with|range=>refine fin 0 false (by simp[iG,hA]) (by omega) ?_;exact II ⟨⟨x⟩⟩ w _ (Old w) (Calls.mono (strconv_Atoi_range ⟨⟨x⟩⟩ (by omega) hA v2 w R u) λe w' ⟨N,he,_,_,C⟩=>⟨_,_,he,iu.of_below C _⟩)|ok v=>obtain⟨G,H⟩:=atoiAll_bounds hA;have d:Calls Tryz.prog 142 #[.string ⟨⟨x⟩⟩] w λe w'=>e=.returned (.tuple #[.int .i64 v,.nilIface])/\Old w w':=Calls.mono (strconv_Atoi_ok ⟨⟨x⟩⟩ (by omega) v hA w) λe w' ⟨he,hw⟩=>⟨he,by rcases hw with rfl|⟨t,rfl⟩;{exact Old.rfl' _};{exact iu.of_below (Go.Joins.below_bytesWorld _ _ _ _ (aB _)) _}⟩;by_cases hn:v<0;{exact fin 0 false (by simp[iG,hA,hn]) (by omega) (Qy ⟨⟨x⟩⟩ w v hn (Old w) d)};{(have hI:∀W,Old w W->Calls Tryz.prog 143 #[.int .i64 v] W λe w'=>e=.returned (.string ⟨(itoa v).toArray⟩)/\Old w w':=λW p=>by have V:W.heap[5]? =O P:=(p.block 5 M λh=>h).trans y;exact Calls.mono (strconv_Itoa v G H W (yw (by kernel_rfl) V A)) λe w' ⟨he,k,os,hw⟩=>⟨he,Old.trans p (hw▸iu.MO k os _)⟩);have g:(ByteArray.mk (itoa v).toArray).toList=itoa v:=toList_mk (itoa v);have o:(ByteArray.mk ⟨x⟩).toList=x:=toList_mk x;by_cases he:itoa v=x;{exact fin v true (by simp[iG,hA,hn,he]) ⟨G,H⟩ (Ju ⟨⟨x⟩⟩ _ w v v true (by omega) (λ_=>⟨rfl,rfl⟩) (λh=>absurd (g.trans (he.trans o.symm)) h) (Old w) (Old w) d hI)};{exact fin 0 false (by simp[iG,hA,he]) (by omega) (Ju ⟨⟨x⟩⟩ _ w v 0 false (by omega) (λh=>absurd (g.symm.trans (h.trans o)) he) (λ_=>⟨rfl,rfl⟩) (Old w) (Old w) d hI)}}|_=>refine fin 0 false (by simp[iG,hA]) (by omega) ?_;exact II ⟨⟨x⟩⟩ w 0 (Old w) (Calls.mono (strconv_Atoi_syntax ⟨⟨x⟩⟩ (by omega) (hA.trans rfl) v1 w Q j) λe w' ⟨N,he,_,_,C⟩=>⟨_,_,he,iu.of_below C _⟩)
theorem MZ(B b:Nat)(a:List Value)(s:ByteArray)(w:World)(h:Lib.IsBuilderF 76 5 B b a w)(hlen:a.length+s.size<=140737488355328)(c:B<=w.heap.size):Calls Tryz.prog 48 #[.pointer (O ⟨b,0,U⟩),.string s] w λe w'=>e=.returned (.tuple #[.int .i64 s.size,.nilIface])/\(Lib.BuilderAtF 76 5 B b (.pointer (O ⟨b,0,U⟩)) (a++Lib.strCells s) w'/\Below B w w'):=Any.Builder_WriteString_f {Ic with} {ml with} B b a s w h hlen c
def oN(a:Nat->Bytes):Nat->Bytes
 |0=>[]
 |n+1=>oN a n++a n
theorem H4(a:Nat->Bytes)(i:Nat):∀d,(oN a i).length<=(oN a (i+d)).length
 |0=>aB _
 |d+1=>aC (H4 a i d) (by show _<=(oN a (i+d)++a (i+d)).length;rw[aG];omega)
theorem size_alloc(w:World)(o:Obj):(w.alloc o).heap.size=w.heap.size+1:=ag0 _
theorem kg(w:World)(o:Obj):Below w.heap.size w (w.alloc o):=Below.alloc (Below.refl _ _) (aB _) _
set_option maxHeartbeats 4000000 in
set_option maxRecDepth 100000 in
theorem Vu(w:World)(lb lo n lc pb po pn pc:Nat)(ls:Nat->Nat)(nm:Nat->Bytes)(hn:n<=999999)(_:pn<=999999)(hl:∀i,i<n->w.cell? ⟨lb,lo+i,U⟩=O (.int .i64 (ls i)))(hk:∀i,i<n->ls i<pn)(hp:∀i,i<n->w.cell? ⟨pb,po+ls i*2,U⟩=O (.string ⟨⟨nm i⟩⟩))(hlb:lb<w.heap.size)(hpb:pb<w.heap.size)(ht:(oN nm n).length<=140737488355328):Calls Tryz.prog 203 #[.agg #[.slice (O ⟨pb,po,U⟩) pn pc],.slice (O ⟨lb,lo,U⟩) n lc] w fun e w'=>e=.returned (.string ⟨⟨oN nm n⟩⟩)/\Below w.heap.size w w':=by have H0:=Lib.hid hl;have H1:=Lib.hid hk;have H2:=Lib.hid hp;clear hl hk hp;go_enter Tryz.func203,Tryz.ntmps203;go_wp2_with fail;go_loopg [10] n (fun gg s10 wr=>∃(i:Nat),s10=.int .i64 i/\i<=n/\n-i<=gg/\Hid (Lib.IsBuilderF 76 5 (w.heap.size+1) (w.heap.size+1) (byteCells (oN nm i)) wr)/\Hid (Below (w.heap.size+1) (w.alloc (.cells #[.slice (O ⟨pb,po,U⟩) pn pc] 38)) wr));(case atStart=>refine⟨0,rfl,afA n,aB _,Lib.hid (.inl ⟨aB _,.slice U 0 0,?_,⟨rfl,.inl ⟨rfl,rfl⟩⟩,by simp[Value.ownBlock]⟩),Lib.hid (Below.alloc (Below.refl _ _) (ahg (size_alloc _ _).symm) _)⟩;show((w.heap.push _).push _)[w.heap.size+1]? =_;rw[show w.heap.size+1=(w.heap.push (.cells #[.slice (O ⟨pb,po,U⟩) pn pc] 38)).size by simp];exact agY);case round=>obtain⟨i,rfl,hin,hgg,hB,hL⟩:=hrel;(have hsz:w.heap.size+1<=wr.heap.size:=by have:=hL.out.size;rwa [size_alloc]at this);have old:∀q,q<w.heap.size->wr.heap[q]? =w.heap[q]? :=fun q hq=>(hL.out.block q (by omega)).trans ((kg w _).block q hq);by_cases hlt:i<n;{(have hltz:(i:Int)<(n:Int):=by omega);have c0:=(World.cell?_of_block (a:=⟨lb,lo+i,U⟩) (old lb hlb)).trans (H0.out i hlt);have c1:=(World.cell?_of_block (a:=⟨pb,po+ls i*2,U⟩) (old pb hpb)).trans (H2.out i hlt);(have cb:wr.cell? ⟨w.heap.size,0,U⟩=O (.slice (O ⟨pb,po,U⟩) pn pc):=by have:wr.heap[w.heap.size]? =O (.cells #[.slice (O ⟨pb,po,U⟩) pn pc] 38 (0,0)):=(hL.out.block _ (by omega)).trans agY;unfold World.cell?;rw[this];rfl);have hkp:=H1.out i hlt;have HC:=Lib.hid (MZ (w.heap.size+1) (w.heap.size+1) (byteCells (oN nm i)) ⟨⟨nm i⟩⟩ wr hB.out (by have:=H4 nm (i+1) (n-(i+1));rw[show i+1+(n-(i+1))=n by omega]at this;have h2:(oN nm (i+1)).length=(oN nm i).length+(nm i).length:=aG;have h3:(ByteArray.mk ⟨nm i⟩).size=(nm i).length:=rfl;rw[Lib.byteCells_length];omega) hsz);generalize hv:ls i=v at c0 c1 hkp;generalize hx:nm i=x at c1 HC;have HX:=Lib.hid hx;clear hx hv;go_wp2_with (go_at_call 48;refine HC.out.mono ?_;rintro e w' ⟨rfl,hb⟩);have HB:=Lib.hid hb;clear hb HC;go_roundg (n-(i+1));(case measure=>omega);case rel=>exact⟨i+1,by go_num,by omega,aB _,Lib.hid (.inr (by have:=HB.out.1;rw[strCells_eq,<-byteCells_append]at this;rw[show oN nm (i+1)=oN nm i++x from HX.out▸rfl];exact this)),Lib.hid (hL.out.trans HB.out.2)⟩};{(obtain rfl:i=n:=by omega);(have hltz:¬(i:Int)<(i:Int):=by omega);have HC:=Lib.hid (Builder_String_any_f (w.heap.size+1) (w.heap.size+1) (oN nm i) wr hB.out hsz);go_wp2_with (go_at_call 49;refine HC.out.mono ?_;rintro e w' ⟨rfl,hb⟩);go_ret;exact⟨rfl,(kg w _).trans ((hL.out.trans hb.2).mono (agh _))⟩}
set_option maxHeartbeats 4000000 in
set_option maxRecDepth 100000 in
theorem QM(w:World)(pv:Value)(p:Option Addr)(c:Nat):Calls Tryz.prog 203 #[.agg #[pv],.slice p 0 c] w fun e w'=>e=.returned (.string ⟨⟨[]⟩⟩)/\Below w.heap.size w w':=by(have hB:Lib.IsBuilderF 76 5 (w.heap.size+1) (w.heap.size+1) (byteCells []) ((w.alloc (.cells #[pv] 38)).alloc (.cells #[.pointer U,.slice U 0 0] 76)):=by refine .inl ⟨aB _,.slice U 0 0,?_,⟨rfl,.inl ⟨rfl,rfl⟩⟩,by simp[Value.ownBlock]⟩;show((w.heap.push _).push _)[w.heap.size+1]? =_;rw[show w.heap.size+1=(w.heap.push (.cells #[pv] 38)).size by simp];exact agY);have HC:=Lib.hid (Builder_String_any_f (w.heap.size+1) (w.heap.size+1) [] _ hB (by rw[size_alloc,size_alloc];omega));clear hB;go_enter Tryz.func203,Tryz.ntmps203;go_wp2_with fail;refine wp_loop_rounds 1 ?_;rw[rounds_succ];go_wp2_with (go_at_call 49;refine HC.out.mono ?_;rintro e w' ⟨rfl,hb⟩);go_ret;exact⟨rfl,((kg w _).trans ((kg (w.alloc _) _).mono (by rw[size_alloc];omega))).trans (hb.2.mono (agh _))⟩
abbrev WC:Ty:=.pair .str (.pair (.slice (.int .i64)) .unit)
abbrev RA:Type:=Bytes×List Int×Unit
def O5(ps:List RA)(i:Int):Bytes:=((ps[i.toNat]?).map (·.1)).getD []
def mG(ps:List RA)(l:List Int):Bytes:=l.flatMap (O5 ps)
def Dd(b:List RA×Unit)(l:List Int):Option Bytes:=if l.length<=999999/\b.1.length<=999999/\(∀i∈l,0<=i/\i<b.1.length)/\(mG b.1 l).length<=140737488355328 then O (mG b.1 l)else U
theorem ye(a:Nat->Bytes):∀n,oN a n=(ag8 n).flatMap a
 |0=>rfl
 |n+1=>by rw[List.range_succ,List.flatMap_append,<-ye a n];simp[oN]
theorem GQ(ps:List RA)(l:List Int):oN (λi=>O5 ps (l[i]?.getD 0)) l.length=mG ps l:=by rw[ye];(have e:(ag8 l.length).map (λi=>l[i]?.getD 0)=l:=by apply ae0;intro i;by_cases h:i<l.length<;>simp[h]);unfold mG;(conv=>rhs;rw[<-e]);rw[List.flatMap_map]
theorem Ns:Sound Tryz.prog 203 ⟨[.val (.pair (.slice WC) .unit),.val (.slice (.int .i64))],[.val .str],λx=>Dd x.1 x.2⟩:=by intro w args x r S g hT A d B b;obtain⟨v1,r1,rfl,⟨d1,rfl,k1⟩,v2,r2,rfl,⟨d2,rfl,k2⟩,rfl,s⟩:=d;obtain⟨⟨ps,u⟩,l⟩:=x;cases u;change List RA at ps;change List Int at l;have b:Dd (ps,()) l=O r:=b;unfold Dd at b;split at b;rotate_left;{cases b};rename_i hc;obtain⟨c1,c2,c3,c4⟩:=hc;injection b with b;subst b;(have fin:∀args:Array Value,(Calls Tryz.prog 203 args w λe w'=>e=.returned (.string ⟨⟨mG ps l⟩⟩)/\Below w.heap.size w w')->Calls Tryz.prog 203 args w λe w'=>∃(vs:List Value) (S' j t:bu),e=.returned (ur vs)/\iu w w' g/\(∀q,S q->S' q)/\(∀q,S' q->S q\/(w.heap.size<=q/\q<w'.heap.size))/\((∀q,¬j q)/\cV S' w' [.val .str] vs (mG ps l) t)/\(∀q,j q->(g q\/w.heap.size<=q)/\q<w'.heap.size/\¬S' q)/\(∀q,t q->w.heap.size<=q/\q<w'.heap.size/\¬S' q/\¬j q):=λargs hc=>by refine Calls.mono hc ?_;rintro e w' ⟨rfl,k⟩;exact sD A (iu.of_below k g) (y:=mG ps l) (aC c4 (by decide)));obtain⟨K,C,rfl,h1,m⟩:=k1;have m:C=[]:=m;subst m;obtain⟨D,h1⟩:=h1;obtain⟨E,v⟩:=k2;by_cases hl:l=[];{subst hl;have:mG ps []=[]:=rfl;rw[this]at fin;rcases h1 with ⟨rfl,hp⟩|⟨a,cap,rfl,_⟩<;>rcases v with ⟨rfl,_⟩|⟨a2,c,rfl,_⟩<;>exact fin _ (QM w _ _ _)};{(have hp:ps≠[]:=by rintro rfl;obtain⟨i,hi⟩:=List.exists_mem_of_ne_nil l hl;have:=c3 i hi;simp at this;omega);obtain⟨a,cap,rfl,z,k,he⟩:=h1.resolve_left λh=>hp h.2;obtain⟨a2,c,rfl,n,o,p⟩:=v.resolve_left λh=>hl h.2;obtain⟨s1,_,F⟩:=k.resolve_left hp;obtain⟨t1,_,t3⟩:=o.resolve_left hl;obtain⟨G,H,sp⟩:=a;obtain⟨I,lo,sl⟩:=a2;cases s1;cases t1;(have hk:∀i,i<l.length->0<=l[i]?.getD 0/\l[i]?.getD 0<ps.length:=λi hi=>by have:=c3 l[i] (List.getElem_mem hi);simpa[hi]using this);refine fin _ ?_;have:=Vu w I lo l.length c G H ps.length cap (λi=>(l[i]?.getD 0).toNat) (λi=>O5 ps (l[i]?.getD 0)) c1 c2 (λi hi=> ?_) (λi hi=>by have:=hk i hi;omega) (λi hi=> ?_) t3 F (by rw[GQ];exact c4);{rw[GQ]at this;exact this};{obtain⟨J,z1,z2,z3,z4⟩:=p i (l[i]?.getD 0) (by have hg:l[i]? =O l[i]:=aJ hi;rw[hg];exact hg);have:=z2 0 (.int .i64 (l[i]?.getD 0)) (by rw[z3];rfl);have hk:=hk i hi;rw[Int.toNat_of_nonneg hk.1];simpa[Ty.size]using this};{have hk:=hk i hi;(have f:(l[i]?.getD 0).toNat<ps.length:=by omega);obtain⟨J,z1,z2,z3⟩:=he (l[i]?.getD 0).toNat ps[(l[i]?.getD 0).toNat] (aJ f);obtain⟨d1,d2,rfl,⟨rfl,_⟩,_⟩:=z3;have:=z2 0 _ rfl;simpa[Ty.size,O5,f]using this}}
end Sh
namespace IL
open Go Go.RowKit Go.Ab Go.Proofs
theorem und:Tryz.prog.underlying 44=O (.slice 106):=by kernel_rfl
theorem inf:Tryz.prog.info? 106=O Tryz.t106:=by kernel_rfl
theorem RD:Tryz.t106.bytes=24:=by kernel_rfl
theorem Ut:Tryz.t106.size=3:=by kernel_rfl
set_option maxHeartbeats 4000000 in
set_option maxRecDepth 100000 in
theorem QO:SX Tryz.prog 212 44:=by intro w w2 g n cap q c v2 hn hc hn6 hrun;have HR:=Lib.hid hrun;clear hrun;go_enter Tryz.func212,Tryz.ntmps212;go_wp2_with (at_builtin;refine iw rfl _ _ 44 rfl rfl rfl HR.out ?_);(all_goals go_ret);all_goals exact⟨rfl,rfl⟩
set_option maxHeartbeats 4000000 in
set_option maxRecDepth 100000 in
theorem Ji:My Tryz.prog 212 44:=by intro w w2 o q c v2 hrun;have HR:=Lib.hid hrun;clear hrun;go_enter Tryz.func212,Tryz.ntmps212;go_wp2_with (at_builtin;refine iw rfl _ _ 44 rfl rfl rfl HR.out ?_);(all_goals go_ret);all_goals exact⟨rfl,rfl⟩
set_option maxHeartbeats 4000000 in
set_option maxRecDepth 100000 in
theorem QV:RY Tryz.prog 212 106 3:=by intro w g n i q c A Y Z hc hi h hload hgl hql;have H:=Lib.hid h;clear h;go_enter Tryz.func212,Tryz.ntmps212;go_wp2_with (first|(simp only[hload,afE])|fail);{exfalso;rw[RD]at*;omega};{exfalso;rw[RD]at*;omega};{exfalso;rename_i hbad _;rw[RD]at*;have:=growslice_fits (need:=i+(n+1-i)) (old:=n) (bytes:=24) (by omega) (by omega);omega};{exfalso;rename_i hcap;have:=grownCap_ge w (i+(n+1-i)) n 106;unfold grownCap at this;omega};{rename_i hcap;have hge:=grownCap_ge w (i+(n+1-i)) n 106;have hle:=grownCap_le_maxLen w (i+(n+1-i)) n 106 (by unfold maxLen;omega);unfold grownCap at hge hle;generalize (Question.appendCap (i+(n+1-i)) n 106).cut (w.tape w.drawn (Question.appendCap (i+(n+1-i)) n 106))=C at*;rw[show i+(n+1-i)=n+1 by omega]at*;obtain⟨W2,e1,W3,e2,post⟩:=A3 und inf Ut #[.int .i64 0,.int .i64 0,.int .i64 0] rfl H.out hi hge hle hgl hql;have e2:=Lib.hid e2;have post:=Lib.hid post;rw[e1];clear e1 H;simp only[afE];go_wp2_with fail;(have s1:IntKind.i64.wrap ((i:Int)+1)=(i:Int)+1:=by rw[IntKind.wrap_i64];omega);(have s2:0<=(i:Int)+1:=by omega);(have s3:((i:Int)+1).toNat=i+1:=by omega);(have s4:i<=n:=by omega);(have s5:¬(C=i+1):=by omega);(have s6:¬(n=i):=by omega);(have s7:(i:Int)+1<=(n:Int)+1:=by omega);have s8:n<=n:=aB n;go_region_law (refine iz (dv:=.slice (O ⟨w.heap.size,(i+1)*3,U⟩) (n-i) (C-(i+1))) (sv:=.slice (O ⟨g,i*3,U⟩) (n-i) (n-i)) rfl (.tmp 50) (.tmp 53) 44 rfl (by simp[Act.eval,Act.put]) (by simp[Act.eval,Act.put]) (e2.out _ _ _) ?_);go_wp2_with fail;go_ret;exact post.out}
set_option maxHeartbeats 4000000 in
set_option maxRecDepth 100000 in
theorem Qw:Ta Tryz.prog 212 3:=by intro w g n i q c cap te tq cur xc A Y Z hc hn6 hi hn h h2;(have n1:n<=cap:=by omega);(have n2:¬(cap<n+1):=by omega);obtain⟨W1,e1,W2,e2,post⟩:=Aq und inf Ut h hi hn h2;have e1:=Lib.hid e1;have post:=Lib.hid post;(have hov:(callFunc 274 #[.slice (O ⟨q,0,U⟩) 1 c,.slice (O ⟨g,(i+1)*3,U⟩) (n-i) (cap-(i+1))]).run Tryz.prog w=.ok (.value (.bool false)) w:=by rw[run_callFunc_extern Tryz.func274 (by kernel_rfl) (by kernel_rfl) (by kernel_rfl) (e:=Extern.SlicesOverlaps.overlaps #[44,44] #[4]) (by kernel_rfl),uD und inf h2.hx h2.hg h2.hq];rfl);clear h h2;go_enter Tryz.func212,Tryz.ntmps212;go_wp2_with (first|(simp only[hov])|fail);clear hov;(have s1:IntKind.i64.wrap ((i:Int)+1)=(i:Int)+1:=by rw[IntKind.wrap_i64];omega);(have s2:0<=(i:Int)+1:=by omega);(have s3:((i:Int)+1).toNat=i+1:=by omega);(have s4:i<=n:=by omega);(have s5:¬(cap=i+1):=by omega);(have s6:¬(cap=i):=by omega);(have s7:(i:Int)+1<=(n:Int)+1:=by omega);(have s8:(i:Int)<=(n:Int)+1:=by omega);go_region_law (refine iz (dv:=.slice (O ⟨g,(i+1)*3,U⟩) (n-i) (cap-(i+1))) (sv:=.slice (O ⟨g,i*3,U⟩) (n+1-i) (cap-i)) rfl (.tmp 73) (.tmp 76) 44 rfl (by simp[Act.eval,Act.put]) (by simp[Act.eval,Act.put]) (e1.out _ _ _) ?_);clear s1 s2 s3 e1;(have t1:i<=n+1:=by omega);go_wp2_with fail;go_ret;exact post.out
theorem Kg:xz Tryz.prog 212 (.pair (.int .i64) (.pair (.int .i64) (.pair (.int .i64) .unit))):=Dj und (by kernel_rfl) rfl QO Ji QV Qw
end IL
namespace IP
open Go Go.RowKit Go.Ab Go.Proofs
theorem und:Tryz.prog.underlying 36=O (.slice 108):=by kernel_rfl
theorem inf:Tryz.prog.info? 108=O Tryz.t108:=by kernel_rfl
theorem RD:Tryz.t108.bytes=40:=by kernel_rfl
theorem Ut:Tryz.t108.size=2:=by kernel_rfl
set_option maxHeartbeats 4000000 in
set_option maxRecDepth 100000 in
theorem QO:SX Tryz.prog 197 36:=by intro w w2 g n cap q c v2 hn hc hn6 hrun;have HR:=Lib.hid hrun;clear hrun;go_enter Tryz.func197,Tryz.ntmps197;go_wp2_with (at_builtin;refine iw rfl _ _ 36 rfl rfl rfl HR.out ?_);(all_goals go_ret);all_goals exact⟨rfl,rfl⟩
set_option maxHeartbeats 4000000 in
set_option maxRecDepth 100000 in
theorem Ji:My Tryz.prog 197 36:=by intro w w2 o q c v2 hrun;have HR:=Lib.hid hrun;clear hrun;go_enter Tryz.func197,Tryz.ntmps197;go_wp2_with (at_builtin;refine iw rfl _ _ 36 rfl rfl rfl HR.out ?_);(all_goals go_ret);all_goals exact⟨rfl,rfl⟩
set_option maxHeartbeats 4000000 in
set_option maxRecDepth 100000 in
theorem QV:RY Tryz.prog 197 108 2:=by intro w g n i q c A Y Z hc hi h hload hgl hql;have H:=Lib.hid h;clear h;go_enter Tryz.func197,Tryz.ntmps197;go_wp2_with (first|(simp only[hload,afE])|fail);{exfalso;rw[RD]at*;omega};{exfalso;rw[RD]at*;omega};{exfalso;rename_i hbad _;rw[RD]at*;have:=growslice_fits (need:=i+(n+1-i)) (old:=n) (bytes:=40) (by omega) (by omega);omega};{exfalso;rename_i hcap;have:=grownCap_ge w (i+(n+1-i)) n 108;unfold grownCap at this;omega};{rename_i hcap;have hge:=grownCap_ge w (i+(n+1-i)) n 108;have hle:=grownCap_le_maxLen w (i+(n+1-i)) n 108 (by unfold maxLen;omega);unfold grownCap at hge hle;generalize (Question.appendCap (i+(n+1-i)) n 108).cut (w.tape w.drawn (Question.appendCap (i+(n+1-i)) n 108))=C at*;rw[show i+(n+1-i)=n+1 by omega]at*;obtain⟨W2,e1,W3,e2,post⟩:=A3 und inf Ut #[.string {data:= #[]},.slice U 0 0] rfl H.out hi hge hle hgl hql;have e2:=Lib.hid e2;have post:=Lib.hid post;rw[e1];clear e1 H;simp only[afE];go_wp2_with fail;(have s1:IntKind.i64.wrap ((i:Int)+1)=(i:Int)+1:=by rw[IntKind.wrap_i64];omega);(have s2:0<=(i:Int)+1:=by omega);(have s3:((i:Int)+1).toNat=i+1:=by omega);(have s4:i<=n:=by omega);(have s5:¬(C=i+1):=by omega);(have s6:¬(n=i):=by omega);(have s7:(i:Int)+1<=(n:Int)+1:=by omega);have s8:n<=n:=aB n;go_region_law (refine iz (dv:=.slice (O ⟨w.heap.size,(i+1)*2,U⟩) (n-i) (C-(i+1))) (sv:=.slice (O ⟨g,i*2,U⟩) (n-i) (n-i)) rfl (.tmp 50) (.tmp 53) 36 rfl (by simp[Act.eval,Act.put]) (by simp[Act.eval,Act.put]) (e2.out _ _ _) ?_);go_wp2_with fail;go_ret;exact post.out}
set_option maxHeartbeats 4000000 in
set_option maxRecDepth 100000 in
theorem Qw:Ta Tryz.prog 197 2:=by intro w g n i q c cap te tq cur xc A Y Z hc hn6 hi hn h h2;(have n1:n<=cap:=by omega);(have n2:¬(cap<n+1):=by omega);obtain⟨W1,e1,W2,e2,post⟩:=Aq und inf Ut h hi hn h2;have e1:=Lib.hid e1;have post:=Lib.hid post;(have hov:(callFunc 258 #[.slice (O ⟨q,0,U⟩) 1 c,.slice (O ⟨g,(i+1)*2,U⟩) (n-i) (cap-(i+1))]).run Tryz.prog w=.ok (.value (.bool false)) w:=by rw[run_callFunc_extern Tryz.func258 (by kernel_rfl) (by kernel_rfl) (by kernel_rfl) (e:=Extern.SlicesOverlaps.overlaps #[36,36] #[4]) (by kernel_rfl),uD und inf h2.hx h2.hg h2.hq];rfl);clear h h2;go_enter Tryz.func197,Tryz.ntmps197;go_wp2_with (first|(simp only[hov])|fail);clear hov;(have s1:IntKind.i64.wrap ((i:Int)+1)=(i:Int)+1:=by rw[IntKind.wrap_i64];omega);(have s2:0<=(i:Int)+1:=by omega);(have s3:((i:Int)+1).toNat=i+1:=by omega);(have s4:i<=n:=by omega);(have s5:¬(cap=i+1):=by omega);(have s6:¬(cap=i):=by omega);(have s7:(i:Int)+1<=(n:Int)+1:=by omega);(have s8:(i:Int)<=(n:Int)+1:=by omega);go_region_law (refine iz (dv:=.slice (O ⟨g,(i+1)*2,U⟩) (n-i) (cap-(i+1))) (sv:=.slice (O ⟨g,i*2,U⟩) (n+1-i) (cap-i)) rfl (.tmp 73) (.tmp 76) 36 rfl (by simp[Act.eval,Act.put]) (by simp[Act.eval,Act.put]) (e1.out _ _ _) ?_);clear s1 s2 s3 e1;(have t1:i<=n+1:=by omega);go_wp2_with fail;go_ret;exact post.out
theorem Kg:xz Tryz.prog 197 (.pair .str (.pair (.slice (.int .i64)) .unit)):=Dj und (by kernel_rfl) rfl QO Ji QV Qw
end IP
namespace IT
open Go Go.RowKit Go.Ab Go.Proofs
theorem und:Tryz.prog.underlying 31=O (.slice 88):=by kernel_rfl
theorem inf:Tryz.prog.info? 88=O Tryz.t88:=by kernel_rfl
theorem RD:Tryz.t88.bytes=48:=by kernel_rfl
theorem Ut:Tryz.t88.size=4:=by kernel_rfl
set_option maxHeartbeats 4000000 in
set_option maxRecDepth 100000 in
theorem QO:SX Tryz.prog 270 31:=by intro w w2 g n cap q c v2 hn hc hn6 hrun;have HR:=Lib.hid hrun;clear hrun;go_enter Tryz.func270,Tryz.ntmps270;go_wp2_with (at_builtin;refine iw rfl _ _ 31 rfl rfl rfl HR.out ?_);(all_goals go_ret);all_goals exact⟨rfl,rfl⟩
set_option maxHeartbeats 4000000 in
set_option maxRecDepth 100000 in
theorem Ji:My Tryz.prog 270 31:=by intro w w2 o q c v2 hrun;have HR:=Lib.hid hrun;clear hrun;go_enter Tryz.func270,Tryz.ntmps270;go_wp2_with (at_builtin;refine iw rfl _ _ 31 rfl rfl rfl HR.out ?_);(all_goals go_ret);all_goals exact⟨rfl,rfl⟩
set_option maxHeartbeats 4000000 in
set_option maxRecDepth 100000 in
theorem QV:RY Tryz.prog 270 88 4:=by intro w g n i q c A Y Z hc hi h hload hgl hql;have H:=Lib.hid h;clear h;go_enter Tryz.func270,Tryz.ntmps270;go_wp2_with (first|(simp only[hload,afE])|fail);{exfalso;rw[RD]at*;omega};{exfalso;rw[RD]at*;omega};{exfalso;rename_i hbad _;rw[RD]at*;have:=growslice_fits (need:=i+(n+1-i)) (old:=n) (bytes:=48) (by omega) (by omega);omega};{exfalso;rename_i hcap;have:=grownCap_ge w (i+(n+1-i)) n 88;unfold grownCap at this;omega};{rename_i hcap;have hge:=grownCap_ge w (i+(n+1-i)) n 88;have hle:=grownCap_le_maxLen w (i+(n+1-i)) n 88 (by unfold maxLen;omega);unfold grownCap at hge hle;generalize (Question.appendCap (i+(n+1-i)) n 88).cut (w.tape w.drawn (Question.appendCap (i+(n+1-i)) n 88))=C at*;rw[show i+(n+1-i)=n+1 by omega]at*;obtain⟨W2,e1,W3,e2,post⟩:=A3 und inf Ut #[.int .i64 0,.int .i64 0,.slice U 0 0,.int .i64 0] rfl H.out hi hge hle hgl hql;have e2:=Lib.hid e2;have post:=Lib.hid post;rw[e1];clear e1 H;simp only[afE];go_wp2_with fail;(have s1:IntKind.i64.wrap ((i:Int)+1)=(i:Int)+1:=by rw[IntKind.wrap_i64];omega);(have s2:0<=(i:Int)+1:=by omega);(have s3:((i:Int)+1).toNat=i+1:=by omega);(have s4:i<=n:=by omega);(have s5:¬(C=i+1):=by omega);(have s6:¬(n=i):=by omega);(have s7:(i:Int)+1<=(n:Int)+1:=by omega);have s8:n<=n:=aB n;go_region_law (refine iz (dv:=.slice (O ⟨w.heap.size,(i+1)*4,U⟩) (n-i) (C-(i+1))) (sv:=.slice (O ⟨g,i*4,U⟩) (n-i) (n-i)) rfl (.tmp 50) (.tmp 53) 31 rfl (by simp[Act.eval,Act.put]) (by simp[Act.eval,Act.put]) (e2.out _ _ _) ?_);go_wp2_with fail;go_ret;exact post.out}
set_option maxHeartbeats 4000000 in
set_option maxRecDepth 100000 in
theorem Qw:Ta Tryz.prog 270 4:=by intro w g n i q c cap te tq cur xc A Y Z hc hn6 hi hn h h2;(have n1:n<=cap:=by omega);(have n2:¬(cap<n+1):=by omega);obtain⟨W1,e1,W2,e2,post⟩:=Aq und inf Ut h hi hn h2;have e1:=Lib.hid e1;have post:=Lib.hid post;(have hov:(callFunc 309 #[.slice (O ⟨q,0,U⟩) 1 c,.slice (O ⟨g,(i+1)*4,U⟩) (n-i) (cap-(i+1))]).run Tryz.prog w=.ok (.value (.bool false)) w:=by rw[run_callFunc_extern Tryz.func309 (by kernel_rfl) (by kernel_rfl) (by kernel_rfl) (e:=Extern.SlicesOverlaps.overlaps #[31,31] #[4]) (by kernel_rfl),uD und inf h2.hx h2.hg h2.hq];rfl);clear h h2;go_enter Tryz.func270,Tryz.ntmps270;go_wp2_with (first|(simp only[hov])|fail);clear hov;(have s1:IntKind.i64.wrap ((i:Int)+1)=(i:Int)+1:=by rw[IntKind.wrap_i64];omega);(have s2:0<=(i:Int)+1:=by omega);(have s3:((i:Int)+1).toNat=i+1:=by omega);(have s4:i<=n:=by omega);(have s5:¬(cap=i+1):=by omega);(have s6:¬(cap=i):=by omega);(have s7:(i:Int)+1<=(n:Int)+1:=by omega);(have s8:(i:Int)<=(n:Int)+1:=by omega);go_region_law (refine iz (dv:=.slice (O ⟨g,(i+1)*4,U⟩) (n-i) (cap-(i+1))) (sv:=.slice (O ⟨g,i*4,U⟩) (n+1-i) (cap-i)) rfl (.tmp 73) (.tmp 76) 31 rfl (by simp[Act.eval,Act.put]) (by simp[Act.eval,Act.put]) (e1.out _ _ _) ?_);clear s1 s2 s3 e1;(have t1:i<=n+1:=by omega);go_wp2_with fail;go_ret;exact post.out
theorem Kg:xz Tryz.prog 270 (.pair (.int .i64) (.pair (.int .i64) (.pair (.slice (.int .i64)) (.pair (.int .i64) .unit)))):=Dj und (by kernel_rfl) rfl QO Ji QV Qw
end IT
