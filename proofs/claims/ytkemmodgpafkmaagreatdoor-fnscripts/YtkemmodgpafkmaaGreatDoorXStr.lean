/-
  The arguments of a given statement, read as data.
-/
import Derived.Test.YtkemmodgpafkmaaGreatDoorXFun
import Derived.Deep.Slices
import Derived.ChangeSame
import Derived.ChangeStays
import Derived.ProofKit
import Derived.OpenShut
import Derived.Test.YtkemmodgpafkmaaGreatDoorXOps
import Derived.Test.YtkemmodgpafkmaaGreatDoorXGrow
import Derived.Laws.AppendOwn
import Derived.Laws.CopyOwn
import Derived.Laws.Cells
import Derived.SizedLaws
import Derived.Lib.SplitLaws
import Derived.Sort.Grow
import Derived.Lib.ItoaLen
import Derived.Lib.LaidTab
import Derived.Lib.Join
import Derived.Lay
import Derived.Deep.DeepHandedRow
import Derived.Shelf.Vars
import Derived.Lib.LaidU8
import Derived.MakeChecks
import Derived.Sort.Row
import Derived.Shelf.GgSortFunc.RowK
open Array renaming ext->agy,getElem?_append_left->afZ,getElem?_eq_some_iff->af0,size_append->agz
open Bool renaming false_eq_true->aen
open Decidable renaming decide->ae
open Int renaming tdiv->agA,tmod->agB,toNat->agC
open List renaming all_eq_true->aga,append_assoc->aev,append_nil->aew,drop_drop->aex,drop_left->aez,drop_zero->aeB,getElem?_append_left->aeH,getElem?_cons_zero->aeI,getElem?_drop->aeJ,getElem?_eq_none->agi,getElem?_eq_some_iff->aeK,getElem?_map->aeL,getElem?_take_of_lt->afs,getElem_of_mem->aeN,isPrefixOf->agD,length->aeP,length_cons->aeQ,length_drop->aft,length_map->agE,length_nil->aeR,length_range->agF,length_singleton->agG,length_take->afw,map_cons->aeS,map_map->afy,mem_cons->aeT,range->agH,replicate->aeU,size_toArray->agI,sum_cons->agJ,take->agK,take_append_drop->aeV,take_append_of_le_length->agL,take_left->aeW,take_of_length_le->agM,take_succ_cons->agN
open Nat renaming add_comm->aeZ,add_mul->ae0,add_zero->ae1,beq->ae2,blt->ae4,le_of_eq->agO,lt_irrefl->agP,lt_of_succ_le->agr,min_eq_left->ae7,mod_lt->agQ,mul_comm->agR,mul_le_mul_right->ae8,mul_one->agS,one_mul->ae9,pow_succ->agT,sub_mul->agU,succ_le_of_lt->agV,succ_mul->agW,zero_add->afb,zero_le->afc,zero_mul->afV
open Option renaming isSome_none->afe,map_some->aff,none->U,some->O
open Go.Result renaming andThen->agX
namespace Go.Ab
open Go Go.RowKit
def mX(P:Program)(c:TypeId->Ty->Bool):List Field->Ty->Nat->Bool
 |[],.unit,_=>true
 |f::r,.pair a b,off=>ae2 f.offset off&&ae2 (P.cellsOf f.type) a.size&&c f.type a&&mX P c r b (off+a.size)
 |_,_,_=>false
def lL(P:Program):Nat->TypeId->Ty->Bool
 |0,_,_=>false
 | n+1,t,u=>match P.underlying t,u with
   | some .bool,.bool=>true
   | some (.int k),.int a=>ae (k=a)
   | some .string,.str=>true
   | some (.slice te),.slice e=>(ae2 (P.cellsOf te) e.size&&ae4 0 e.size)&&lL P n te e
   | some (.struct fs),u=>u.isAgg&&ae2 (P.cellsOf t) u.size&&mX P (lL P n) fs.toList u 0
   | _,_=>false
section
variable {H:Type} {enc:TypeId×Value->H} {P:Program} {W:World} {base:Nat} {spare:Nat->Bool} {held:Bool}
def bulk:(t:Ty)->t.den->Nat
 |.unit,_=>0
 |.bool,_=>1
 |.int _,_=>1
 |.str,x=>x.length+1
 |.raw,_=>1
 |.slice t,xs=>(xs.map (bulk t)).sum+1
 |.pair a b,x=>bulk a x.1+bulk b x.2
structure IU {H:Type} (bk:DataW H->Nat):Prop where
  lit:∀l,1<=bk (.lit l)
  str:∀b:List UInt8,b.length+1<=bk (.lit (.string b))
  nil:1<=bk .nil
  slice:∀e r,(e.map bk).sum+1<=bk (.slice e r)
  agg:∀e,(e.map bk).sum<=bk (.agg e)
abbrev Old(W:World):bu:=λq=>q<W.heap.size
theorem O2{α β:Type}(f:α->Nat)(g:β->Nat):∀(xs:List α) (ys:List β),xs.length=ys.length->(∀(i:Nat) (x:α) (y:β),xs[i]? =O x->ys[i]? =O y->f x<=g y)->(xs.map f).sum<=(ys.map g).sum
 |[],_,_,_=>afc _
 |_::_,[],h,_=>by cases h
 |x::xs,y::ys,h,k=>by have h1:=k 0 x y rfl rfl;have b:=O2 f g xs ys (by simpa using h) λi x y hx a=>k (i+1) x y (by simpa using hx) (by simpa using a);simp only[aeS,agJ];omega
theorem Bv{bk:DataW H->Nat}{n fuel:Nat}(j:∀(u:Ty) (t:TypeId) (cs:List Value) (x:DataW H×List MemPlace),lL P n t u=true->DataW.trod enc P W base spare held fuel t cs=O x->∃y:u.den,eY (Old W) W u cs y/\bulk u y<=bk x.1):∀(fs:List Field) (u:Ty) (off:Nat) (cs:List Value) (xs:List (DataW H×List MemPlace)),mX P (lL P n) fs u off=true->cs.length=off+u.size->xs.length=fs.length->(∀(i:Nat) (f:Field) (x:DataW H×List MemPlace),fs[i]? =O f->xs[i]? =O x->DataW.trod enc P W base spare held fuel f.type ((cs.drop f.offset).take (P.cellsOf f.type))=O x)->∃y:u.den,eY (Old W) W u (cs.drop off) y/\bulk u y<=((xs.map (·.1)).map bk).sum
 |[],.unit,off,cs,_,_,hl,_,_=>⟨(),by simp[eY];simp[Ty.size]at hl;omega,afc _⟩
 |f::fs,.pair a b,off,cs,[],h,hl,hn,hx=>by cases hn
 |f::fs,.pair a b,off,cs,x::xs,h,hl,hn,hx=>by simp only[mX,ak]at h;obtain⟨⟨⟨h1,d⟩,k⟩,l⟩:=h;have h1:=ax h1;have d:=ax d;have hs:(Ty.pair a b).size=a.size+b.size:=rfl;have c:=hx 0 f x rfl rfl;rw[h1,d]at c;obtain⟨y,m,o⟩:=j a f.type _ x k c;obtain⟨z,p,q⟩:=Bv j fs b (off+a.size) cs xs l (by omega) (by simpa using hn) λi g x hg e=>hx (i+1) g x (by simpa using hg) (by simpa using e);refine⟨(y,z),⟨(cs.drop off).take a.size,cs.drop (off+a.size),?_,m,p⟩,?_⟩;{rw[<-aex,aeV]};{simp only[bulk,aeS,agJ];omega}
 |[],.bool,_,_,_,h,_,_,_=>by cases h
 |[],.int _,_,_,_,h,_,_,_=>by cases h
 |[],.str,_,_,_,h,_,_,_=>by cases h
 |[],.raw,_,_,_,h,_,_,_=>by cases h
 |[],.slice _,_,_,_,h,_,_,_=>by cases h
 |[],.pair _ _,_,_,_,h,_,_,_=>by cases h
 |_::_,.unit,_,_,_,h,_,_,_=>by cases h
 |_::_,.bool,_,_,_,h,_,_,_=>by cases h
 |_::_,.int _,_,_,_,h,_,_,_=>by cases h
 |_::_,.str,_,_,_,h,_,_,_=>by cases h
 |_::_,.raw,_,_,_,h,_,_,_=>by cases h
 |_::_,.slice _,_,_,_,h,_,_,_=>by cases h
theorem G8[Tabs]{bk:DataW H->Nat}(q:IU bk):∀(n:Nat) {fuel:Nat} (u:Ty) (t:TypeId) (cs:List Value) (x:DataW H×List MemPlace),lL P n t u=true->DataW.trod enc P W base spare held fuel t cs=O x->∃y:u.den,eY (Old W) W u cs y/\bulk u y<=bk x.1
 |0,_,_,_,_,_,h,_=>by cases h
 |n+1,fuel,u,t,cs,x,h,hx=>by unfold lL at h;split at h;{rename_i hu;obtain⟨b,rfl,rfl⟩:=DataW.trod_bool hu hx;exact⟨b,rfl,q.lit _⟩};{rename_i k S hu;have hk:=of_decide_eq_true h;subst hk;obtain⟨v,rfl,rfl,hw⟩:=DataW.trod_int hu hx;exact⟨v,⟨rfl,hw⟩,q.lit _⟩};{rename_i hu;obtain⟨b,rfl,rfl,hl⟩:=DataW.trod_string hu hx;exact⟨b.data.toList,⟨rfl,by rw[az];exact hl⟩,q.str _⟩};{rename_i te e hu;simp only[ak]at h;have hs:=ax h.1.1;have F:0<e.size:=agr (by simpa[ae4]using h.1.2);rcases DataW.trod_slice hu hx with ⟨rfl,rfl⟩|⟨a,len,cap,c,rest,m,_,rfl,rfl,I,hl,hc,E,s,_,_⟩;{exact⟨[],⟨by simp,.inl ⟨rfl,rfl⟩⟩,q.nil⟩};{(have each:∀i,i<len->∃d,W.cells? base (a.add (i*P.cellsOf te)) (P.cellsOf te)=O d/\∃y,eY (Old W) W e d y/\∀x,c[i]? =O x->bulk e y<=bk x.1:=λi hi=>by have:=s i hi;(have B:i<c.length:=by omega);rw[aJ B,ay]at this;obtain⟨d,h1,r⟩:=this;obtain⟨y,J,K⟩:=G8 q n e te d _ h.2 r;exact⟨d,h1,y,J,λx hx=>by rw[aJ B]at hx;cases hx;exact K⟩);(obtain⟨xs,w,z⟩:=Hp (p:=λi y=>∃d,W.cells? base (a.add (i*P.cellsOf te)) (P.cellsOf te)=O d/\eY (Old W) W e d y/\∀x,c[i]? =O x->bulk e y<=bk x.1) len λi hi=>by obtain⟨d,h1,y,r⟩:=each i hi;exact⟨y,d,h1,r⟩);subst w;(have C:xs=[]\/(a.spot=U/\Old W a.block/\a.block<W.heap.size):=by cases xs with|nil=>exact .inl rfl|cons L xs=>right;obtain⟨d,h1,r,_⟩:=z 0 L rfl;obtain⟨_,k2,k3⟩:=World.cells?_some h1;have g:=k3 0 (by omega);have M:∃v,d[0]? =O v:=⟨d[0]'(by omega),by simp⟩;obtain⟨v,N⟩:=M;rw[N]at g;unfold World.cell? at g;split at g;{rename_i c' T V D;split at g;{cases g};{rename_i l;refine⟨by simpa[Addr.add]using l,?_,?_⟩;{exact lt_of_heap (by simpa[Addr.add]using D)};{exact lt_of_heap (by simpa[Addr.add]using D)}}};{cases g});(have A:((xs.map (bulk e))).sum<=((c.map (·.1)).map bk).sum:=by rw[afy];exact O2 _ _ xs c E.symm λi y x Q hx=>(z i y Q).choose_spec.2.2 x hx);refine⟨xs,⟨aC hl hc,.inr ⟨a,cap,rfl,⟨hl,hc⟩,C,λi y hi=> ?_⟩⟩,aC (Nat.succ_le_succ A) (q.slice _ _)⟩;obtain⟨d,h1,r,_⟩:=z i y hi;obtain⟨_,k2,k3⟩:=World.cells?_some h1;refine⟨d,by rw[k2,hs],λj v G=> ?_,r⟩;have R:=(aeK.1 G).1;have g:=(k3 j (by omega)).trans G;(obtain⟨l,_⟩:=C.resolve_left λh=>by rw[h]at hi;simp at hi);obtain⟨b,o,sp⟩:=a;simp only at l;subst l;rw[eN,eN,hs]at g;exact g}};{rename_i X Y fs hu;simp only[ak]at h;obtain⟨xs,m,rfl,rfl,hl,w,s⟩:=DataW.trod_struct hu hx;have hs:=ax h.1.2;(obtain⟨y,h1,r⟩:=Bv (enc:=enc) (base:=base) (spare:=spare) (held:=held) (n:=n) (fuel:=m) (bk:=bk) (λu t cs x h hx=>G8 q n u t cs x h hx) fs.toList _ 0 cs xs h.2 (by omega) (by simpa using w) λi f x hf hx=>by have:=s i f (by simpa using hf);rw[hx]at this;exact this);exact⟨y,by simpa using h1,aC r (q.agg _)⟩};{cases h}
theorem NT{r:Reach}{b n:Nat}{t:TypeId}{u:Ty}{v:Value}(h:lL P n t u=true)(a:Value.okWide P W r b t v):v=mN u.isAgg v.cells.toList:=by cases n with|zero=>cases h|succ n=>unfold lL at h;split at h;{rename_i hu;unfold Value.okWide at a;simp only[hu]at a;unfold Cell.okWide at a;cases v<;>simp[Cell.ok,hu]at a<;>rfl};{rename_i hu;unfold Value.okWide at a;simp only[hu]at a;unfold Cell.okWide at a;cases v<;>simp[Cell.ok,hu]at a<;>rfl};{rename_i hu;unfold Value.okWide at a;simp only[hu]at a;unfold Cell.okWide at a;cases v<;>simp[Cell.ok,hu]at a<;>rfl};{rename_i hu;unfold Value.okWide at a;simp only[hu]at a;unfold Cell.okWide at a;cases v<;>simp[Cell.ok,hu]at a<;>rfl};{rename_i hu;unfold Value.okWide at a;simp only[hu]at a;simp only[ak]at h;obtain⟨cs,rfl,_⟩:=a;rw[h.1.1];rfl};{cases h}
def tB(P:Program)(n:Nat):List TypeId->List PK->Bool
 |[],[]=>true
 |t::ts,.val u::ps=>lL P n t u&&tB P n ts ps
 |_,_=>false
def zK:(ps:List PK)->bS (PK.dw ps)->Nat
 |[],_=>0
 |.val t::ps,x=>bulk t (headD x)+zK ps (tailD x)
 |.own t::ps,x=>bulk t (headD x)+zK ps (tailD x)
 |.rp _::ps,x=>zK ps (tailD x)
 |.fn _ _::ps,x=>zK ps (tailD x)
 |.dt t::ps,x=>bulk t (headD x)+zK ps (tailD x)
 |.cK t::ps,x=>bulk t (headD x)+zK ps (tailD x)
theorem Az[Tabs]{bk:DataW H->Nat}(f:IU bk){r:Reach}{i n:Nat}:∀{ts:List TypeId} {ps:List PK} {vs:List Value} {a:List (DataW H)} {p:List MemPlace},tB P n ts ps=true->DataW.TrodAll enc P W base spare held ts vs a p->(∀(j:Nat) (t:TypeId) (v:Value),ts[j]? =O t->vs[j]? =O v->Value.okWide P W r i t v)->∃x,cN (Old W) W ps vs x (λ_=>False)/\zK ps x<=(a.map bk).sum
 |[],[],[],_,_,_,_,_=>⟨(),⟨rfl,λ_ h=>h⟩,afc _⟩
 |[],[],_::_,[],_,_,h,_=>h.elim
 |[],[],_::_,_::_,_,_,h,_=>h.elim
 |t::ts,.val u::ps,vs,a,p,b,h,g=>by simp only[tB,ak]at b;match vs,a,h with|v::vs,d::a,h=>obtain⟨o,q,⟨fuel,h1⟩,k,_⟩:=h;obtain⟨y,l,c⟩:=G8 f n u t _ _ b.1 h1;obtain⟨z,m,s⟩:=Az f b.2 k λj t v ht e=>g (j+1) t v (by simpa using ht) (by simpa using e);refine⟨dC y z,⟨v,vs,rfl,⟨v.cells.toList,NT b.1 (g 0 t v rfl rfl),?_⟩,?_⟩,?_⟩;{rw[bK];exact l};{rw[bO];exact m};{simp only[zK,bK,bO,aeS,agJ];simp only at c;omega}
end
end Go.Ab
namespace Go.Ab
open Go Go.RowKit Go.ChangeShapes Go.WideShapes
def good:(t:Ty)->t.den->Prop
 |.unit,_=>True
 |.bool,_=>True
 |.int k,x=>CC k x
 |.str,x=>x.length<=maxLen
 |.raw,_=>True
 |.slice t,xs=>xs.length<=maxLen/\∀x∈xs,good t x
 |.pair a b,x=>good a x.1/\good b x.2
def qm:(ps:List PK)->bS (PK.dw ps)->Prop
 |[],_=>True
 |.val t::ps,x=>good t (headD x)/\qm ps (tailD x)
 |.own t::ps,x=>good t (headD x)/\qm ps (tailD x)
 |.dt t::ps,x=>good t (headD x)/\qm ps (tailD x)
 |.cK t::ps,x=>good t (headD x)/\qm ps (tailD x)
 |.rp _::ps,x=>qm ps (tailD x)
 |.fn _ _::ps,x=>qm ps (tailD x)
theorem eY.good{S:bu}{w:World}:{t:Ty}->{cs:List Value}->{x:t.den}->eY S w t cs x->good t x
 |.unit,_,_,_=>trivial
 |.bool,_,_,_=>trivial
 |.int _,_,_,h=>h.2
 |.str,_,_,h=>h.2
 |.raw,_,_,_=>trivial
 |.slice _,_,x,h=>by obtain⟨hl,h⟩:=h;refine⟨hl,λy a=> ?_⟩;rcases h with ⟨_,rfl⟩|⟨_,_,_,_,_,h⟩;{cases a};{obtain⟨i,hi,rfl⟩:=aeN a;obtain⟨c,_,_,r⟩:=h i x[i] (by simp[hi]);exact r.good}
 |.pair _ _,_,_,h=>by obtain⟨_,_,_,h1,b⟩:=h;exact⟨h1.good,b.good⟩
theorem cN.qm[Tabs]{S:bu}{w:World}:∀{ps:List PK} {vs:List Value} {x:bS (PK.dw ps)} {F:bu},ct ps=true->cN S w ps vs x F->qm ps x
 |[],_,_,_,_,_=>trivial
 |.val t::ps,vs,x,F,a,h=>by obtain⟨v,r,rfl,⟨c,_,h1⟩,b⟩:=h;exact⟨h1.good,cN.qm (ps:=ps) a b⟩
 |.rp t::ps,vs,x,F,a,h=>by obtain⟨v,r,rfl,_,b⟩:=h;exact cN.qm (ps:=ps) a b
 |.fn g ts::ps,vs,x,F,a,h=>by obtain⟨cs,r,rfl,_,b⟩:=h;exact cN.qm (ps:=ps) a b
 |.own t::ps,_,_,_,a,_=>by cases a
 |.dt t::ps,_,_,_,a,_=>by cases a
 |.cK t::ps,_,_,_,a,_=>by cases a
theorem Hv{P:Program}{l:List (Nat×Ty)}(h:l.all (λp=>dB P p.1 p.2)=true):∀p∈l,dB P p.1 p.2=true:=aga.1 h
theorem kQ[Tabs]{P:Program}:yV P [] [] [] [] []:=⟨(λ_ h=>nomatch h),(λ_ h=>nomatch h),(λ_ h=>nomatch h),(λ_ h=>nomatch h),(λ_ h=>nomatch h)⟩
theorem CE[Tabs]{P:Program}{f:Nat}{t:Ty}{l:List (Nat×Ty)}{d:List (Nat×uN)}{z:List (Nat×sP)}{q:List (Nat×Ty)}(h:xz P f t)(k:lK P f){a:List (Nat×MK)}(r:yV P l d z q a):yV P ((f,t)::l) d z q a:=⟨(λp hp=>by
  rcases aeT.1 hp with rfl|hp
  ·exact⟨h,k⟩
  ·exact r.1 p hp),r.2⟩
theorem PO[Tabs]{P:Program}{f:Nat}{D:uN}{l:List (Nat×Ty)}{d:List (Nat×uN)}{z:List (Nat×sP)}{q:List (Nat×Ty)}(h:Jk P f D)(k:lK P f){a:List (Nat×MK)}(r:yV P l d z q a):yV P l ((f,D)::d) z q a:=⟨r.1,(λp hp=>by
  rcases aeT.1 hp with rfl|hp
  ·exact⟨h,k⟩
  ·exact r.2.1 p hp),r.2.2⟩
theorem Ep[Tabs]{P:Program}{f:Nat}{D:sP}{l:List (Nat×Ty)}{d:List (Nat×uN)}{z:List (Nat×sP)}{q:List (Nat×Ty)}(h:MT P f D)(k:lK P f){a:List (Nat×MK)}(r:yV P l d z q a):yV P l d ((f,D)::z) q a:=⟨r.1,r.2.1,(λp hp=>by
  rcases aeT.1 hp with rfl|hp
  ·exact⟨h,k⟩
  ·exact r.2.2.1 p hp),r.2.2.2⟩
theorem SQ[Tabs]{P:Program}{q:List (Nat×Ty)}{l:List (Nat×Ty)}{d:List (Nat×uN)}{z:List (Nat×sP)}(h:q.all (λp=>Nr P p.1 p.2)=true){a:List (Nat×MK)}(r:yV P l d z [] a):yV P l d z q a:=⟨r.1,r.2.1,r.2.2.1,aga.1 h,r.2.2.2.2⟩
theorem NP[Tabs]{P:Program}{f:Nat}{D:MK}{l:List (Nat×Ty)}{d:List (Nat×uN)}{z:List (Nat×sP)}{q:List (Nat×Ty)}(h:Xs P f D)(k:lK P f){a:List (Nat×MK)}(r:yV P l d z q a):yV P l d z q ((f,D)::a):=⟨r.1,r.2.1,r.2.2.1,r.2.2.2.1,(λp hp=>by
  rcases aeT.1 hp with rfl|hp
  ·exact⟨h,k⟩
  ·exact r.2.2.2.2 p hp)⟩
theorem I3[Tabs]{P:Program}:∀p∈([]:List (Nat×aR)),Sound P p.1 p.2/\lK P p.1:=λ_ h=>by cases h
theorem O0[Tabs]{P:Program}{f:Nat}{C:aR}{l:List (Nat×aR)}(h:Sound P f C)(k:lK P f)(r:∀p∈l,Sound P p.1 p.2/\lK P p.1):∀p∈(f,C)::l,Sound P p.1 p.2/\lK P p.1:=λp hp=>by
  rcases aeT.1 hp with rfl|hp
  ·exact⟨h,k⟩
  ·exact r p hp
noncomputable def LW{α:Type}(f:Nat->Option α):Option α:=by
  classical
  exact if h:∃k,(f k).isSome=true then f (Classical.choose h)else U
theorem ND{α:Type}{f:Nat->Option α}{r:α}(h:LW f=O r):∃k,f k=O r:=by unfold LW at h;split at h;{exact⟨_,h⟩};{cases h}
theorem Tu{α:Type}{f:Nat->Option α}{r:α}(h:∃k,f k=O r)(u:∀k a,f k=O a->a=r):LW f=O r:=by unfold LW;(have hx:∃k,(f k).isSome=true:=h.imp λk e=>by rw[e];rfl);rw[dif_pos hx];obtain⟨a,e⟩:=Option.isSome_iff_exists.1 (Classical.choose_spec hx);rw[e,u _ _ e]
theorem Ow[Tabs]{P:Program}{f:FuncId}{ps:List PK}{rs:List RK}{g:Nat->bS (PK.dw ps)->Option (bS (PK.dY ps (RK.dw rs)))}(h:∀k,Sound P f ⟨ps,rs,g k⟩):Sound P f ⟨ps,rs,λx=>LW λk=>g k x⟩:=
  λw args x r S a hT b ha c d=>let ⟨k,hk⟩:=ND d;h k w args x r S a hT b ha c hk
def Deep(P:Program)(t:TypeId):Prop:=∃n u,lL P n t u=true
section
variable {H:Type} {enc:TypeId×Value->H} {P:Program}
theorem uV{n:Nat}:∀{fs:List Field} {u:Ty} {off:Nat},mX P (lL P n) fs u off=true->(∀f∈fs,Deep P f.type)/\u.size=(fs.map λf=>P.cellsOf f.type).sum/\∀(j:Nat) (f:Field),fs[j]? =O f->f.offset=off+((fs.take j).map λf=>P.cellsOf f.type).sum
 |[],.unit,_,_=>⟨(λ_ h=>by cases h),rfl,(λ_ _ h=>by simp at h)⟩
 |f::fs,.pair a b,off,h=>by simp only[mX,ak]at h;obtain⟨⟨⟨h1,d⟩,e⟩,i⟩:=h;have h1:=ax h1;have d:=ax d;obtain⟨k1,k2,k3⟩:=uV i;refine⟨λg hg=> ?_,?_,λj g c=> ?_⟩;{rcases aeT.1 hg with rfl|hg;{exact⟨n,a,e⟩};{exact k1 g hg}};{simp only[Ty.size,aeS,agJ];omega};{cases j with|zero=>simp at c;subst c;simp[h1]|succ j=>have:=k3 j g (by simpa using c);rw[this];simp only[agN,aeS,agJ];omega}
 |[],.bool,_,h=>by cases h
 |[],.int _,_,h=>by cases h
 |[],.str,_,h=>by cases h
 |[],.raw,_,h=>by cases h
 |[],.slice _,_,h=>by cases h
 |[],.pair _ _,_,h=>by cases h
 |_::_,.unit,_,h=>by cases h
 |_::_,.bool,_,h=>by cases h
 |_::_,.int _,_,h=>by cases h
 |_::_,.str,_,h=>by cases h
 |_::_,.raw,_,h=>by cases h
 |_::_,.slice _,_,h=>by cases h
theorem CW{t e:TypeId}(h:Deep P t)(hu:P.underlying t=O (.slice e)):Deep P e/\0<P.cellsOf e:=by obtain⟨n,u,h⟩:=h;cases n with|zero=>cases h|succ n=>unfold lL at h;rw[hu]at h;cases u with|slice u=>simp only[ak]at h;have:=ax h.1.1;have a:0<u.size:=agr (by simpa[ae4]using h.1.2);exact⟨⟨n,u,h.2⟩,by omega⟩|_=>cases h
theorem JV[Tabs]{t:TypeId}{fs:Array Field}(h:Deep P t)(hu:P.underlying t=O (.struct fs)):(∀f∈fs.toList,Deep P f.type)/\P.cellsOf t=(fs.toList.map λf=>P.cellsOf f.type).sum/\∀(j:Nat) f,fs.toList[j]? =O f->f.offset=((fs.toList.take j).map λf=>P.cellsOf f.type).sum:=by obtain⟨n,u,h⟩:=h;cases n with|zero=>cases h|succ n=>unfold lL at h;rw[hu]at h;simp only[ak]at h;have hs:=ax h.1.2;obtain⟨k1,k2,k3⟩:=uV h.2;exact⟨k1,by omega,λj f a=>by have:=k3 j f a;omega⟩
theorem ES{t:TypeId}(h:Deep P t):(∀e,P.underlying t≠O (.pointer e))/\(∀e n,P.underlying t≠O (.array n e))/\(∀k e,P.underlying t≠O (.map k e)):=by obtain⟨n,u,h⟩:=h;cases n with|zero=>cases h|succ n=>unfold lL at h;refine⟨λe hu=> ?_,λe n hu=> ?_,λk e hu=> ?_⟩<;>rw[hu]at h<;>cases u<;>cases h
theorem Nc[Tabs]:Kids P (Deep P):=⟨λh hu=>absurd hu ((ES h).1 _),λh hu=>(CW h hu).1,λh hu=>absurd hu ((ES h).2.1 _ _),λh hu=>JV h hu,λh hu=>absurd hu ((ES h).2.2 _ _)⟩
theorem tj{n:Nat}:∀{ts:List TypeId} {ps:List PK},tB P n ts ps=true->∀t∈ts,Deep P t
 |[],[],_,_,h=>by cases h
 |t::ts,.val u::ps,h,x,hx=>by simp only[tB,ak]at h;rcases aeT.1 hx with rfl|hx;{exact⟨n,u,h.1⟩};{exact tj h.2 x hx}
theorem rO[Tabs]{w w':World}{base:Nat}{a:Nat->Bool}:∀{ts:List TypeId} {vs:List Value} {b:List (DataW H)} {ps:List MemPlace},(∀t∈ts,Deep P t)->DataW.TrodAll enc P w base (λ_=>true) true ts vs b ps->(∀p∈ps,w.sameAt w' p)->(∀p∈ps,a p.block=true)->DataW.TrodAll enc P w' base a true ts vs b ps
 |[],_,_,_,_,h,_,_=>by obtain⟨rfl,rfl,rfl⟩:=trodAll_nil h;exact trodAll_mk0
 |t::ts,vs,b,ps,hT,h,h1,c=>by obtain⟨v,vs,d,b,p,q,rfl,rfl,rfl,⟨n,e⟩,f⟩:=trodAll_cons h;refine⟨p,q,⟨n,?_⟩,rO (λt ht=>hT t (aL _ ht)) f (λx hx=>h1 x (by simp[hx])) (λx hx=>c x (by simp[hx])),rfl⟩;exact DataW.trod_stays Nc (λh hu=>(CW h hu).2) (λh=>by cases h) (hT t (by simp)) e (λx hx=>h1 x (by simp[hx])) (λx hx=>c x (by simp[hx]))
theorem pT{w:World}{base:Nat}{sp:Nat->Bool}{held:Bool}:∀{ts:List TypeId} {vs:List Value} {a:List (DataW H)} {ps:List MemPlace},DataW.TrodAll enc P w base sp held ts vs a ps->a.length=ts.length
 |[],_,_,_,h=>by obtain⟨rfl,rfl,rfl⟩:=trodAll_nil h;rfl
 |t::ts,_,_,_,h=>by obtain⟨v,vs,d,a,p,q,rfl,rfl,rfl,_,b⟩:=trodAll_cons h;simp[pT b]
theorem xE{w w':World}{p:MemPlace}(h:w'.heap[p.block]? =w.heap[p.block]?):w.sameAt w' p:=by cases p with|cell b o=>exact World.cell?_of_block (w:=w) (w':=w') h|map b=>exact h
theorem yC{w w':World}(p:iu w w' (λ_=>False))(may:MemPlace->Prop):w.keptBut w' may:=by refine⟨p.os,p.output,λi hi=> ?_⟩;rw[p.block i hi (λh=>h)];cases w.heap[i]? with|none=>trivial|some o=>cases o<;>simp
theorem sL{f:Func}{s:ChangeSpec}{apart fresh handsOn again:Bool}{W h:World}{args:Array Value}{v:Value}{i gs:List (DataW H)}{before pa pv:List MemPlace}(k:DataW.Whole enc P f.params.toList s.vars apart W args.toList i gs before)(g:∀(b:Nat) (sp:Nat->Bool) (q:Bool),DataW.TrodAll enc P h b sp q f.resultTypes.toList (v.resultList f.resultTypes.size) (s.fn H (i++gs)).results [])(c:∀sp:Nat->Bool,(∀p∈before,sp p.block=true)->DataW.TrodAll enc P h 0 sp true f.params.toList args.toList (s.fn H (i++gs)).args pa)(d:∀sp:Nat->Bool,(∀p∈before,sp p.block=true)->DataW.TrodVars enc P h sp s.vars (s.fn H (i++gs)).vars pv)(e:before=pa++pv)(hk:W.keptBut h (· ∈before))(l:∀a:Addr,a.block<W.heap.size->h.frozen? a=W.frozen? a)(m:∀(j:Nat) (t:TypeId) (r:Value),f.resultTypes[j]? =O t->(v.resultList f.resultTypes.size)[j]? =O r->Value.okWide P h .any 0 t r):s.post enc P f apart fresh handsOn again W args v h:=by(have hold:∀p∈before,(λb=>ae (b<W.heap.size)) p.block=true:=λp hp=>by simpa using k.lt p hp);have n:=k.lt;refine⟨i,gs,before,[],pa,pv,k,g _ _ _,c _ hold,d _ hold,World.keptBut_mono (λp hp=>⟨hp,?_⟩) hk,λ_=> ?_⟩;{rw[e,List.mem_append]at hp;exact Or.inr hp};{obtain⟨_,_,_,_,_,u,hn⟩:=k;refine⟨m,_,_,([]++pa)++pv,⟨[]++pa,pv,trodAll_append (c _ (λ_ _=>rfl)) (g _ _ _),d _ (λ_ _=>rfl),rfl,?_,?_⟩,?_⟩;{intro b off hp;(have o:MemPlace.cell b off∈before:=by rw[e];simpa using hp);rw[l _ (n _ o)];exact u b off o};{intro ha;have:=hn ha;rw[e]at this;simpa using this};{intro p hp _;rw[e];simpa using hp}}
end
end Go.Ab
namespace Go.Ab
open Go
theorem js.det{α β:Type}{f:α->Option (α⊕β)}{a:α}{b c:β}(h:js f a b)(k:js f a c):b=c:=by induction h with|done h=>(cases k with|done k=>rw[h]at k;cases k;rfl|step k _=>rw[h]at k;cases k)|step h _ d=>cases k with|done k=>rw[h]at k;cases k|step k e=>rw[h]at k;cases k;exact d e
theorem u5{α β:Type}{f:α->Option (α⊕β)}{a:α}{b:β}(h:js f a b):aX f a=O b:=by unfold aX;have hx:∃b,js f a b:=⟨b,h⟩;rw[dif_pos hx];exact congrArg O ((Classical.choose_spec hx).det h)
theorem rX{α β:Type}{f:α->Option (α⊕β)}{a:α}{b:β}(h:aX f a=O b):js f a b:=by unfold aX at h;split at h;{rename_i hx;cases h;exact Classical.choose_spec hx};{cases h}
theorem bb{α β:Type}{f:α->Option (α⊕β)}{a:α}{b:β}(h:f a=O (.inr b)):aX f a=O b:=u5 (.done h)
theorem bq{α β:Type}{f:α->Option (α⊕β)}{a a':α}(h:f a=O (.inl a')):aX f a=aX f a':=by cases e:aX f a' with|some b=>exact u5 (.step h (rX e))|none=>cases c:aX f a with|none=>rfl|some b=>have:=rX c;cases this with|done k=>rw[h]at k;cases k|step k d=>rw[h]at k;cases k;rw[u5 d]at e;cases e
theorem U2(x:Int):aW x=(x+9223372036854775808)%18446744073709551616-9223372036854775808:=by simp only[aW,IntKind.wrap,IntKind.signed,IntKind.bits];simp;omega
theorem aZ{x:Int}(h1: -9223372036854775808<=x)(a:x<=9223372036854775807):aW x=x:=by rw[U2];omega
theorem qG{α β:Type}{f:α->Option (α⊕β)}{a:α}(h:f a=U):aX f a=U:=by cases e:aX f a with|none=>rfl|some b=>have:=rX e;cases this with|done k=>rw[h]at k;cases k|step k _=>rw[h]at k;cases k
theorem bh{α:Type}{xs:List α}{i:Nat}:idx xs (i:Int)=xs[i]? :=by unfold idx;rw[aM (by omega)];rfl
def eC{α σ ρ:Type}(step:σ->Nat->α->Option (σ⊕ρ))(fin:σ->ρ):σ->Nat->List α->Option ρ
 |s,_,[]=>O (fin s)
 | s,i,x::r=>(step s i x).bind λz=>match z with
   | .inl s'=>eC step fin s' (i+1) r
   | .inr y=>O y
theorem ii{α σ τ ρ:Type}{a:List α}{f:τ->Option (τ⊕ρ)}{init:τ}(mk:σ->Int->τ)(step:σ->Nat->α->Option (σ⊕ρ))(fin:σ->ρ)(s:σ)(b:init=mk s 0)
    (hf:∀s i x,i<a.length->a[i]? =O x->f (mk s i)=(step s i x).bind λz=>match z with
      |.inl s'=>O (.inl (mk s' ((i:Int)+1)))
      |.inr y=>O (.inr y)) (c:∀s,f (mk s a.length)=O (.inr (fin s))):aX f init=eC step fin s 0 a:=by
  have main:∀(r pre:List α) (s:σ),a=pre++r->aX f (mk s pre.length)=eC step fin s pre.length r:=by
    intro r
    induction r with
    |nil=>
     intro pre s e;rw[aew]at e;subst e;exact bb (c s)
    |cons x r g=>
     intro pre s e;have hx:a[pre.length]? =O x:=by rw[e];simp
     have d:pre.length<a.length:=by rw[e];simp
     have h:=hf s pre.length x d hx;simp only[eC]
     cases hs:step s pre.length x with
     |none=>rw[hs]at h;exact qG h
     |some z=>
      rw[hs]at h
      cases z with
      |inr y=>exact bb h
      |inl s'=>
       rw[bq h];have:=g (pre++[x]) s' (by rw[e];simp);simp only[aG,aeQ,aeR,afb]at this;exact this
  rw[b];exact main a [] s rfl
theorem Kh{α β:Type}(g:α->β):∀(r:List α) (pre a:List β),a.length=r.length->
    eC (ρ:=List β) (λ(out:List β) i x=>if i<out.length then O (.inl (out.set i (g x)))else U) (λout=>out) (pre++a) pre.length r=O (pre++r.map g)
  |[],pre,a,h=>by
   have:a=[]:=aH h;subst this;simp[eC]
  |x::r,pre,a,h=>by
   cases a with
   |nil=>cases h
   |cons y a=>
    have b:=Kh g r (pre++[g x]) a (by simpa using h);simp only[eC];rw[aN (by simp)];simp only[ah]
    have e:(pre++y::a).set pre.length (g x)=pre++[g x]++a:=by
      rw[List.set_append_right _ _ (aB _)];simp
    rw[e];simp only[aG,aeQ,aeR,afb]at b;rw[b];simp
theorem MA{α β:Type}(t:α->Bool)(g:Nat->β):∀(r:List α) (i:Nat),
    (r.all t=true->eC (ρ:=Unit⊕β) (λ(_:Unit) i x=>O (bif t x then .inl ()else .inr (.inr (g i)))) (λ_=>.inl ()) () i r=O (.inl ()))/\
    (r.all t=false->∃j,i<=j/\eC (ρ:=Unit⊕β) (λ(_:Unit) i x=>O (bif t x then .inl ()else .inr (.inr (g i)))) (λ_=>.inl ()) () i r=O (.inr (g j)))
  |[],i=>⟨λ_=>rfl,(λh=>by cases h)⟩
  |x::r,i=>by
   obtain⟨h1,a⟩:=MA t g r (i+1);simp only[List.all_cons,eC,ah]
   cases t x with
   |false=>exact⟨(λh=>by cases h),λ_=>⟨i,aB _,rfl⟩⟩
   |true=>
    refine⟨λh=>h1 h,λh=> ?_⟩;obtain⟨j,b,e⟩:=a h;exact⟨j,by omega,e⟩
theorem dL{α β:Type}{l:List α}{f:Int->Option (Int⊕(Unit⊕β))}(t:α->Bool)(y:β)(hf:∀(i:Nat) x,l[i]? =O x->i<l.length->f i=O (bif t x then .inl ((i:Int)+1)else .inr (.inr y)))(b:f l.length=O (.inr (.inl ()))):aX f 0=O (bif l.all t then .inl ()else .inr y):=by rw[ii (a:=l) (λ(_:Unit) i=>i) (λ_ _ x=>O (bif t x then .inl ()else .inr (.inr y))) (λ_=>.inl ()) () rfl (λ_ i x hi hx=> ?_) (λ_=>b)];{obtain⟨h1,c⟩:=MA t (λ_=>y) l 0;cases ha:l.all t with|true=>rw[h1 ha];rfl|false=>obtain⟨_,_,e⟩:=c ha;rw[e];rfl};{rw[hf i x hx hi];cases t x<;>rfl}
def bD{α:Type}(t:α->Bool):List α->Nat->Option Nat
 |[],_=>U
 |x::r,i=>bif t x then O i else bD t r (i+1)
theorem lG{α:Type}{l:List α}{f:Int->Option (Int⊕(Unit⊕Int))}(t:α->Bool)
    (hf:∀(i:Nat) x,l[i]? =O x->i<l.length->f i=O (bif t x then .inr (.inr (i:Int))else .inl ((i:Int)+1))) (b:f l.length=O (.inr (.inl ()))):
    aX f 0=O (match bD t l 0 with|some i=>.inr (i:Int)|none=>.inl ()):=by
  rw[ii (a:=l) (λ(_:Unit) i=>i) (λ_ i x=>O (bif t x then .inr (.inr (i:Int))else .inl ())) (λ_=>.inl ()) () rfl (λ_ i x hi hx=> ?_) (λ_=>b)]
  ·have main:∀(r:List α) (i:Nat),eC (ρ:=Unit⊕Int) (λ(_:Unit) i x=>O (bif t x then .inr (.inr (i:Int))else .inl ())) (λ_=>.inl ()) () i r=O (match bD t r i with|some i=>.inr (i:Int)|none=>.inl ()):=by
     intro r
     induction r with
     |nil=>intro i;rfl
     |cons x r c=>
      intro i;simp only[eC,bD,ah]
      cases t x with
      |true=>rfl
      |false=>exact c (i+1)
   exact main l 0
  ·rw[hf i x hx hi]
   cases t x<;>rfl
def total{α:Type}(cnt:α->Nat):List α->Nat
 |[]=>0
 |x::r=>cnt x+total cnt r
theorem dT{β:Type}{n:Nat}{f:Int->Option (Int⊕(Unit⊕β))}(T:Nat->Bool)(y:β)(hf:∀(i:Nat),i<n->f i=O (bif T i then .inl ((i:Int)+1)else .inr (.inr y)))(a:f n=O (.inr (.inl ()))):aX f 0=O (bif(agH n).all T then .inl ()else .inr y):=by refine dL (l:=agH n) T y (λi x hx hi=> ?_) (by rw[agF];exact a);rw[agF]at hi;rw[List.getElem?_range hi]at hx;cases hx;exact hf i hi
theorem EP{α:Type}(t:α->Bool):∀(l:List α) (k i:Nat),bD t l k=O i->k<=i
 |[],_,_,h=>by cases h
 |x::l,k,i,h=>by simp only[bD]at h;cases hx:t x with|true=>rw[hx]at h;cases h;exact aB _|false=>rw[hx]at h;have:=EP t l (k+1) i h;omega
theorem oV{α:Type}(t:α->Bool):∀(l:List α) (i k:Nat) (x:α),l[i]? =O x->t x=true->(bD t l k=O (k+i)↔bD t (l.take i) k=U)
 |[],i,_,_,h,_=>by simp at h
 |y::l,0,k,x,h,hx=>by simp at h;subst h;simp[bD,hx]
 |y::l,i+1,k,x,h,hx=>by have a:=oV t l i (k+1) x (by simpa using h) hx;simp only[bD,agN];cases b:t y with|true=>simp only[ai,aw];exact⟨λh=>by omega,λh=>by cases h⟩|false=>simp only[aj];rw[show k+(i+1)=k+1+i by omega];exact a
theorem Av{α β:Type}{l:List α}{z:β}(g:α->β){f:List β×Int->Option ((List β×Int)⊕List β)}(hl:l.length<=1048576)(hf:∀(out:List β) (i:Nat) x,l[i]? =O x->i<l.length->f (out,(i:Int))=bif ae (0<=(i:Int))&&ae ((i:Int)<(out.length:Int))then O (.inl (out.set (agC (i:Int)) (g x),aW ((i:Int)+1)))else U)(b:∀out,f (out,(l.length:Int))=O (.inr out)):aX f (aeU (agC (l.length:Int)) z,0)=O (l.map g):=by rw[ii (a:=l) Prod.mk (λ(out:List β) i x=>if i<out.length then O (.inl (out.set i (g x)))else U) (λout=>out) (aeU l.length z) ?_ ?_ ?_];{have:=Kh g l [] (aeU l.length z) (by simp);simpa using this};{rfl};{intro out i x hi hx;rw[hf out i x hx hi,aZ (by omega) (by omega)];by_cases c:i<out.length;{rw[aN c,show(ae (0<=(i:Int))&&ae ((i:Int)<(out.length:Int)))=true by simp;omega];rfl};{rw[aM c,show(ae (0<=(i:Int))&&ae ((i:Int)<(out.length:Int)))=false by simp;omega];rfl}};{intro out;exact b out}
theorem jN{n:Nat}(h:n<=1048576):(ae (0<=(n:Int))&&ae ((n:Int)<=(n:Int))&&ae ((n:Int)<=lim))=true:=by have a:(lim:Int)=4294967296:=rfl;simp;omega
theorem vo{τ ρ:Type}{n:Nat}{f:τ->Option (τ⊕ρ)}(R:Nat->τ->Prop)(Q:ρ->Prop)(step:∀i a,i<n->R i a->(∃a',f a=O (.inl a')/\R (i+1) a')\/∃y,f a=O (.inr y)/\Q y)(fin:∀a,R n a->∃y,f a=O (.inr y)/\Q y):∀(k i:Nat) (a:τ),i+k=n->R i a->∃y,aX f a=O y/\Q y
 |0,i,a,h,r=>by(obtain rfl:i=n:=by omega);obtain⟨y,h1,b⟩:=fin a r;exact⟨y,bb h1,b⟩
 |k+1,i,a,h,r=>by rcases step i a (by omega) r with ⟨a',h1,b⟩|⟨y,h1,b⟩;{rw[bq h1];exact vo R Q step fin k (i+1) a' (by omega) b};{exact⟨y,bb h1,b⟩}
end Go.Ab
namespace Go.Ab
open Go Go.RowKit
theorem zf{P:Program}{w:World}{f te e ty:TypeId}{inf:TypeInfo}(hu:P.underlying f=O (.slice e))(hi:P.info? e=O inf){b off dl dc sl sc n:Nat}{ad:Addr}{cur:Array Value}(hg:w.heap[b]? =O (.cells cur te (0,0))){news:List Value}(a:Nat.min sl dl=n)(hn:news.length=n*inf.size)(g:∀j v,news[j]? =O v->w.cell? (ad.add j)=O v)(h1:∀u∈news,u.oneCell'=true)(c:off+news.length<=cur.size):(Builtin.copy_ #[f,f] ty #[.slice (O ⟨b,off,U⟩) dl dc,.slice (O ad) sl sc]).run P w=.ok (goInt n) (w.setRow b (cur.toList.take off++news++cur.toList.drop (off+news.length)).toArray):=by have d:=run_storeCells_at P b off te news 0 cur w hg (by simpa using c) h1;simp only[ae1]at d;have hf:=run_firstCells_some (P:=P) w inf.size n ad sl sc news hn g;subst a;have hlen:Builtin.lenOf (.slice (O ad) sl sc)=pure sl:=rfl;simp[Builtin.copy_,run_underlying hu,sizeOf,typeInfo,hi,hlen,hf,d]
theorem iz{P:Program}{ops:Array Oper}{o:Oper}{a:Act}{w w':World}{K:Act->World->Prop}{Q:Exit->Act->World->Prop}{E:Prop}(e:o.guard=U)(d s:Operand)(c:TypeId)(ho:o.op=.call {callee:=.builtin .copy,args:= #[d,s],argTypes:= #[c,c]}){v dv sv:Value}(f:a.eval d=dv)(hs:a.eval s=sv)(b:(Builtin.copy_ #[c,c] o.type #[dv,sv]).run P w=.ok v w')(h:K (a.put o.dst v) w'):if Region.wanted o (yielded ops a.tmps)=true then Oper.wp P o a w K Q else E:=by(have hw:Region.wanted o (yielded ops a.tmps)=true:=by simp[Region.wanted,e]);rw[aN hw];unfold Oper.wp;simp[execOp,ho,resolve,invoke,builtin,f,hs,b,agX];exact h
theorem iw{P:Program}{w w':World}{ops:Array Oper}{rest:List Oper}{o:Oper}{a:Act}{Q:Exit->Act->World->Prop}(e:o.guard=U)(d s:Operand)(c:TypeId)(ho:o.op=.call {callee:=.builtin .append,args:= #[d,s],argTypes:= #[c,c]}){v dv sv:Value}(f:a.eval d=dv)(hs:a.eval s=sv)(b:(Builtin.append_ #[c,c] o.type #[dv,sv]).run P w=.ok v w')(h:wpList P ops Q rest (a.put o.dst v) w'):wpList P ops Q (o::rest) a w:=by refine wpList_plain e λK g=> ?_;unfold Oper.wp;simp[execOp,ho,resolve,invoke,builtin,f,hs,b,agX];exact g _ _ h
theorem IX(e st2:TypeId)(rs:Array TypeId)(a b:Addr)(c d f g:Nat):Extern.SlicesOverlaps.overlaps #[e,st2] rs #[.slice (O a) c f,.slice (O b) d g]=(do
    let .slice elem<-underlying e|stuck "slices.overlaps: slice type expected"
    let size<-sizeOf elem
    if c=0\/d=0\/size=0 then pure (.bool false)
    else if a.block !=b.block&& (<-frozen a)&& (<-frozen b)then unsupported .addressObserved
    else do
      if a.block !=b.block then do
        noView a;noView b
        if<-mayBeOne a b then return .bool ((<-choose (.extern "sameAddr.stringBytes" 2))==1)
      pure (.bool (a.block==b.block&&a.off<b.off+d*size&&b.off<a.off+c*size)):Sem Value):=rfl
theorem uD[Tabs]{P:Program}{w:World}{d st2 te:TypeId}{inf:TypeInfo}{rs:Array TypeId}(hu:P.underlying d=O (.slice te))(hi:P.info? te=O inf){q g l m e f c1 c2:Nat}{h i:Array Value}{j tb:TypeId}(ha:w.heap[q]? =O (.cells h j (0,0)))(k:w.heap[g]? =O (.cells i tb (0,0)))(a:q≠g):(Extern.SlicesOverlaps.overlaps #[d,st2] rs #[.slice (O ⟨q,l,U⟩) e c1,.slice (O ⟨g,m,U⟩) f c2]).run P w=.ok (.bool false) w:=by(have f1:∀o,w.frozen? ⟨q,o,U⟩=false:=λo=>by simp[World.frozen?,ha]);(have f2:∀o,w.frozen? ⟨g,o,U⟩=false:=λo=>by simp[World.frozen?,k]);(have b:(q==g)=false:=by simpa using a);(have c:(q !=g)=true:=by simpa using a);(have s1:w.shape? q=O (j,h.size):=by simp[World.shape?,ha]);(have s2:w.shape? g=O (tb,i.size):=by simp[World.shape?,k]);rw[IX];by_cases h0:e=0\/f=0\/inf.size=0;{simp[run_underlying hu,sizeOf,typeInfo,hi,h0]};{simp[run_underlying hu,sizeOf,typeInfo,hi,h0,f1,f2,b,c,noView,viewAt,mayBeOne,stringish,s1,s2]}
def uI(t:Ty)(w:World)(L:List Value)(zs:List t.den):Prop:=∀k x,zs[k]? =O x->Own w t ((L.drop (k*t.size)).take t.size) x (λ_=>False)
theorem kt[Tabs]{t:Ty}(hl:t.leads=false){w w':World}{a:List Value}{x:t.den}{F:bu}(h:Own w t a x F):Own w' t a x (λ_=>False):=Own.mono (λ_ b=>b.elim) (eY.kt hl (Own.rep (S:=λ_=>True) h λ_ _=>trivial))
theorem uI.world{t:Ty}{w w':World}{L:List Value}{zs:List t.den}(h:uI t w L zs):uI t w' L zs:=λk x hk=>Own.mono (λ_ a=>a.elim) (h k x hk)
theorem uI.append[Tabs]{t:Ty}{w:World}{A N:List Value}{xs ys:List t.den}(hA:A.length=xs.length*t.size)(h1:uI t w A xs)(a:uI t w N ys):uI t w (A++N) (xs++ys):=λk x hk=>by
  rw[pJ hA]
  by_cases h:k<xs.length
  ·rw[aN h]
   rw[aeH h]at hk;exact h1 k x hk
  ·rw[aM h]
   rw[aI (by omega)]at hk;exact a _ x hk
theorem uI.arr[Tabs]{t:Ty}{w:World}{g n cap:Nat}{row:Array Value}{te:TypeId}{S:bu}{L:List Value}{zs:List t.den}(hg:w.heap[g]? =O (.cells row te (0,0)))(hs:row.size=cap*t.size)(hn:zs.length=n)(hc:n<=cap)(hm:cap<=maxLen)(ht:row.toList.take (n*t.size)=L)(h:uI t w L zs):bL S w true t (.slice (O ⟨g,0,U⟩) n cap) zs (λb=>b=g):=by subst hn;refine .inr ⟨g,cap,row,te,λ_ _=>False,rfl,hg,hs,hc,hm,λk x hk=> ?_,λ_ _ _ _ _ h=>h.elim,λ_ _ h=>h,λb=>⟨λh=>.inl h,λh=>h.elim (λh=>h) λ⟨_,_,h⟩=>h.elim⟩⟩;have a:k<zs.length:=(aeK.1 hk).1;rw[fA ht a];exact h k x hk
theorem cell_of[Tabs]{w:World}{g:Nat}{cur:Array Value}{te:TypeId}{fz:Nat×Nat}(hg:w.heap[g]? =O (.cells cur te fz)){o n j:Nat}{v:Value}(h:((cur.toList.drop o).take n)[j]? =O v):w.cell? ⟨g,o+j,U⟩=O v:=by rw[cell_of_row w g (o+j) cur te fz hg];rw[iN]at h;split at h;{simpa using h};{cases h}
def il(t:Ty)(w:World)(L:List Value)(zs:List t.den)(Fs:Nat->bu):Prop:=∀k x,zs[k]? =O x->Own w t ((L.drop (k*t.size)).take t.size) x (Fs k)
theorem il.append[Tabs]{t:Ty}{w:World}{A N:List Value}{xs ys:List t.den}{Fs Gs:Nat->bu}(hA:A.length=xs.length*t.size)(h1:il t w A xs Fs)(a:il t w N ys Gs):il t w (A++N) (xs++ys) (λk=>if k<xs.length then Fs k else Gs (k-xs.length)):=λk x hk=>by
  rw[pJ hA]
  by_cases h:k<xs.length
  ·rw[aN h]
   simp only[h,if_true];rw[aeH h]at hk;exact h1 k x hk
  ·rw[aM h]
   simp only[h,if_false];rw[aI (by omega)]at hk;exact a _ x hk
theorem il.world{t:Ty}{w w':World}{L:List Value}{zs:List t.den}{Fs:Nat->bu}(h:il t w L zs Fs)(hw:∀k b,k<zs.length->Fs k b->w'.heap[b]? =w.heap[b]?):il t w' L zs Fs:=λk x hk=>Own.mono (λb a=>hw k b (aeK.1 hk).1 a) (h k x hk)
theorem il.head[Tabs]{t:Ty}{w:World}{cur:List Value}{xs:List t.den}{Fs:Nat->bu}(h:∀i x,xs[i]? =O x->Own w t ((cur.drop (i*t.size)).take t.size) x (Fs i))(i:Nat):il t w (cur.take (i*t.size)) (xs.take i) Fs:=λk x hk=>by
  rw[List.getElem?_take]at hk;split at hk
  ·rename_i a
   rw[<-fA rfl a];exact h k x hk
  ·cases hk
theorem il.tail[Tabs]{t:Ty}{w:World}{cur:List Value}{xs:List t.den}{Fs:Nat->bu}(h:∀i x,xs[i]? =O x->Own w t ((cur.drop (i*t.size)).take t.size) x (Fs i))(i:Nat):il t w ((cur.drop (i*t.size)).take ((xs.length-i)*t.size)) (xs.drop i) (λk=>Fs (i+k)):=λk x hk=>by
  rw[aeJ]at hk;have a:i+k<xs.length:=(aeK.1 hk).1;rw[<-fA (n:=xs.length-i) rfl (by omega),aex,<-ae0];exact h (i+k) x hk
theorem il.one[Tabs]{t:Ty}(a:0<t.size){w:World}{L:List Value}{zs:List t.den}{Fs:Nat->bu}(hl:L.length=zs.length*t.size)(h:il t w L zs Fs):∀u∈L,u.oneCell'=true:=by intro u hu;obtain⟨j,c,rfl⟩:=aeN hu;have b:=c;rw[hl]at b;have hi:j/t.size<zs.length:=(Nat.div_lt_iff_lt_mul a).2 b;(have d:zs[j/t.size]? =O zs[j/t.size]:=by simp[hi]);have ho:=(h _ _ d).rep (S:=λ_=>True) (λ_ _=>trivial);refine(gB (h:=λ_=>U) (m:=λ_=>U) ho).2.1 _ ?_;refine aF (i:=j%t.size) ?_;(have e:j/t.size*t.size+j%t.size=j:=by rw[agR];exact Nat.div_add_mod j t.size);rw[iN,aN (agQ _ a),e];exact aJ c
theorem il.arr[Tabs]{t:Ty}{w:World}{g n cap:Nat}{row:Array Value}{te:TypeId}{S:bu}{L:List Value}{zs:List t.den}{Fs:Nat->bu}(hg:w.heap[g]? =O (.cells row te (0,0)))(hs:row.size=cap*t.size)(hn:zs.length=n)(hc:n<=cap)(hm:cap<=maxLen)(ht:row.toList.take (n*t.size)=L)(h:il t w L zs Fs)(c:∀i j b,i<zs.length->j<zs.length->Fs i b->Fs j b->i=j)(hx:∀i,i<zs.length->¬Fs i g):bL S w true t (.slice (O ⟨g,0,U⟩) n cap) zs (λb=>b=g\/∃i,i<zs.length/\Fs i b):=by subst hn;refine .inr ⟨g,cap,row,te,Fs,rfl,hg,hs,hc,hm,λk x hk=> ?_,c,hx,λb=>Iff.rfl⟩;have a:k<zs.length:=(aeK.1 hk).1;rw[fA ht a];exact h k x hk
theorem Nb[Tabs]{t:Ty}{w w':World}{g cap i:Nat}{row:Array Value}{te:TypeId}{S:bu}{xs:List t.den}{y:t.den}{A Y Z:List Value}{Fs:Nat->bu}{F G l:bu}(hA:A.length=i*t.size)(hY:Y.length=t.size)(hi:i<=xs.length)(B:il t w A (xs.take i) Fs)(rY:Own w t Y y l)(rZ:il t w Z (xs.drop i) (λk=>Fs (i+k)))(C:∀j k b,j<xs.length->k<xs.length->Fs j b->Fs k b->j=k)(p:∀j b,j<xs.length->Fs j b->F b)(hG:∀b,l b->G b)(n:∀q,F q->G q->False)(hw:∀b,F b\/G b->b≠g->w'.heap[b]? =w.heap[b]?)(v:∀j,j<xs.length->¬Fs j g)(z:¬l g)(hg:w'.heap[g]? =O (.cells row te (0,0)))(hs:row.size=cap*t.size)(hc:xs.length+1<=cap)(hm:cap<=maxLen)(ht:row.toList.take ((xs.length+1)*t.size)=A++Y++Z):∃F',bL S w' true t (.slice (O ⟨g,0,U⟩) (xs.length+1) cap) (xs.take i++y::xs.drop i) F'/\∀q,F' q->q=g\/F q\/G q:=by(have o:(xs.take i).length=i:=by rw[afw];omega);(have r:il t w Y [y] (λ_=>l):=λk x hk=>by cases k with|zero=>simp only[aeI,aw]at hk;subst hk;rw[afV,aeB,agM (agO hY)];exact rY|succ k=>simp at hk);have h1:=il.append (A:=Y) (N:=Z) (xs:=[y]) (ys:=xs.drop i) (by rw[hY];simp) r rZ;have D:=il.append (A:=A) (xs:=xs.take i) (by rw[hA,o]) B h1;(have hlen:(xs.take i++([y]++xs.drop i)).length=xs.length+1:=by simp;omega);let Fn:Nat->bu:=λk=>if k<i then Fs k else if k=i then l else Fs (k-1);(have s:∀k,(if k<(xs.take i).length then Fs k else(λk=>if k<[y].length then(λ_=>l) k else(λk=>Fs (i+k)) (k- [y].length)) (k-(xs.take i).length))=Fn k:=λk=>by rw[o];show _=(if k<i then Fs k else if k=i then l else Fs (k-1));by_cases h:k<i;{simp only[h,if_true]};{simp only[h,if_false,agG];by_cases e:k=i;{subst e;simp};{(have u:¬k-i<1:=by omega);simp only[u,if_false,e];congr 1;omega}});(have u:il t w (A++(Y++Z)) (xs.take i++([y]++xs.drop i)) Fn:=λk x hk=>by have:=D k x hk;simp only[]at this;rw[<-s k];exact this);(have kind:∀k b,k<xs.length+1->Fn k b->(k≠i/\∃j,j<xs.length/\Fs j b/\(j=k/\k<i\/j+1=k/\i<k))\/(k=i/\l b):=λk b hk f=>by have f:(if k<i then Fs k else if k=i then l else Fs (k-1)) b:=f;by_cases h:k<i;{rw[aN h]at f;exact .inl ⟨by omega,k,by omega,f,.inl ⟨rfl,h⟩⟩};{rw[aM h]at f;by_cases e:k=i;{rw[aN e]at f;exact .inr ⟨e,f⟩};{rw[aM e]at f;exact .inl ⟨e,k-1,by omega,f,.inr ⟨by omega,by omega⟩⟩}});(have E:il t w' (A++(Y++Z)) (xs.take i++([y]++xs.drop i)) Fn:=u.world λk b hk f=>by rw[hlen]at hk;rcases kind k b hk f with ⟨_,j,m,d,_⟩|⟨_,d⟩;{exact hw b (.inl (p j b m d)) λe=>v j m (e▸d)};{exact hw b (.inr (hG b d)) λe=>z (e▸d)});refine⟨_,il.arr hg hs hlen hc hm (by rw[ht,aev]) E (λa c b ha hc H I=> ?_) (λk hk f=> ?_),λq hq=> ?_⟩;{(replace ha:a<xs.length+1:=by rw[<-hlen];exact ha);(replace hc:c<xs.length+1:=by rw[<-hlen];exact hc);rcases kind a b ha H with ⟨_,j,m,d,J⟩|⟨K,d⟩<;>rcases kind c b hc I with ⟨_,k,k1,k2,k3⟩|⟨L,k2⟩;{have:=C j k b m k1 d k2;omega};{exact(n b (p j b m d) (hG b k2)).elim};{exact(n b (p k b k1 k2) (hG b d)).elim};{omega}};{(replace hk:k<xs.length+1:=by rw[<-hlen];exact hk);rcases kind k g hk f with ⟨_,j,m,d,_⟩|⟨_,d⟩;{exact v j m d};{exact z d}};{rcases hq with hq|⟨k,hk,f⟩;{exact .inl hq};{(replace hk:k<xs.length+1:=by rw[<-hlen];exact hk);rcases kind k q hk f with ⟨_,j,m,d,_⟩|⟨_,d⟩;{exact .inr (.inl (p j q m d))};{exact .inr (.inr (hG q d))}}}
def Mu(w:World)(te:TypeId)(n k:Nat)(L:List Value)(e:Ending)(w':World):Prop:=∃(cap:Nat) (row:Array Value),e=.returned (.slice (O ⟨w.heap.size,0,U⟩) (n+1) cap)/\w'.heap[w.heap.size]? =O (.cells row te (0,0))/\row.size=cap*k/\n+1<=cap/\cap<=maxLen/\row.toList.take ((n+1)*k)=L/\Grow w w'
def Jg(w:World)(g n cap k:Nat)(te:TypeId)(L:List Value)(e:Ending)(w':World):Prop:=∃(row:Array Value),e=.returned (.slice (O ⟨g,0,U⟩) (n+1) cap)/\w'.heap[g]? =O (.cells row te (0,0))/\row.size=cap*k/\row.toList.take ((n+1)*k)=L/\w'.os=w.os/\w'.tape=w.tape/\w'.output=w.output/\w'.heap.size=w.heap.size/\(∀q,q≠g->w'.heap[q]? =w.heap[q]?)/\∀a,w'.frozen? a=w.frozen? a
def SX(P:Program)(f:FuncId)(ty:TypeId):Prop:=∀(w a:World) (g n cap q c:Nat) (v2:Value),n<=cap->cap<=9223372036854775807->n<=1000000->(Builtin.append_ #[ty,ty] ty #[.slice (O ⟨g,0,U⟩) n cap,.slice (O ⟨q,0,U⟩) 1 c]).run P w=.ok v2 a->Calls P f #[.slice (O ⟨g,0,U⟩) n cap,.int .i64 n,.slice (O ⟨q,0,U⟩) 1 c] w λe w'=>e=.returned v2/\w'=a
def My(P:Program)(f:FuncId)(ty:TypeId):Prop:=∀(w a:World) (o:Option Addr) (q c:Nat) (v2:Value),(Builtin.append_ #[ty,ty] ty #[.slice o 0 0,.slice (O ⟨q,0,U⟩) 1 c]).run P w=.ok v2 a->Calls P f #[.slice o 0 0,.int .i64 0,.slice (O ⟨q,0,U⟩) 1 c] w λe w'=>e=.returned v2/\w'=a
structure Pk (w:World) (g n i q k:Nat) (A Y Z:Array Value):Prop where
  hA:A.size=i*k
  hY:Y.size=k
  hZ:Z.size=(n-i)*k
  rY:∀j v,Y.toList[j]? =O v->w.cell? ⟨q,j,U⟩=O v
  rZ:∀j v,Z.toList[j]? =O v->w.cell? ⟨g,i*k+j,U⟩=O v
  oY:∀u∈Y.toList,u.oneCell'=true
  oZ:∀u∈Z.toList,u.oneCell'=true
def RY(P:Program)(f:FuncId)(te:TypeId)(k:Nat):Prop:=∀(w:World) (g n i q c:Nat) (A Y Z:Array Value),n<=1000000->i<n->Pk w g n i q k A Y Z->(loadCellsFrom ⟨g,0,U⟩ 0 (i*k) #[]).run P w.drew=.ok A w.drew->g<w.heap.size->q<w.heap.size->Calls P f #[.slice (O ⟨g,0,U⟩) n n,.int .i64 i,.slice (O ⟨q,0,U⟩) 1 c] w (Mu w te n k (A.toList++Y.toList++Z.toList))
structure Wq (w:World) (g i q cap k:Nat) (te tq:TypeId) (cur xc A:Array Value):Prop where
  hq:q≠g
  hg:w.heap[g]? =O (.cells cur te (0,0))
  hx:w.heap[q]? =O (.cells xc tq (0,0))
  hc:cur.size=cap*k
  tA:cur.toList.take (i*k)=A.toList
def Ta(P:Program)(f:FuncId)(k:Nat):Prop:=∀(w:World) (g n i q c cap:Nat) (te a:TypeId) (cur b A Y Z:Array Value),cap<=9223372036854775807->n<=1000000->i<n->n+1<=cap->Pk w g n i q k A Y Z->Wq w g i q cap k te a cur b A->Calls P f #[.slice (O ⟨g,0,U⟩) n cap,.int .i64 i,.slice (O ⟨q,0,U⟩) 1 c] w (Jg w g n cap k te (A.toList++Y.toList++Z.toList))
section
variable {P:Program} {ty te:TypeId} {inf:TypeInfo} {k g n i q:Nat} {w:World} {A Y Z:Array Value}
theorem A3(hu:P.underlying ty=O (.slice te))(hi:P.info? te=O inf)(hs:inf.size=k)(z:Array Value)(I:z.size=k){C:Nat}(h:Pk w g n i q k A Y Z)(x:i<n)(o:n+1<=C)(hle:C<=maxLen)(y:g<w.heap.size)(B:q<w.heap.size):∃m,(∀t dc sc,(Builtin.copy_ #[ty,ty] t #[.slice (O ⟨w.heap.size,i*k,U⟩) (n+1-i) dc,.slice (O ⟨q,0,U⟩) 1 sc]).run P (w.alloc (.cells (A++(Builtin.zeroCells z (n+1-i)++Builtin.zeroCells z (C-(n+1)))) te)).drew=.ok (goInt 1) m)/\∃F,(∀t dc sc,(Builtin.copy_ #[ty,ty] t #[.slice (O ⟨w.heap.size,(i+1)*k,U⟩) (n-i) dc,.slice (O ⟨g,i*k,U⟩) (n-i) sc]).run P m.drew=.ok (goInt ((n-i:Nat):Int)) F)/\Mu w te n k (A.toList++Y.toList++Z.toList) (.returned (.slice (O ⟨w.heap.size,0,U⟩) (n+1) C)) F:=by obtain⟨hA,hY,hZ,rY,rZ,oY,oZ⟩:=h;have m1:(i+1)*k=i*k+k:=agW i k;have m2:(n+1)*k=n*k+k:=agW n k;have m3:(n-i)*k=n*k-i*k:=agU _ _ _;have m4:(i+1)*k<=n*k:=ae8 k x;have m5:(n+1)*k<=C*k:=ae8 k o;generalize D:(A++(Builtin.zeroCells z (n+1-i)++Builtin.zeroCells z (C-(n+1))))=R;(have d:R.size=C*k:=by rw[<-D];simp only[agz,size_zeroCells,hA,I];rw[<-ae0,<-ae0];congr 1;omega);(have p:R.toList.take (i*k)=A.toList:=by rw[<-D,Array.toList_append,<-hA,<-az];exact aeW);clear D;have u:(w.alloc (.cells R te)).drew.heap[w.heap.size]? =O (.cells R te (0,0)):=heap_alloc_new w _;have e:∀q,q<w.heap.size->(w.alloc (.cells R te)).drew.heap[q]? =w.heap[q]? :=λq hq=>(Grow.alloc w R te).block q hq;(have G:Y.toList.length=k:=by rw[az,hY]);(have H:Z.toList.length=(n-i)*k:=by rw[az,hZ]);have c1:=λt dc sc=>zf (P:=P) (ty:=t) (dl:=n+1-i) (dc:=dc) (sl:=1) (sc:=sc) (off:=i*k) (ad:=⟨q,0,U⟩) (n:=1) (news:=Y.toList) hu hi u (ae7 (by omega)) (by rw[hs,G,ae9]) (λj v E=>by rw[eN,afb];exact(World.cell?_of_block (e q B)).trans (rY j v E)) oY (by rw[G,d];omega);generalize f:(agK (i*k) R.toList++Y.toList++List.drop (i*k+Y.toList.length) R.toList).toArray=b at c1;(have c:b.size=C*k:=by rw[<-f];simp only[agI,aG,afw,aft,az,d,hY];omega);(have r:b.toList.take (i*k+k)=A.toList++Y.toList:=by rw[<-f,p];(have hl:(A.toList++Y.toList).length=i*k+k:=by simp[hA,hY]);rw[<-hl];exact aeW);clear f;have l:((w.alloc (.cells R te)).drew.setRow w.heap.size b).heap[w.heap.size]? =O (.cells b te (0,0)):=setRow_heap _ _ _ _ _ _ u;have s:∀q,q<w.heap.size->((w.alloc (.cells R te)).drew.setRow w.heap.size b).heap[q]? =w.heap[q]? :=λq hq=>(setRow_other _ _ _ _ (by omega)).trans (e q hq);have hG:Grow w ((w.alloc (.cells R te)).drew.setRow w.heap.size b):=⟨rfl,rfl,rfl,by rw[size_setRow];simp,s,λa ha=>(fe u a).trans ((Grow.alloc w R te).fz a ha)⟩;refine⟨_,c1,?_⟩;generalize ((w.alloc (.cells R te)).drew.setRow w.heap.size b)=m at*;clear u e p d c1;refine⟨_,λt dc sc=>zf (P:=P) (ty:=t) (dl:=n-i) (dc:=dc) (sl:=n-i) (sc:=sc) (off:=(i+1)*k) (ad:=⟨g,i*k,U⟩) (n:=n-i) (news:=Z.toList) hu hi (w:=m.drew) l (Nat.min_self _) (by rw[hs,H]) (λj v E=>by rw[eN];exact(World.cell?_of_block (s g y)).trans (rZ j v E)) oZ (by rw[H,c];omega),C,_,rfl,setRow_heap m.drew _ _ _ _ _ l,?_,o,hle,?_,?_⟩;{simp only[agI,aG,afw,aft,az,c,hZ];omega};{(have ht:agK ((i+1)*k) b.toList=A.toList++Y.toList:=by rw[<-r,m1]);(have hl:(A.toList++Y.toList++Z.toList).length=(n+1)*k:=by simp only[aG,az,hA,hY,hZ];omega);rw[ht,<-hl];exact aeW};{have J:m.drew.heap[w.heap.size]? =O (.cells b te (0,0)):=l;exact⟨hG.os,hG.tape,hG.output,by rw[size_setRow];exact hG.size,λq hq=>(setRow_other _ _ _ _ (by omega)).trans (hG.block q hq),λa ha=>(fe J a).trans (hG.fz a ha)⟩}
theorem Aq(hu:P.underlying ty=O (.slice te))(hi:P.info? te=O inf)(hs:inf.size=k){cap:Nat}{tr z:TypeId}{cur B:Array Value}(h:Pk w g n i q k A Y Z)(r:i<n)(hn:n+1<=cap)(C:Wq w g i q cap k tr z cur B A):∃s,(∀t dc sc,(Builtin.copy_ #[ty,ty] t #[.slice (O ⟨g,(i+1)*k,U⟩) (n-i) dc,.slice (O ⟨g,i*k,U⟩) (n+1-i) sc]).run P w.drew=.ok (goInt ((n-i:Nat):Int)) s)/\∃y,(∀t dc sc,(Builtin.copy_ #[ty,ty] t #[.slice (O ⟨g,i*k,U⟩) (n+1-i) dc,.slice (O ⟨q,0,U⟩) 1 sc]).run P s=.ok (goInt 1) y)/\Jg w g n cap k tr (A.toList++Y.toList++Z.toList) (.returned (.slice (O ⟨g,0,U⟩) (n+1) cap)) y:=by obtain⟨hA,hY,hZ,rY,rZ,oY,oZ⟩:=h;obtain⟨hq,hg,hx,d,tA⟩:=C;have m1:(i+1)*k=i*k+k:=agW i k;have m2:(n+1)*k=n*k+k:=agW n k;have m3:(n-i)*k=n*k-i*k:=agU _ _ _;have m4:(i+1)*k<=n*k:=ae8 k r;have m5:(n+1)*k<=cap*k:=ae8 k hn;(have u:Y.toList.length=k:=by rw[az,hY]);(have p:Z.toList.length=(n-i)*k:=by rw[az,hZ]);(have cl:cur.toList.length=cap*k:=by rw[az,d]);have c1:=λt dc sc=>zf (P:=P) (ty:=t) (dl:=n-i) (dc:=dc) (sl:=n+1-i) (sc:=sc) (off:=(i+1)*k) (ad:=⟨g,i*k,U⟩) (n:=n-i) (news:=Z.toList) hu hi (w:=w.drew) hg (Nat.min_eq_right (by omega)) (by rw[hs,p]) (λj v x=>by rw[eN];exact rZ j v x) oZ (by rw[p,d];omega);generalize c:(cur.toList.take ((i+1)*k)++Z.toList++cur.toList.drop ((i+1)*k+Z.toList.length)).toArray=b at c1;(have hl:(cur.toList.take ((i+1)*k)).length=i*k+k:=by rw[afw,cl];omega);(have e:b.size=cap*k:=by rw[<-c];simp only[agI,aG,hl,aft,cl,p];omega);(have l:b.toList.take (i*k)=A.toList:=by rw[<-c,<-tA];show agK (i*k) (cur.toList.take ((i+1)*k)++Z.toList++cur.toList.drop ((i+1)*k+Z.toList.length))=_;rw[aev,agL (by rw[hl];omega),List.take_take];congr 1;omega);(have m:(b.toList.drop (i*k+k)).take ((n-i)*k)=Z.toList:=by rw[<-c];show((cur.toList.take ((i+1)*k)++Z.toList++cur.toList.drop ((i+1)*k+Z.toList.length)).drop (i*k+k)).take ((n-i)*k)=_;rw[aev,<-hl,aez,<-p];exact aeW);clear c;have f:(w.drew.setRow g b).heap[g]? =O (.cells b tr (0,0)):=setRow_heap _ _ _ _ _ _ hg;have o:∀q,q≠g->(w.drew.setRow g b).heap[q]? =w.heap[q]? :=λq hq=>setRow_other w.drew _ _ _ hq;have hf:∀a,(w.drew.setRow g b).frozen? a=w.frozen? a:=λa=>fe (w:=w.drew) hg a;have ho:(w.drew.setRow g b).os=w.os/\(w.drew.setRow g b).tape=w.tape/\(w.drew.setRow g b).output=w.output/\(w.drew.setRow g b).heap.size=w.heap.size:=⟨rfl,rfl,rfl,by rw[size_setRow];rfl⟩;refine⟨_,c1,?_⟩;generalize (w.drew.setRow g b)=s at*;refine⟨_,λt dc sc=>zf (P:=P) (ty:=t) (dl:=n+1-i) (dc:=dc) (sl:=1) (sc:=sc) (off:=i*k) (ad:=⟨q,0,U⟩) (n:=1) (news:=Y.toList) hu hi f (ae7 (by omega)) (by rw[hs,u,ae9]) (λj v x=>by rw[eN,afb];exact(World.cell?_of_block (o q hq)).trans (rY j v x)) oY (by rw[u,e];omega),_,rfl,setRow_heap _ _ _ _ _ _ f,?_,?_,ho.1,ho.2.1,ho.2.2.1,by rw[size_setRow];exact ho.2.2.2,λq hq=>(setRow_other _ _ _ _ hq).trans (o q hq),λa=>(fe f a).trans (hf a)⟩;{simp only[agI,aG,afw,aft,az,e,hY];omega};{(have hl:(A.toList++Y.toList).length=i*k+k:=by simp only[aG,az,hA,hY]);show agK ((n+1)*k) (b.toList.take (i*k)++Y.toList++b.toList.drop (i*k+Y.toList.length))=_;rw[l,u,<-m,show(n+1)*k=(A.toList++Y.toList).length+(n-i)*k by rw[hl];omega,List.take_length_add_append]}
theorem Dj[Tabs]{f:FuncId}{t:Ty}(hu:P.underlying ty=O (.slice te))(ht:dB P ty (.slice t)=true)(sz:t.size=k)(hA:SX P f ty)(al:My P f ty)(hB:RY P f te k)(hC:Ta P f k):xz P f t:=by subst sz;intro w v x xs y F G i hv hx p hi hn;obtain⟨am,inf,z,T,V,an,r,hz,ao,ap⟩:=fw ht;(obtain rfl:am=te:=by rw[hu]at T;cases T;rfl);(have av:z.cells.size=t.size:=by obtain⟨p',W,_,I,_⟩:=fp (S:=λ_=>False) (w:=w) (h:=λ_=>U) (m:=λ_=>U) t _ _ ao;rw[aew]at W;rw[<-W]at I;simpa using I.len);have J:∀q,G q->q<w.heap.size:=hx.lt;have Y:∀q,F q->q<w.heap.size:=hv.lt;have aE:=hx;rcases hx with ⟨_,h0,_⟩|⟨q,c,K,tq,Gs,ex,M,aQ,Z,bo,a0,bs,bv,aa⟩;{cases h0};simp only[agG]at ex Z;have a1:G q:=(aa q).2 (.inl rfl);(obtain⟨Gt,a2,a3,a4⟩:∃Gs:Nat->bu,((x=.slice U 0 0/\[y]=[])\/∃(ad:Addr) (cap:Nat) (news:List Value),x=.slice (O ad) [y].length cap/\news.length=[y].length*t.size/\(∀j u,news[j]? =O u->w.cell? (ad.add j)=O u)/\(∀u∈news,u.oneCell'=true)/\∀i y',[y][i]? =O y'->El (λ_=>False) w true t ((news.drop (i*t.size)).take t.size) y' (Gs i))/\(∀i j q,i<[y].length->j<[y].length->Gs i q->Gs j q->i=j)/\∀i q,i<[y].length->Gs i q->G q:=by rcases aE.Um r with ⟨e1,e2⟩|⟨ad,cap,news,Gs,e1,e2,e3,e4,e5,e6,e7⟩;{exact⟨λ_ _=>False,.inl ⟨e1,e2⟩,λ_ _ _ _ _ h=>h.elim,λ_ _ _ h=>h.elim⟩};{exact⟨Gs,.inr ⟨ad,cap,news,e1,e2,e3,e4,e5⟩,e6,e7⟩});(have app:∀(d:xs.drop i=[]),∃v' w' F',(Builtin.append_ #[ty,ty] ty #[v,x]).run P w=.ok v' w'/\w.heap.size<=w'.heap.size/\(∀q,q<w.heap.size->¬F q->w'.heap[q]? =w.heap[q]?)/\w'.os=w.os/\w'.tape=w.tape/\w'.output=w.output/\(∀a:Addr,a.block<w.heap.size->w'.frozen? a=w.frozen? a)/\bL (λ_=>False) w' true t v' (xs.take i++y::xs.drop i) F'/\∀q,F' q->F q\/G q\/(w.heap.size<=q/\q<w'.heap.size):=λd=>by have bk:lim=4294967296:=rfl;obtain⟨v',w',F',k1,k2,k3,k4,k5,k6,k7,k8,k9⟩:=rE (P:=P) (ty:=ty) (X:=G) (Gs:=Gt) hu V an hz av ap (S:=λ_=>False) (D:=true) hv a2 a3 a4 (λq hq hF=>p q hF hq) J (by simp only[agG];omega) (λq h=>h.elim);refine⟨v',w',F',k1,k2,k3,k4,k5,k6,(λa _=>k7 a),?_,k9⟩;(have et:xs.take i=xs:=by have:=aeV i xs;rw[d,aew]at this;exact this);rw[d,et];exact k8);(have a5:K.toList.length=c*t.size:=by rw[az,aQ]);have bx:1*t.size<=c*t.size:=ae8 _ Z;(have Yl:(K.toList.take t.size).length=t.size:=by rw[afw,a5];omega);(have Yr:Own w t (K.toList.take t.size) y (Gs 0):=by have h0:Own w t ((K.toList.drop (0*t.size)).take t.size) y (Gs 0):=a0 0 y rfl;simpa using h0);have A:∀b,Gs 0 b->G b:=λb B=>(aa b).2 (.inr ⟨0,by simp,B⟩);have oY:∀u∈K.toList.take t.size,u.oneCell'=true:=il.one (t:=t) r (w:=w) (zs:=[y]) (Fs:=λ_=>Gs 0) (by rw[Yl];simp) (λk u hk=>by cases k with|zero=>simp only[aeI,aw]at hk;subst hk;rw[afV,aeB,agM (by rw[Yl];exact aB _)];exact Yr|succ k=>simp at hk);rcases hv with ⟨⟨o,rfl⟩,rfl,hF⟩|⟨g,cap,cur,tr,Fs,rfl,hg,hs,hc,hm,he,k7,k8,ab⟩;{simp only[aeR,Nat.le_zero]at hi;subst hi;obtain⟨v',w',F',k1,k2⟩:=app rfl;rw[ex]at k1⊢;refine(al w w' o q c v' k1).mono λe w2 hk=> ?_;obtain⟨rfl,rfl⟩:=hk;exact⟨v',F',rfl,k2⟩};{have C:F g:=(ab g).2 (.inl rfl);have a6:q≠g:=λh=>p g C (h▸a1);have bz:maxLen=9223372036854775807:=rfl;by_cases a8:i=xs.length;{subst a8;obtain⟨v',w',F',k1,k2⟩:=app (by simp);rw[ex]at k1⊢;refine(hA w w' g xs.length cap q c v' hc (by omega) (by omega) k1).mono λe w2 hk=> ?_;obtain⟨rfl,rfl⟩:=hk;exact⟨v',F',rfl,k2⟩};{(have ac:i<xs.length:=by omega);(have af:cur.toList.length=cap*t.size:=by rw[az,hs]);have ag:∀k u,xs[k]? =O u->Own w t ((cur.toList.drop (k*t.size)).take t.size) u (Fs k):=λk u hk=>he k u hk;have Ar:=il.head (t:=t) ag i;have Zr:=il.tail (t:=t) ag i;have hmul:xs.length*t.size<=cap*t.size:=ae8 _ hc;have a9:i*t.size<=xs.length*t.size:=ae8 _ hi;have bc:(xs.length-i)*t.size=xs.length*t.size-i*t.size:=agU _ _ _;(have Al:(cur.toList.take (i*t.size)).length=i*t.size:=by rw[afw,af];omega);(have Zl:((cur.toList.drop (i*t.size)).take ((xs.length-i)*t.size)).length=(xs.length-i)*t.size:=by rw[afw,aft,af];omega);have oZ:=il.one (t:=t) r (w:=w) (L:=(cur.toList.drop (i*t.size)).take ((xs.length-i)*t.size)) (zs:=xs.drop i) (by rw[Zl,aft]) Zr;have N:∀j b,j<xs.length->Fs j b->F b:=λj b E B=>(ab b).2 (.inr ⟨j,E,B⟩);have hR:Pk w g xs.length i q t.size (cur.toList.take (i*t.size)).toArray (K.toList.take t.size).toArray ((cur.toList.drop (i*t.size)).take ((xs.length-i)*t.size)).toArray:=⟨by simpa using Al,by simpa using Yl,by simpa using Zl,λj u E=>by have:=cell_of (w:=w) M (o:=0) (n:=t.size) (j:=j) (v:=u) (by simpa using E);simpa using this,λj u E=>cell_of (w:=w) hg (by simpa using E),by simpa using oY,by simpa using oZ⟩;have bd:=lt_of_heap hg;have be:=lt_of_heap M;rw[ex];by_cases s:xs.length+1<=cap;{refine(hC w g xs.length i q c cap tr tq cur K _ _ _ (by omega) (by omega) ac s hR ⟨a6,hg,M,hs,rfl⟩).mono λe w2 hk=> ?_;obtain⟨row,rfl,r1,r2,r3,r4,r5,H,r7,r8,r9⟩:=hk;obtain⟨F',f1,f2⟩:=Nb (t:=t) (w:=w) (w':=w2) (S:=λ_=>False) (F:=F) (G:=G) Al Yl hi Ar Yr Zr k7 N A p (λb _ B=>r8 b B) k8 (λh=>p g C (A g h)) r1 r2 s hm r3;exact⟨_,F',rfl,agO r7.symm,λQ l bf=>r8 Q λh=>bf (h▸C),r4,r5,H,(λa _=>r9 a),f1,λQ l=>(f2 Q l).elim (λh=>.inl (h▸C)) λh=>h.imp (λh=>h) .inl⟩};{(have bi:cap=xs.length:=by omega);subst bi;(have R:(loadCellsFrom ⟨g,0,U⟩ 0 (i*t.size) #[]).run P w.drew=.ok (cur.toList.take (i*t.size)).toArray w.drew:=by have:=run_loadCells_list (P:=P) w.drew ⟨g,0,U⟩ (cur.toList.take (i*t.size)) (λj u E=>by rw[eN,afb];have:=cell_of (w:=w) hg (o:=0) (n:=i*t.size) (j:=j) (v:=u) (by simpa using E);simpa using this);rw[Al]at this;exact this);refine(hB w g xs.length i q c _ _ _ (by omega) ac hR R bd be).mono λe w2 hk=> ?_;obtain⟨bm,row,rfl,r1,r2,r3,r4,r5,H⟩:=hk;have old:∀b,F b\/G b->b<w.heap.size:=λb B=>B.elim (Y b) (J b);obtain⟨F',f1,f2⟩:=Nb (t:=t) (w:=w) (w':=w2) (S:=λ_=>False) (F:=F) (G:=G) Al Yl hi Ar Yr Zr k7 N A p (λb B _=>H.block b (old b B)) (λj E h=>absurd (Y _ (N j _ E h)) (agP _)) (λh=>absurd (J _ (A _ h)) (agP _)) r1 r2 r3 r4 r5;exact⟨_,F',rfl,H.size,λQ l _=>H.block Q l,H.os,H.tape,H.output,H.fz,f1,λQ l=>(f2 Q l).elim (λh=>.inr (.inr ⟨by omega,by rw[h];exact lt_of_heap r1⟩)) λh=>h.imp (λh=>h) .inl⟩}}}
end
end Go.Ab
namespace Go.Ab
open Go Go.RowKit Go.ChangeShapes Go.WideShapes
section
variable {H:Type} {enc:TypeId×Value->H} {P:Program}
theorem JZ[Tabs]{W:World}{base:Nat}{spare:Nat->Bool}{held:Bool}{fuel:Nat}{t e:TypeId}{v:Value}{d:DataW H}{p:List MemPlace}{x:List Int}{S:bu}(hu:P.underlying t=O (.slice e))(h1:DataW.trod enc P W base spare held fuel t v.cells.toList=O (d,p))(hx:eu S W (.slice (.int .u8)) v x):x=[]\/∃b rest,d=.slice b rest/\x.length=b.length:=by obtain⟨m,rfl,g⟩:=hx;obtain⟨_,h|⟨a,cap,h,_⟩⟩:=g;{exact .inl h.2};{subst h;rcases DataW.trod_slice hu h1 with ⟨h,_⟩|⟨a',len,c,b,rest,n,_,i,j,_,_,_,k,_⟩;{cases h};{right;cases j;refine⟨_,_,rfl,?_⟩;have l:(Value.slice (O a) x.length cap).cells.toList=[.slice (O a) x.length cap]:=rfl;have f:[Value.slice (O a) x.length cap]=[Value.slice (O a') len c]:=l.symm.trans i;simp only[List.cons.injEq,Value.slice.injEq,and_true]at f;rw[agE,k];exact f.2.1}}
theorem LU[Tabs]{f:FuncId}{fn:Func}{g:bS (PK.dw [.val (.slice (.int .u8)),.val (.slice (.int .u8))])->Option (bS (PK.dY [.val (.slice (.int .u8)),.val (.slice (.int .u8))] (RK.dw [.val .bool])))}(hC:Sound P f ⟨[.val (.slice (.int .u8)),.val (.slice (.int .u8))],[.val .bool],g⟩){s:ChangeSpec}{bk:DataW H->Nat}(hb:IU bk)(n:Nat)(S:tB P n fn.params.toList [.val (.slice (.int .u8)),.val (.slice (.int .u8))]=true){tb t1 t2 T V:TypeId}(w:fn.params.toList=[t1,t2])(y:P.underlying t1=O (.slice T))(z:P.underlying t2=O (.slice V))(D:P.bytesOf T=1)(E:P.bytesOf V=1)(l:fn.resultTypes= #[tb])(A:P.underlying tb=O .bool)(c:s.vars=[])(hs:∀i:List (DataW H),fn.params.toList.length=i.length->s.fn H i=⟨[.lit (.bool true)],i,[]⟩)(plain:∀x,qm [.val (.slice (.int .u8)),.val (.slice (.int .u8))] x->aeP (α:=Int) x.1<=140737488355328->aeP (α:=Int) x.2<=140737488355328->∃r,g x=O r/\xd [.val (.slice (.int .u8)),.val (.slice (.int .u8))] r=O true){apart fresh handsOn again:Bool}{W:World}{base:Nat}{args:Array Value}{i gs:List (DataW H)}{before:List MemPlace}(hval:∀(j:Nat) t v,fn.params[j]? =O t->args[j]? =O v->Value.okWide P W .any base t v)(X:DataW.Whole enc P fn.params.toList s.vars apart W args.toList i gs before){vt:List TypeId}(d:(DataW.weightsEach P (fn.params.toList++vt) (i++gs)).all (· <=reachBytes)=true)(hT:lU W W.heap.size (λ_=>False)):Calls P f args W λe F=>∃v,e=.returned v/\s.post enc P fn apart fresh handsOn again W args v F:=by have G:=X;obtain⟨p,q,I,Y,rfl,aa,ab⟩:=X;have hA:DataW.TrodAll enc P W 0 (λ_=>true) true fn.params.toList args.toList i p:=I;rw[c]at Y;obtain⟨rfl,rfl⟩:=trodVars_none Y;obtain⟨x,hx,ac⟩:=Az hb S hA λj t v ht hv=>hval j t v (by simpa using ht) (by simpa using hv);(have hlen:aeP (α:=Int) x.1<=140737488355328/\aeP (α:=Int) x.2<=140737488355328:=by have m:=hA;rw[w]at m;obtain⟨v1,r1,ea,J,v2,r2,eb,K,ec,_⟩:=hx;subst ec;subst eb;rw[ea]at m;match i,m,d with|[d1,d2],h,d=>obtain⟨p1,q1,⟨ad,h1⟩,⟨p2,q2,⟨af,h2⟩,_⟩,_⟩:=h;have Z:reachBytes=140737488351232:=rfl;rw[aew,w]at d;constructor;{rcases JZ y h1 J with h|⟨a,rest,o,hl⟩;{have h':x.1=[]:=h;rw[h'];simp};{have:=sized_slice d (j:=0) (t:=t1) rfl (by rw[o];rfl) y;rw[D,agS]at this;have L:aeP (α:=Int) x.1=a.length:=hl;omega}};{rcases JZ z h2 K with h|⟨a,rest,o,hl⟩;{have h':x.2=[]:=h;rw[h'];simp};{have:=sized_slice d (j:=1) (t:=t2) rfl (by rw[o];rfl) z;rw[E,agS]at this;have L:aeP (α:=Int) x.2=a.length:=hl;omega}});obtain⟨r,Z,hm⟩:=plain x (hx.qm rfl) hlen.1 hlen.2;have call:=hC W args.toList x r (Old W) (λ_=>False) hT (λ_ h=>h) hx (λ_ h=>h.elim) Z;(have e:args.toList.toArray=args:=by simp);rw[e]at call;refine Calls.mono call λe F k=> ?_;obtain⟨vs,S',FM,FR,rfl,past,_,_,out,_,_⟩:=k;have res:=nI rfl hm out;obtain⟨v,r',rfl,⟨M,e',k'⟩,rfl,_⟩:=res;have N:M=[.bool true]:=k';subst N;subst e';refine⟨.bool true,rfl,?_⟩;have hs:=hs i (pT hA).symm;have Q:=DataW.TrodAll.lt hA;have u:∀C∈p,W.sameAt F C:=λC R=>xE (past.block C.block (Q C R) λh=>h);refine sL (pa:=p) (pv:=[]) G (λb sp ag=> ?_) (λsp B=> ?_) (λsp _=> ?_) rfl (yC past _) past.fz ?_;{rw[aew,hs,l];exact trodAll_mk1 (shut_bool A true)};{rw[aew,hs];simp only[aew]at B;exact rO (tj S) hA u B};{rw[aew,hs,c];exact rfl};{exact ok_one l rfl (okWide_bool_mk A true)}
end
end Go.Ab
namespace Go.Ab
open Go Go.RowKit Go.Lib
def zw:Obj->Prop:=λo=>∃(cs:Array Value) (e:TypeId) (fz:Nat×Nat) (n:Int),o=.cells cs e fz/\cs[0]? =O (.int .i64 n)
theorem Hi{w:World}{g:Nat}{o:Obj}(h:w.heap[g]? =O o)(hi:zw o):∃n,w.cell? ⟨g,0,U⟩=O (.int .i64 n):=by obtain⟨cs,e,fz,n,rfl,h1⟩:=hi;exact⟨n,by simp only[World.cell?,h,afe,aen,if_false];exact h1⟩
def tC(s sep:Bytes):Option (List Bytes):=if s.length<4294967281/\1<=sep.length then O ((splitB ⟨⟨sep⟩⟩ 0 (countB ⟨⟨s⟩⟩ ⟨⟨sep⟩⟩) ⟨⟨s⟩⟩).map (·.data.toList))else U
theorem zW(sep:ByteArray):∀(k:Nat) (s:ByteArray),∀x∈splitB sep 0 k s,x.size<=s.size
 |0,s,x,h=>by rw[splitB_zero]at h;simp at h;subst h;exact aB _
 |k+1,s,x,h=>by by_cases hm:indexB s sep= -1;{rw[splitB_miss _ _ _ _ hm]at h;simp at h;subst h;exact aB _};{(have hn:0<=indexB s sep\/indexB s sep<0:=by omega);unfold splitB at h;split at h;{simp at h;subst h;exact aB _};{rcases aeT.1 h with rfl|h;{simp only[ByteArray.size_extract];omega};{have:=zW sep k _ x h;simp only[ByteArray.size_extract]at this;omega}}}
theorem iu.Oa{w:World}(c:Array Value)(t:TypeId)(a:bu):iu w (w.alloc (.cells c t)) a:=
  let g:=Grow.alloc w c t
  ⟨g.os,g.tape,g.output,g.size,λq hq _=>g.block q hq,g.fz⟩
theorem IQ[Tabs]{P:Program}{f:FuncId}{g:Nat}{t9:TypeId}(hc:∀(s sep:ByteArray) (n:Int) (w:World),s.size<4294967281->w.cell? ⟨g,0,U⟩=O (.int .i64 n)->1<=sep.size->Calls P f #[.string s,.string sep] w λe w'=>e=.returned (.slice (O ⟨w.heap.size,0,U⟩) (countB s sep+1) (countB s sep+1))/\w'=w.alloc (.cells ((splitB sep 0 (countB s sep) s).map Value.string).toArray t9))(hg:(g,zw)∈Tabs.l):Sound P f ⟨[.val .str,.val .str],[.own (.slice .str)],λx=>tC x.1 x.2⟩:=by intro w args x r S H hT v j z d;obtain⟨v1,r1,rfl,⟨d1,rfl,k1⟩,v2,r2,rfl,⟨d2,rfl,k2⟩,rfl,_⟩:=j;obtain⟨rfl,A⟩:=k1;obtain⟨rfl,B⟩:=k2;obtain⟨a,c⟩:=x;simp only[headD,tailD]at A B⊢;have d:tC a c=O r:=d;unfold tC at d;split at d;{rename_i hlen;injection d with d;obtain⟨_,_,o,ho,hi⟩:=hT _ hg;obtain⟨n,hn⟩:=Hi ho hi;refine Calls.mono (hc ⟨⟨a⟩⟩ ⟨⟨c⟩⟩ n w hlen.1 hn hlen.2) ?_;rintro e w' ⟨rfl,rfl⟩;have hl:=splitB_all ⟨⟨c⟩⟩ hlen.2 0 _ ⟨⟨a⟩⟩ rfl;generalize C:splitB ⟨⟨c⟩⟩ 0 (countB ⟨⟨a⟩⟩ ⟨⟨c⟩⟩) ⟨⟨a⟩⟩=L at*;have u:∀y∈L,y.size<=a.length:=λy D=>zW ⟨⟨c⟩⟩ _ ⟨⟨a⟩⟩ y (C▸D);have E:countB ⟨⟨a⟩⟩ ⟨⟨c⟩⟩<=a.length:=countB_le ⟨⟨c⟩⟩ hlen.2 a.length ⟨⟨a⟩⟩ (aB _);have m:(w.alloc (.cells (L.map Value.string).toArray t9)).heap[w.heap.size]? =O (.cells (L.map Value.string).toArray t9 (0,0)):=Array.getElem?_push_size;refine⟨[.slice (O ⟨w.heap.size,0,U⟩) (countB ⟨⟨a⟩⟩ ⟨⟨c⟩⟩+1) (countB ⟨⟨a⟩⟩ ⟨⟨c⟩⟩+1)],S,λ_=>False,λq=>q=w.heap.size,rfl,iu.Oa _ _ _,λq h=>h,λq h=>.inl h,⟨λq h=>h,?_⟩,λq h=>h.elim,λq hq=> ?_⟩;{refine⟨_,[],λq=>q=w.heap.size,λ_=>False,rfl,⟨[_],rfl,?_⟩,⟨rfl,λ_ h=>h⟩,λ_ _ h=>h,λq=>by simp⟩;refine⟨_,rfl,.inr ⟨w.heap.size,countB ⟨⟨a⟩⟩ ⟨⟨c⟩⟩+1,(L.map Value.string).toArray,t9,λ_ _=>False,?_,m,by simp[hl,Ty.size],?_,?_,λi y hi=> ?_,λ_ _ _ _ _ h=>h.elim,λ_ _ h=>h,λb=>by simp⟩⟩;{show Value.slice _ _ _=Value.slice _ (aeP r) _;rw[<-d,agE,hl]};{show aeP r<=_;rw[<-d,agE,hl];exact aB _};{unfold maxLen;omega};{have hi:r[i]? =O y:=hi;rw[<-d,aeL]at hi;cases k:L[i]? with|none=>rw[k]at hi;cases hi|some b=>rw[k]at hi;simp only[aff,aw]at hi;have p:b∈L:=aF k;have t:i<L.length:=(aeK.1 k).1;(have F:((L.map Value.string).toArray.toList.drop (i*Ty.size .str)).take (Ty.size .str)=[Value.string b]:=by simp only[Ty.size,agS];rw[<-List.map_drop,List.drop_eq_getElem_cons t];(have:L[i]=b:=by rw[aJ t]at k;exact aA k);simp[this]);rw[F];refine⟨⟨?_,?_⟩,λ_ h=>h⟩;{rw[<-hi]};{have:=u b p;(have G:y.length=b.size:=by rw[<-hi];exact(az (xs:=b.data)));rw[G];unfold maxLen;omega}}};{subst hq;refine⟨aB _,by rw[show(w.alloc (.cells (L.map Value.string).toArray t9)).heap.size=w.heap.size+1 from Array.size_push _];omega,λh=>agP _ (v _ h),λh=>h⟩}};{cases d}
def pZ(cs:Array Value):Obj->Prop:=λo=>∃(e:TypeId) (fz:Nat×Nat),o=.cells cs e fz
theorem yw{P:Program}{w:World}{name:String}{g:Nat}{k:IntKind}{zs:List Int}{o:Obj}(hg:P.globalNamed name=O g)(ho:w.heap[g]? =O o)(h:pZ (zs.map λz=>Value.int k z).toArray o):TabIs P w name k zs:=by obtain⟨e,fz,rfl⟩:=h;unfold TabIs World.var?;rw[hg];simp only[ah,ho]
theorem Ht{P:Program}{w:World}{name:String}{g:Nat}{k:IntKind}{zs:List Int}(hg:P.globalNamed name=O g)(h:TabIs P w name k zs):g<w.heap.size/\¬False/\∃o,w.heap[g]? =O o/\pZ (zs.map λz=>Value.int k z).toArray o:=by unfold TabIs World.var? at h;rw[hg]at h;simp only[ah]at h;split at h;{rename_i cs e fz a;cases h;exact⟨(af0.1 a).1,λh=>h,_,a,e,fz,rfl⟩};{cases h}
theorem zV{w w':World}{a:Addr}(h:w'.heap[a.block]? =w.heap[a.block]?):w'.frozen? a=w.frozen? a:=by unfold World.frozen?;rw[h]
theorem iu.of_below{w w':World}(h:Below w.heap.size w w')(a:bu):iu w w' a:=⟨h.os,h.tape,h.output,h.size,λq hq _=>h.block q hq,λ_ ha=>zV (h.block _ ha)⟩
theorem iu.MO{w:World}(k:Nat)(os:Array Obj)(c:bu):iu w (Sort.grow (w.drewN k) os) c:=by(have b:∀q,q<w.heap.size->(Sort.grow (w.drewN k) os).heap[q]? =w.heap[q]? :=λq hq=>by show(w.heap++os)[q]? =_;rw[afZ hq]);exact⟨rfl,rfl,rfl,by show w.heap.size<=(w.heap++os).size;rw[agz];omega,λq hq _=>b q hq,λa ha=>zV (b _ ha)⟩
def wl(n:Int):Option Bytes:=O (itoa n)
theorem sD{w w':World}{S a:bu}(_:∀q,S q->q<w.heap.size)(p:iu w w' a){y:Bytes}(d:y.length<=maxLen):∃(vs:List Value) (S' b c:bu),Ending.returned (Value.string ⟨⟨y⟩⟩)=.returned (ur vs)/\iu w w' a/\(∀q,S q->S' q)/\(∀q,S' q->S q\/(w.heap.size<=q/\q<w'.heap.size))/\((∀q,¬b q)/\cV S' w' [.val .str] vs y c)/\(∀q,b q->(a q\/w.heap.size<=q)/\q<w'.heap.size/\¬S' q)/\(∀q,c q->w.heap.size<=q/\q<w'.heap.size/\¬S' q/\¬b q):=⟨[.string ⟨⟨y⟩⟩],S,λ_=>False,λ_=>False,rfl,p,λ_ h=>h,λ_ h=>.inl h,⟨λ_ h=>h,_,[],rfl,⟨[_],rfl,rfl,d⟩,rfl,λ_ h=>h⟩,λ_ h=>h.elim,λ_ h=>h.elim⟩
theorem KI[Tabs]{P:Program}{f:FuncId}{g:Nat}(b:P.globalNamed "internal/strconv.uint64pow10" =O g)(hc:∀(n:Int) (w:World),-9223372036854775808≤n→n≤9223372036854775807→TabIs P w "internal/strconv.uint64pow10" .u64 pow10Tab→Calls P f #[.int .i64 n] w fun e w'=>e=.returned (.string ⟨(itoa n).toArray⟩)∧∃k os,w'=Sort.grow (w.drewN k) os)(hg:(g,pZ (pow10Tab.map fun z=>Value.int .u64 z).toArray)∈Tabs.l):Sound P f ⟨[.val (.int .i64)],[.val .str],fun x=>wl x⟩:=by intro w args x r S d hT h a i c;obtain⟨v1,r1,rfl,⟨d1,rfl,k1⟩,rfl,_⟩:=a;obtain⟨rfl,j⟩:=k1;have c:wl x=O r:=c;cases c;obtain⟨_,_,o,ho,hi⟩:=hT _ hg;(have hw: -9223372036854775808≤(x:Int)∧(x:Int)≤9223372036854775807:=by have:(Lit.int .i64 (x:Int)).wf=true:=j;simp only[Lit.wf,ak,au]at this;exact this);refine Calls.mono (hc x w hw.1 hw.2 (yw b ho hi)) ?_;rintro e w' ⟨rfl,k,os,rfl⟩;have hlen:=itoa_length_le x hw.1 hw.2;exact sD h (iu.MO k os d) (by unfold maxLen;omega)
def uK(xs:List Bytes)(sep:Bytes):Option Bytes:=if xs.length<=140737488355328/\(join xs sep).length<=140737488355328 then O (join xs sep)else U
theorem Lm[Tabs]{P:Program}{f:FuncId}(h0:∀(a:Option Addr) (c:Nat) (sep:ByteArray) (w:World),Calls P f #[.slice a 0 c,.string sep] w λe w'=>e=.returned (.string ⟨#[]⟩)/\w'=w)(hc:∀(bk o c:Nat) (xs:List ByteArray) (sep:ByteArray) (w:World),(∀(j:Nat) x,xs[j]? =O x->w.cell? ⟨bk,o+j,U⟩=O (.string x))->bk<w.heap.size->xs.length<=140737488355328->xs.length<=c->(join (xs.map (·.data.toList)) sep.data.toList).length<=140737488355328->Calls P f #[.slice (O ⟨bk,o,U⟩) xs.length c,.string sep] w λe w'=>e=.returned (.string ⟨(join (xs.map (·.data.toList)) sep.data.toList).toArray⟩)/\Below w.heap.size w w'):Sound P f ⟨[.val (.slice .str),.val .str],[.val .str],λx=>uK x.1 x.2⟩:=by intro w args x r S u hT v g B d;obtain⟨v1,r1,rfl,⟨d1,rfl,k1⟩,v2,r2,rfl,⟨d2,rfl,k2⟩,rfl,_⟩:=g;obtain⟨rfl,C⟩:=k2;obtain⟨i,t⟩:=x;simp only[headD,tailD]at k1 C⊢;have d:uK i t=O r:=d;unfold uK at d;split at d;{rename_i hlen;injection d with d;subst d;(have big:∀n:Nat,n<=140737488355328->n<=maxLen:=λn h=>by unfold maxLen;omega);obtain⟨hl,⟨rfl,rfl⟩|⟨a,cap,rfl,k,l,he⟩⟩:=k1;{refine Calls.mono (h0 U 0 ⟨⟨t⟩⟩ w) ?_;rintro e w' ⟨rfl,rfl⟩;exact sD (y:=[]) v (iu.of_below (Below.refl _ _) u) (by simp)};{by_cases hx:i=[];{subst hx;refine Calls.mono (h0 (O a) cap ⟨⟨t⟩⟩ w) ?_;rintro e w' ⟨rfl,rfl⟩;exact sD (y:=[]) v (iu.of_below (Below.refl _ _) u) (by simp)};{obtain⟨m,z,p⟩:=l.resolve_left hx;obtain⟨bk,off,sp⟩:=a;simp only at m p he z;subst m;(have A:(i.map λb=>(⟨⟨b⟩⟩:ByteArray)).map (·.data.toList)=i:=by rw[afy];simp[Function.comp_def]);have call:=hc bk off cap (i.map λb=>⟨⟨b⟩⟩) ⟨⟨t⟩⟩ w (λj y q=>by rw[aeL]at q;cases l:i[j]? with|none=>rw[l]at q;cases q|some b=>rw[l]at q;cases q;obtain⟨E,_,D,rfl,_⟩:=he j b l;have:=D 0 _ rfl;simpa[Ty.size]using this) p (by rw[agE];exact hlen.1) (by rw[agE];exact k.1) (by rw[A];exact hlen.2);rw[A,agE]at call;refine Calls.mono call ?_;rintro e w' ⟨rfl,s⟩;exact sD v (iu.of_below s u) (big _ hlen.2)}}};{cases d}
end Go.Ab
namespace Go.Ab
open Go
theorem um{C:Checked}{os:Os}{f:FuncId}{fn:Func}{s:OpenSpec}{conds:List PathCond}{laid:List (String×DataW Unit)}{H:Type}{enc:TypeId×Value->H}(w0:World)(args:Array Value)(c:w0.os=os)
    (d:(w0.forCall (λ_ _=>0) ⟨#[],args,[]⟩).variablesZipB C.prog=true)
    (e:((w0.forCall (λ_ _=>0) ⟨#[],args,[]⟩).heap.toList.drop C.prog.globals.size).take ((begin C.prog (λ_ _=>0) default).world.heap.size-C.prog.globals.size)=
      (begin C.prog (λ_ _=>0) default).world.heap.toList.drop C.prog.globals.size)
    (a:Input.okWideB C.prog (w0.forCall (λ_ _=>0) ⟨#[],args,[]⟩) f ⟨#[],args,[]⟩=true)
    (b:s.preRow enc C.prog fn conds false laid (w0.forCall (λ_ _=>0) ⟨#[],args,[]⟩).memory args):
    ∃(w:World) (tape:Tape) (i:Input),w.os=os/\(w.forCall tape i).Shaped C.prog/\i.vars=[]/\Input.okWide C.prog (w.forCall tape i) .any w.heap.size f i/\
     s.preRow enc C.prog fn conds false laid (w.forCall tape i).memory i.args/\({}:Assume).holds C.prog (lone (Frame.enter C.prog f i.args .normal) [] (w.forCall tape i)):=
  ⟨w0,λ_ _=>0,⟨#[],args,[]⟩,c,World.shaped_of_ZipB d e,(Input.okWide_of_okWideB (base:=0) a).1,(Input.okWide_of_okWideB a).2,b,by
    simp only[Assume.holds];exact⟨by simp,by simp,λ_=>Modest.zero,by simp,by simp⟩⟩
theorem Il{w:World}{g:Nat}{v:Value}(h:w.cell? ⟨g,0,U⟩=O v):∃cs e fz,w.heap[g]? =O (.cells cs e fz)/\cs[0]? =O v:=by simp only[World.cell?]at h;split at h;{rename_i cs e fz a;exact⟨cs,e,fz,a,by simpa using h⟩};{cases h}
theorem Ff{P:Program}{w:World}{g:Nat}{t:TypeId}{zero:Array Value}(h:w.ShapedOpen P)(hg:g<P.globals.size)(h0:((begin P (λ_ _=>0) default).world.heap[g]?).bind Obj.row? =O (zero,t))(a:zero.size=1)(b:P.buildable t=true)(hc:P.cellTypes P.depth t=O [t])(hu:P.underlying t=O (.int .i64)):g<w.heap.size/\¬False/\∃o,w.heap[g]? =O o/\zw o:=by obtain⟨m,hm⟩:=Proofs.cell_of_shapedOpen_int h hg h0 a b hc hu;obtain⟨cs,e,fz,h1,c⟩:=Il hm;exact⟨(af0.1 h1).1,λh=>h,_,h1,cs,e,fz,m,rfl,c⟩
theorem Jz{P:Program}{W:World}{l:List (String×DataW Unit)}{name:String}{k:IntKind}{zs:List Int}{g:Nat}{t e:TypeId}{n:Nat}(hg:P.globalNamed name=O g)(b:(P.globals[g]?).map (·.type)=O t)(ht:P.underlying t=O (.array n e))(he:P.underlying e=O (.int k))(c:P.cellsOf e=1)(d:P.cellsOf t=n)(hp:(l.all λx=>x.2.handleName?.isNone)=true)(hm:(name,Lib.tabData k zs)∈l)(h:laidMetH P l W):g<W.heap.size/\¬False/\∃o,W.heap[g]? =O o/\pZ (zs.map λz=>Value.int k z).toArray o:=by rw[MakeChecks.laidMetH_plain _ _ _ hp]at h;refine Ht (name:=name) hg ?_;obtain⟨m,q,cs,fuel,p,f,i,a,j⟩:=Lib.laidMet.reads h hm;obtain rfl:=aA (hg.symm.trans f);obtain rfl:=aA (b.symm.trans i);unfold Lib.TabIs;rw[a,<-Lib.cells_of_tab ht he c d j]
end Go.Ab
namespace Go.Ab
open Go Go.Lib
theorem Ga(u:Nat)(h:u<10):toStr [(IntKind.u8.wrap (aW (48+(u:Int))))]=[UInt8.ofNat (48+u)]:=by(have e:IntKind.u8.wrap (aW (48+(u:Int)))=((48+u:Nat):Int):=by rw[aZ (by omega) (by omega)];unfold IntKind.wrap;simp only[IntKind.signed,IntKind.bits];simp;omega);rw[e];rfl
theorem Cg(u:Nat)(h:u<18446744073709551616):(decDigits u).length<=20:=by rw[decDigits_length];exact nDigits_le20 u h
theorem PU{g:Int->Option Bytes}{u:Nat}(hu:u<=9223372036854775807):(bif(ae ((u:Int)<10))then O (toStr [(IntKind.u8.wrap (aW (48+(u:Int))))])else(g (aW (agA (u:Int) 10))).bind λr1=>bif ae (aeP r1+aeP (toStr [(IntKind.u8.wrap (aW (48+(agB (u:Int) 10))))])<=lim)then O (r1++(toStr [(IntKind.u8.wrap (aW (48+(agB (u:Int) 10))))]))else U)=if u<10 then O [UInt8.ofNat (48+u)]else(g ((u/10:Nat):Int)).bind λr1=>if r1.length+1<=lim then O (r1++[UInt8.ofNat (48+u%10)])else U:=by by_cases h:u<10;{rw[aN h,aq (show(u:Int)<10 by omega),Ga u h];rfl};{(have b:agA (u:Int) 10=((u/10:Nat):Int):=by rw[Int.tdiv_eq_ediv_of_nonneg (by omega)];omega);(have c:agB (u:Int) 10=((u%10:Nat):Int):=by rw[Int.tmod_eq_emod_of_nonneg (by omega)];omega);rw[aM h,ar (show¬(u:Int)<10 by omega),b,c,Ga (u%10) (by omega),aZ (x:=((u/10:Nat):Int)) (by omega) (by omega)];simp only[aj,aeQ,aeR,afb];congr 1;funext r1;by_cases a:r1.length+1<=lim;{rw[aN a,aq a];rfl};{rw[aM a,ar a];rfl}}
theorem Sd{it:Nat->Int->Option Bytes}(h0:∀n,it 0 n=U)(hs:∀k n,it (k+1) n=(bif(ae (n<10))then O (toStr [(IntKind.u8.wrap (aW (48+n)))])else(it k (aW (agA n 10))).bind λr1=>bif ae (aeP r1+aeP (toStr [(IntKind.u8.wrap (aW (48+(agB n 10))))])<=lim)then O (r1++(toStr [(IntKind.u8.wrap (aW (48+(agB n 10))))]))else U)){n:Int}(hn:0<=n)(hm:n<=9223372036854775807):LW (λk=>it k n)=O (itoa n):=by have d:lim=4294967296:=rfl;have step:∀k (u:Nat),u<=9223372036854775807->it (k+1) (u:Int)=if u<10 then O [UInt8.ofNat (48+u)]else(it k ((u/10:Nat):Int)).bind λr1=>if r1.length+1<=lim then O (r1++[UInt8.ofNat (48+u%10)])else U:=λk u hu=>(hs k u).trans (PU hu);(have small:∀u,u<10->decDigits u=[UInt8.ofNat (48+u)]:=λu h=>by rw[decDigits,dif_pos h]);(have more:∀u,¬u<10->decDigits u=decDigits (u/10)++[UInt8.ofNat (48+u%10)]:=λu h=>by rw[decDigits,dif_neg h]);(have A:∀k (u:Nat),u<=9223372036854775807->u<10^(k+1)->it (k+1) (u:Int)=O (decDigits u):=by intro k;induction k with|zero=>intro u hu h;rw[step 0 u hu,aN (by omega),small u (by omega)]|succ k c=>intro u hu h;rw[step (k+1) u hu];by_cases a:u<10;{rw[aN a,small u a]};{have hp:10^(k+1+1)=10^(k+1)*10:=agT ..;rw[aM a,c (u/10) (by omega) (by omega),ah,aN (by have:=Cg (u/10) (by omega);omega),<-more u a]});(have B:∀k (u:Nat) r,u<=9223372036854775807->it k (u:Int)=O r->r=decDigits u:=by intro k;induction k with|zero=>intro u r _ h;rw[h0]at h;cases h|succ k c=>intro u r hu h;rw[step k u hu]at h;by_cases a:u<10;{rw[aN a]at h;rw[small u a];exact(aA h).symm};{rw[aM a,ay]at h;obtain⟨r1,h1,b⟩:=h;have:=c (u/10) r1 (by omega) h1;subst this;split at b;{rw[more u a];exact(aA b).symm};{cases b}});obtain⟨u,rfl⟩:∃u:Nat,n=u:=⟨n.toNat,by omega⟩;rw[itoa_nonneg];refine Tu ⟨u+1,A u u (by omega) ?_⟩ λk e h=>B k u e (by omega) h;have:u<10^u:=Nat.lt_pow_self (by omega);have b:10^(u+1)=10^u*10:=agT ..;omega
theorem vz{n:Int}(h0:0<=n)(h1:n<=9223372036854775807):(itoa n).length<=21:=itoa_length_le n (by omega) (by omega)
end Go.Ab
namespace Go.Ab
open Go Go.RowKit Go.Sort
structure Flat (t:Ty) (enc:t.den->List Value) (wf:t.den->Prop):Prop where
  own:∀(w:World) (cs:List Value) (x:t.den) (F:bu),Own w t cs x F↔(cs=enc x/\wf x)/\∀q,¬F q
  len:∀x,(enc x).length=t.size
theorem QI:Flat (.int .i64) (λx=>[.int .i64 x]) (CC .i64):=⟨λ_ _ _ _=>Iff.rfl,λ_=>rfl⟩
abbrev T3:Ty:=.pair (.int .i64) (.pair (.int .i64) (.pair (.int .i64) .unit))
def Nf(x:T3.den):List Value:=[.int .i64 x.1,.int .i64 x.2.1,.int .i64 x.2.2.1]
def wf3(x:T3.den):Prop:=CC .i64 x.1/\CC .i64 x.2.1/\CC .i64 x.2.2.1
theorem P1:Flat T3 Nf wf3:=⟨λw cs x F=>by
  constructor
  ·rintro⟨a,b,G,H,rfl,⟨⟨rfl,i⟩,hG⟩,⟨c,d,s,t,rfl,⟨⟨rfl,j⟩,k⟩,⟨e,f,G3,u,rfl,⟨⟨rfl,l⟩,m⟩,⟨rfl,n⟩,_,o⟩,_,p⟩,_,r⟩
   refine⟨⟨rfl,i,j,l⟩,λq hq=> ?_⟩;rcases(r q).1 hq with h|h
   ·exact hG q h
   ·rcases(p q).1 h with h|h
    ·exact k q h
    ·rcases(o q).1 h with h|h
     ·exact m q h
     ·exact n q h
  ·rintro⟨⟨rfl,i,j,l⟩,g⟩
   refine⟨[_],[_,_],F,F,rfl,⟨⟨rfl,i⟩,g⟩,⟨[_],[_],F,F,rfl,⟨⟨rfl,j⟩,g⟩,⟨[_],[],F,F,rfl,⟨⟨rfl,l⟩,g⟩,⟨rfl,g⟩,λq h=>absurd h (g q),λq=>by simp⟩,λq h=>absurd h (g q),λq=>by simp⟩,λq h=>absurd h (g q),λq=>by simp⟩,λ_=>rfl⟩
variable {P:Program} {f:FuncId} {t:Ty} {enc:t.den->List Value} {wf:t.den->Prop} {w:World}
theorem Ov[Inhabited t.den](_:Flat t enc wf)(d:Array t.den)(i j:Nat)(hi:i<d.size)(b:j<t.size):(flatK enc t.size d)[i*t.size+j]! =(enc d[i]!)[j]! :=by(have a:i*t.size+j<d.size*t.size:=by have:=ae8 t.size (agV hi);rw[agW]at this;omega);rw[get_flatK _ _ _ _ a];(have h0:0<t.size:=by omega);rw[agR,Nat.mul_add_div h0,Nat.div_eq_of_lt b,Nat.mul_add_mod,Nat.mod_eq_of_lt b,ae1]
theorem Oy[Inhabited t.den]{d:Array t.den}{n g:Nat}{os:Array Obj}{cur:Array Value}{e:TypeId}(hg:w.heap[g]? =O (.cells cur e (0,0))){w':World}(hw:w'=grow (putRow id (Sort.ahead w n) g 0 (flatK enc t.size d)) os):w'.heap[g]? =O (.cells (putCells id 0 (flatK enc t.size d) cur) e (0,0))/\(∀q,q<w.heap.size->q≠g->w'.heap[q]? =w.heap[q]?)/\w.heap.size<=w'.heap.size/\w'.os=w.os/\w'.tape=w.tape/\w'.output=w.output/\∀a:Addr,a.block<w.heap.size->w'.frozen? a=w.frozen? a:=by subst hw;have b:=lt_of_heap hg;(have c:∀q,q<w.heap.size->(grow (putRow id (Sort.ahead w n) g 0 (flatK enc t.size d)) os).heap[q]? =(w.heap[q]?).map λo=>if q=g then onCells (putCells id 0 (flatK enc t.size d)) o else o:=λq hq=>by(have h1:q<(w.heap.modify g (onCells (putCells id 0 (flatK enc t.size d)))).size:=by simpa using hq);show((w.heap.modify g (onCells (putCells id 0 (flatK enc t.size d))))++os)[q]? =_;rw[afZ h1,Array.getElem?_modify];by_cases e:g=q;{subst e;simp};{rw[aM e];have:¬q=g:=λh=>e h.symm;simp[this]});refine⟨by rw[c g b,hg];simp[onCells],λq hq f=>by rw[c q hq];simp[f],?_,rfl,rfl,rfl,λa ha=> ?_⟩;{show w.heap.size<=((w.heap.modify g _)++os).size;simp};{unfold World.frozen?;rw[c a.block ha];by_cases e:a.block=g;{rw[e,hg];simp[onCells]};{cases w.heap[a.block]? <;>simp[e]}}
theorem O7[Tabs][Inhabited t.den](k:Flat t enc wf)(hp:0<t.size){ps:List PK}(_:ct ps=true){b:List t.den->List t.den}(d:∀xs,(b xs).Perm xs){v:Value}{xs:List t.den}{G:bu}(o:Own w (.slice t) [v] xs G):(∃a:Option Addr,v=.slice a 0 0/\xs=[]/\∀q,¬G q)\/∃g cap,v=.slice (O ⟨g,0,U⟩) xs.toArray.size cap/\xs.toArray.size<=maxLen/\HoldsK enc t.size w g 0 xs.toArray/\g<w.heap.size/\G g/\∀(n:Nat) (os:Array Obj) (w':World),w'=grow (putRowK enc t.size (Sort.ahead w n) g 0 (b xs).toArray) os->iu w w' G/\Own w' (.slice t) [v] (b xs) G:=by obtain⟨v',y,o⟩:=o;cases y;rcases o with ⟨⟨a,h1⟩,m,z⟩|⟨g,cap,cur,e,Fs,h1,m,z,s,D,A,N,P,u⟩;{exact .inl ⟨a,h1,m,z⟩};{refine .inr ⟨g,cap,by rw[h1];simp,by simpa using aC s D,?_,lt_of_heap m,(u g).2 (.inl rfl),?_⟩;{intro j f;simp only[size_flatK,agI]at f;have hi:j/t.size<xs.length:=Nat.div_lt_of_lt_mul (by rw[agR];exact f);have B:=((k.own _ _ _ _).1 (A (j/t.size) xs[j/t.size] (by simp[hi]))).1.1;have hm:j%t.size<t.size:=agQ _ hp;(have p:j<cur.size:=by have:=ae8 t.size s;omega);refine⟨?_,by unfold World.frozen?;rw[m];simp⟩;unfold World.cell?;rw[m];simp only[afe,aen,if_false,afb];rw[show(flatK enc t.size xs.toArray)[j]! =(enc xs.toArray[j/t.size]!)[j%t.size]! from get_flatK _ _ _ _ (by simpa using f)];(have E:xs.toArray[j/t.size]! =xs[j/t.size]:=by simp[hi]);rw[E,<-B];(have F:(((cur.toList.drop (j/t.size*t.size)).take t.size))[j%t.size]! =cur[j]:=by have C:j/t.size*t.size+j%t.size=j:=Nat.div_add_mod' j t.size;rw[List.getElem!_eq_getElem?_getD,afs hm,aeJ,C];simp[p]);rw[F];simp[p,id]};{intro n os w' hw;obtain⟨k1,k2,k3,H,I,J,K⟩:=Oy (t:=t) (enc:=enc) m hw;have c:=(d xs).length_eq;refine⟨⟨H,I,J,k3,λq hq hn=>k2 q hq λe=>hn (e▸(u g).2 (.inl rfl)),K⟩,v,rfl,.inr ⟨g,cap,_,e,λ_ _=>False,by rw[h1,c],k1,?_,by rw[c];exact s,D,λi x hi=> ?_,λ_ _ _ _ _ h=>h.elim,λ_ _ h=>h,λq=> ?_⟩⟩;{simp[putCells,z]};{(have l:i<xs.length:=by rw[<-c];exact(aeK.1 hi).1);refine(k.own _ _ _ _).2 ⟨⟨?_,?_⟩,λ_ h=>h⟩;{apply List.ext_getElem?;intro j;by_cases f:j<t.size;{(have L:i*t.size+j<xs.length*t.size:=by have:=ae8 t.size (agV l);rw[agW]at this;omega);(have hc:i*t.size+j<cur.size:=by have:=ae8 t.size s;omega);rw[afs f,aeJ,Array.getElem?_toList];(have M:(flatK enc t.size (b xs).toArray).size=xs.length*t.size:=by simp[c]);simp only[putCells,Array.getElem?_mapIdx,afc,afb,true_and,M];(have hx:(b xs).toArray[i]! =x:=by(have:i<(b xs).length:=by rw[c];exact l);have hx:=(aeK.1 hi).2;simp[this,hx]);have:=Ov k (b xs).toArray i j (by simp[c,l]) f;rw[hx]at this;simp only[Array.getElem?_eq_getElem hc,aff,aN L,Nat.sub_zero,id,this];(have hlen:j<(enc x).length:=by rw[k.len];exact f);simp[hlen]};{rw[agi (by simp;omega),agi (by rw[k.len];omega)]}};{have r:x∈xs:=(d xs).mem_iff.1 (aF hi);obtain⟨j,f,rfl⟩:=aeN r;exact((k.own _ _ _ _).1 (A j xs[j] (by simp[f]))).1.2}};{have hn:∀i,i<xs.length->¬Fs i q:=λi hi h=>((k.own _ _ _ _).1 (A i xs[i] (by simp[hi]))).2 q h;exact⟨λh=>.inl (((u q).1 h).resolve_right λ⟨i,hi,h⟩=>hn i hi h),λh=>(u q).2 (.inl (h.resolve_right λ⟨_,_,h⟩=>h))⟩}}}
theorem MI{α:Type}[Inhabited α](c:α->Value)(d:Array α):flatK (λx=>[c x]) 1 d=d.map c:=by apply agy;{simp};{intro i h1 a;(have hi:i<d.size:=by simpa using a);simp[flatK,hi,Nat.mod_one]}
theorem PI{α:Type}[Inhabited α]{c:α->Value}{b o:Nat}{d:Array α}(h:HoldsK (λx=>[c x]) 1 w b o d):Holds c w b o d:=by unfold HoldsK at h;rw[MI]at h;intro j a;have:=h j (by simpa using a);simpa[a]using this
theorem UY{α:Type}[Inhabited α](c:α->Value)(w:World)(b o:Nat)(d:Array α):putRow c w b o d=putRowK (λx=>[c x]) 1 w b o d:=by unfold putRowK putRow;rw[MI];congr 1;funext k;unfold putCells;apply agy;{simp};{intro i h1 a;simp only[Array.getElem_mapIdx,Array.size_map];split;{rename_i h;(have:i-o<d.size:=by omega);simp[this]};{rfl}}
def sj{α:Type}(a:List α->List α)(l:List α):Option (List α):=if l.length<4611686018427387904 then O (a l)else U
theorem Bb[Tabs][Inhabited t.den](l:Flat t enc wf)(hp:0<t.size){c:List t.den->List t.den}(b:∀xs,(c xs).Perm xs)(mk:Value->Array Value)(d:∀(a:Option Addr) (w:World),Calls P f (mk (.slice a 0 0)) w λe w'=>e=.returned (.tuple #[])/\w'=w)(hc:∀(g cap:Nat) (xs:List t.den) (w:World),HoldsK enc t.size w g 0 xs.toArray->g<w.heap.size->xs.length<4611686018427387904->Calls P f (mk (.slice (O ⟨g,0,U⟩) xs.toArray.size cap)) w λe w'=>e=.returned (.tuple #[])/\∃n os,w'=grow (putRowK enc t.size (Sort.ahead w n) g 0 (c xs).toArray) os){v:Value}{x:List t.den}{G:bu}(ho:KB w (.slice t) v x G)(hx:x.length<4611686018427387904):Calls P f (mk v) w λe w'=>∃j,e=.returned (.tuple #[])/\iu w w' G/\KB w' (.slice t) v (c x) j/\∀q,j q->G q:=by obtain⟨cs,rfl,v0,rfl,ho⟩:=ho;have ho:Own w (.slice t) [v0] x G:=⟨v0,rfl,ho⟩;rcases O7 l hp (ps:=[]) rfl b ho with ⟨a,h1,i,k⟩|⟨g,cap,h1,hm,i,k,o,m⟩;{subst h1;subst i;refine Calls.mono (d a w) ?_;rintro e w' ⟨rfl,rfl⟩;have hs:c []=[]:=List.Perm.eq_nil (b []);exact⟨λ_=>False,rfl,⟨rfl,rfl,rfl,aB _,λ_ _ _=>rfl,λ_ _=>rfl⟩,⟨_,rfl,_,rfl,.inl ⟨⟨a,rfl⟩,hs,λ_ h=>h⟩⟩,λ_ h=>h.elim⟩};{subst h1;refine Calls.mono (hc g cap x w i k hx) ?_;rintro e w' ⟨rfl,n,os,hw⟩;obtain⟨k1,k2⟩:=m n os w' hw;exact⟨G,rfl,k1,⟨_,rfl,k2⟩,λ_ h=>h⟩}
theorem Kl[Tabs]{b:List t.den->List t.den}{v:Value}{x r:List t.den}{S c G:bu}{e:Ending}{w':World}(d:∀q,c q↔G q)(f:∀q,c q->¬S q/\q<w.heap.size)(i:b x=r)(h:∃a,e=.returned (.tuple #[])/\iu w w' G/\KB w' (.slice t) v (b x) a/\∀q,a q->G q):∃(vs:List Value) (S' a g:bu),e=.returned (ur vs)/\iu w w' c/\(∀q,S q->S' q)/\(∀q,S' q->S q\/(w.heap.size<=q/\q<w'.heap.size))/\(KB w' (.slice t) v r a/\vs=[]/\∀q,¬g q)/\(∀q,a q->(c q\/w.heap.size<=q)/\q<w'.heap.size/\¬S' q)/\(∀q,g q->w.heap.size<=q/\q<w'.heap.size/\¬S' q/\¬a q):=by obtain⟨a,rfl,k1,k2,k3⟩:=h;subst i;have hm:∀q,a q->c q:=λq h=>(d q).2 (k3 q h);exact⟨[],S,a,λ_=>False,rfl,⟨k1.os,k1.tape,k1.output,k1.size,λq hq hn=>k1.block q hq λh=>hn ((d q).2 h),k1.fz⟩,λ_ h=>h,λ_ h=>.inl h,⟨k2,rfl,λ_ h=>h⟩,λq h=>⟨.inl (hm q h),aD (f q (hm q h)).2 k1.size,(f q (hm q h)).1⟩,λ_ h=>h.elim⟩
theorem DW{α:Type}{a:List α->List α}{l r:List α}(h:sj a l=O r):l.length<4611686018427387904/\a l=r:=by unfold sj at h;split at h;{exact⟨by assumption,by injection h⟩};{cases h}
theorem KO[Tabs][Inhabited t.den](o:Flat t enc wf)(hp:0<t.size){b:List t.den->List t.den}(c:∀xs,(b xs).Perm xs)(i:∀(a:Option Addr) (w:World),Calls P f #[.slice a 0 0] w λe w'=>e=.returned (.tuple #[])/\w'=w)(hc:∀(g cap:Nat) (xs:List t.den) (w:World),HoldsK enc t.size w g 0 xs.toArray->g<w.heap.size->xs.length<4611686018427387904->Calls P f #[.slice (O ⟨g,0,U⟩) xs.toArray.size cap] w λe w'=>e=.returned (.tuple #[])/\∃n os,w'=grow (putRowK enc t.size (Sort.ahead w n) g 0 (b xs).toArray) os):Sound P f ⟨[.own (.slice t)],[],λx=>sj b x⟩:=by intro w args x r S C hT D d j k;obtain⟨v,r1,G,H,rfl,ho,⟨rfl,hH⟩,E,l⟩:=d;have k:sj b (x:List t.den)=O r:=k;obtain⟨hlen,hs⟩:=DW k;refine Calls.mono (Bb o hp c (λv=> #[v]) i hc ho hlen) λe w' h=> ?_;obtain⟨vs,S',m,p,k1,k2,k3,s,⟨u,y,z⟩,A,B⟩:=Kl (λq=>⟨λh=>((l q).1 h).resolve_right (hH q),λh=>(l q).2 (.inl h)⟩) j hs h;exact⟨vs,S',m,p,k1,k2,k3,s,⟨_,[],m,λ_=>False,rfl,u,⟨λ_ h=>h,y,z⟩,λ_ _ h=>h,λ_=>by simp⟩,A,B⟩
theorem Kr[Tabs][Inhabited t.den]{c:Nat}(p:Flat t enc wf)(hp:0<t.size){b:List t.den->List t.den}(d:∀xs,(b xs).Perm xs)(j:∀(a:Option Addr) (w:World),Calls P f #[.slice a 0 0,.func (.func c) #[] #[]] w λe w'=>e=.returned (.tuple #[])/\w'=w)(hc:∀(g cap:Nat) (xs:List t.den) (w:World),HoldsK enc t.size w g 0 xs.toArray->g<w.heap.size->xs.length<4611686018427387904->Calls P f #[.slice (O ⟨g,0,U⟩) xs.toArray.size cap,.func (.func c) #[] #[]] w λe w'=>e=.returned (.tuple #[])/\∃n os,w'=grow (putRowK enc t.size (Sort.ahead w n) g 0 (b xs).toArray) os):Sound P f ⟨[.own (.slice t),.fn c []],[],λx=>sj b x.1⟩:=by intro w args x r S D hT E i k l;obtain⟨v,r1,G,H,rfl,ho,⟨cs,r2,rfl,hcs,rfl,hH⟩,F,m⟩:=i;obtain⟨x,I⟩:=x;have l:sj b (x:List t.den)=O r:=l;obtain⟨hlen,hs⟩:=DW l;(have hcs:cs= #[]:=by have:cs.toList=[]:=hcs;simpa using this);subst hcs;refine Calls.mono (Bb p hp d (λv=> #[v,.func (.func c) #[] #[]]) j hc ho hlen) λe w' h=> ?_;obtain⟨vs,S',o,s,k1,k2,k3,u,⟨y,z,A⟩,B,C⟩:=Kl (λq=>⟨λh=>((m q).1 h).resolve_right (hH q),λh=>(m q).2 (.inl h)⟩) k hs h;exact⟨vs,S',o,s,k1,k2,k3,u,⟨_,_,o,λ_=>False,rfl,y,⟨λ_ h=>h,z,A⟩,λ_ _ h=>h,λ_=>by simp⟩,B,C⟩
end Go.Ab
namespace Go.Ab
open Go Go.Lib
def cut(c:UInt8):Bytes->List Bytes
 |[]=>[[]]
 | x::r=>bif ae (x=c)then []::cut c r else match cut c r with
   | []=>[[x]]
   | y::ys=>(x::y)::ys
def J1(p:Bytes):List Bytes->List Bytes
 |[]=>[p]
 |y::ys=>(p++y)::ys
theorem AR(c:UInt8):∀s:Bytes,cut c s≠[]
 |[]=>by simp[cut]
 |x::r=>by unfold cut;cases ae (x=c)with|true=>simp|false=>simp only[aj];split<;>simp
theorem Ko{l:List Bytes}(h:l≠[]):J1 [] l=l:=by cases l with|nil=>exact absurd rfl h|cons y ys=>simp[J1]
theorem Qq(c x:UInt8)(p r:Bytes)(h:x≠c):J1 p (cut c (x::r))=J1 (p++[x]) (cut c r):=by(have:ae (x=c)=false:=by simpa using h);have a:=AR c r;simp only[cut,this,aj];cases hc:cut c r with|nil=>exact absurd hc a|cons y ys=>simp[J1]
theorem Ho(c:UInt8):∀s:Bytes,(cut c s).length<=s.length+1
 |[]=>by simp[cut]
 |x::r=>by have a:=Ho c r;unfold cut;cases ae (x=c)with|true=>simp;omega|false=>simp only[aj];split;{simp};{rename_i e;rw[e]at a;simp only[aeQ]at a⊢;omega}
theorem DU(c:UInt8):∀s:Bytes,cut c (s++[c])=cut c s++[[]]
 |[]=>by simp[cut]
 |x::r=>by have b:=DU c r;have a:=AR c r;simp only[List.cons_append];unfold cut;cases ae (x=c)with|true=>simp[b]|false=>simp only[aj,b];cases hc:cut c r with|nil=>exact absurd hc a|cons y ys=>simp
theorem EZ(c:UInt8):∀s:Bytes,splitK [c] 0 (count s [c]) s=cut c s
 |[]=>by rw[count_miss (by simp[index])];rfl
 |b::l=>by have d:=EZ c l;by_cases h:b=c;{subst h;(have f:index (b::l) [b]=((0:Nat):Int):=by rw[index];simp[agD]);rw[count_cons_eq,aeZ,splitK,f];simp[cut,d]};{(have hp:([c]:List UInt8).isPrefixOf (b::l)=false:=by simp[agD,Ne.symm h]);(have f:index (b::l) [c]=if index l [c]== -1 then -1 else index l [c]+1:=by rw[index,hp];simp);(have i:ae (b=c)=false:=by simpa using h);rw[count_cons_ne b c l h];by_cases hm:index l [c]= -1;{rw[count_miss hm]at d⊢;simp only[splitK]at d⊢;simp only[cut,i,aj,<-d]};{have k:=index_ge l [c];obtain⟨j,g⟩:∃j:Nat,index l [c]=j:=⟨(index l [c]).toNat,by omega⟩;(have a:index (b::l) [c]=((j+1:Nat):Int):=by rw[f,aM (λe=>hm (beq_iff_eq.1 e)),g];omega);(have hk:count l [c]=1+count (l.drop (j+1)) [c]:=by have:=count_hit (s:=l) (sub:=[c]) (by simp) g;simpa using this);rw[hk,aeZ 1]at d⊢;have m:¬((index l [c]== -1)=true):=λe=>hm (beq_iff_eq.1 e);(have n:¬((index (b::l) [c]== -1)=true):=λe=>by have:=beq_iff_eq.1 e;rw[a]at this;omega);rw[splitK,aM m]at d;rw[splitK,aM n];simp only[cut,i,aj,<-d,a,g];simp}}
theorem Em{s:Bytes}{c:UInt8}(h:s.length<4294967281):tC s [c]=O (cut c s):=by unfold tC;rw[aN ⟨h,by simp⟩];congr 1;rw[splitB_data];exact EZ c s
theorem yQ{α:Type}{xs:List α}{k:Nat}(h:k<=xs.length):sub xs (k:Int) (xs.length:Int)=O (xs.drop k):=by unfold sub;rw[aN ⟨by omega,by omega,by omega⟩];simp
theorem MG{α:Type}(a b c:List α):sub (a++b++c) (a.length:Int) ((a.length+b.length:Nat):Int)=O b:=by unfold sub;rw[aN ⟨by omega,by omega,by simp;omega⟩];simp only[aK];rw[agL (by simp)];rw[agM (by simp),aez]
theorem Dp{s:Bytes}{b:Int}{c:UInt8}(t:(c.toNat:Int)=b)(hl:s.length<4294967290):((aX (λ(st2:(List Bytes)×Int×Int)=>(bif(ae (st2.2.2<(s.length:Int)))then(idx s st2.2.2).bind λn=>bif(ae ((n.toNat:Int)=b))then(sub s st2.2.1 st2.2.2).bind λi=>bif ae (aeP st2.1+aeP [i]<=lim)then O (.inl ((st2.1++[i]),(aW (st2.2.2+1)),(aW (st2.2.2+1))))else U else O (.inl (st2.1,st2.2.1,(aW (st2.2.2+1))))else O (.inr (st2.1,st2.2.1)):Option (((List Bytes)×Int×Int)⊕(((List Bytes)×Int))))) ([],0,0)).bind λp=>(sub s p.2 (s.length:Int)).bind λu=>bif ae (aeP p.1+aeP [u]<=lim)then O (p.1++[u])else U)=O (cut c s):=by have v:lim=4294967296:=rfl;generalize hf:(λ(st2:(List Bytes)×Int×Int)=>(bif(ae (st2.2.2<(s.length:Int)))then(idx s st2.2.2).bind λn=>bif(ae ((n.toNat:Int)=b))then(sub s st2.2.1 st2.2.2).bind λi=>bif ae (aeP st2.1+aeP [i]<=lim)then O (.inl ((st2.1++[i]),(aW (st2.2.2+1)),(aW (st2.2.2+1))))else U else O (.inl (st2.1,st2.2.1,(aW (st2.2.2+1))))else O (.inr (st2.1,st2.2.1)):Option (((List Bytes)×Int×Int)⊕(((List Bytes)×Int)))))=f;(have main:∀(r pre cur:Bytes) (out:List Bytes),s=pre++cur++r->out.length<=pre.length->∃o,aX f (out,(pre.length:Int),((pre.length+cur.length:Nat):Int))=O o/\∃k:Nat,o.2=(k:Int)/\k<=s.length/\o.1.length<=s.length/\o.1++[s.drop k]=out++J1 cur (cut c r):=by intro r;induction r with|nil=>intro pre cur out e ho;rw[aew]at e;(have q:s.length=pre.length+cur.length:=by rw[e];simp);refine⟨(out,(pre.length:Int)),bb ?_,pre.length,rfl,by omega,by simp only;omega,?_⟩;{rw[<-hf];simp only;rw[show ae (((pre.length+cur.length:Nat):Int)<(s.length:Int))=false from ar (by omega)];rfl};{simp only[cut,J1];rw[e,aez];simp}|cons x r w=>intro pre cur out e ho;(have q:s.length=pre.length+cur.length+(r.length+1):=by rw[e];simp only[aG,aeQ]);(have hx:idx s ((pre.length+cur.length:Nat):Int)=O x:=by rw[bh,e];rw[show pre++cur++x::r=(pre++cur)++x::r from rfl,aI (by simp)];simp);(have hw:aW (((pre.length+cur.length:Nat):Int)+1)=((pre.length+cur.length+1:Nat):Int):=by rw[aZ (by omega) (by omega)];omega);by_cases d:x=c;{subst d;(have a:f (out,(pre.length:Int),((pre.length+cur.length:Nat):Int))=O (.inl (out++[cur],((pre++cur++[x]).length:Int),(((pre++cur++[x]).length+([]:Bytes).length:Nat):Int))):=by rw[<-hf];simp only;rw[show ae (((pre.length+cur.length:Nat):Int)<(s.length:Int))=true from aq (by omega),hx];simp only[ai,ah];rw[show ae ((x.toNat:Int)=b)=true by simpa using t];(have g:sub s (pre.length:Int) ((pre.length+cur.length:Nat):Int)=O cur:=by rw[e];exact MG pre cur (x::r));simp only[ai,g,ah,aeQ,aeR];rw[show ae (out.length+(0+1)<=lim)=true from aq (by omega),hw];simp only[ai,aG,aeQ,aeR,afb,ae1]);obtain⟨o,h1,k,j,l,g,m⟩:=w (pre++cur++[x]) [] (out++[cur]) (by rw[e];simp) (by simp;omega);refine⟨o,(bq a).trans h1,k,j,l,g,m.trans ?_⟩;rw[Ko (AR x r)];simp[cut,J1]};{(have a:f (out,(pre.length:Int),((pre.length+cur.length:Nat):Int))=O (.inl (out,(pre.length:Int),((pre.length+(cur++[x]).length:Nat):Int))):=by rw[<-hf];simp only;rw[show ae (((pre.length+cur.length:Nat):Int)<(s.length:Int))=true from aq (by omega),hx];simp only[ai,ah];rw[show ae ((x.toNat:Int)=b)=false by rw[<-t];simp only[decide_eq_false_iff_not];intro h;exact d (UInt8.toNat_inj.1 (by omega)),hw];simp only[aj,aG,aeQ,aeR];rfl);obtain⟨o,h1,k,j,l,g,m⟩:=w pre (cur++[x]) out (by rw[e];simp) ho;refine⟨o,(bq a).trans h1,k,j,l,g,m.trans ?_⟩;rw[Qq c x cur r d]});obtain⟨o,h1,k,j,l,g,m⟩:=main s [] [] [] rfl (aB _);have h1:aX f ([],0,0)=O o:=h1;rw[h1];simp only[ah,j];rw[yQ l];simp only[ah,aeQ,aeR];rw[show ae (o.1.length+(0+1)<=lim)=true from aq (by omega),m,Ko (AR c s)];rfl
end Go.Ab
