/-
  An abstract evaluator for the loaded code: values without addresses, memory without blocks.
-/
import Derived.WalkKit
import Derived.Orders
import Derived.OpenShut
import Derived.Below
import Derived.Laws.StructEq
import Derived.Laws.MakeOwn
import Derived.Laws.AppendOwn
import Derived.Laws.BytesString
theorem ah{α β:Type _}(a:α)(f:α->Option β):(some a).bind f=f a:=rfl
theorem ai{α:Type _}(a b:α):cond true a b=a:=rfl
theorem aj{α:Type _}(a b:α):cond false a b=b:=rfl
theorem ak(a b:Bool):((a&&b)=true)=(a=true/\b=true):=_root_.Bool.and_eq_true a b
theorem aq{p:Prop}[inst:Decidable p]:p->decide p=true:=_root_.decide_eq_true
theorem ar{p:Prop}[inst:Decidable p]:¬p->decide p=false:=_root_.decide_eq_false
theorem au{p:Prop}[Decidable p]:(decide p=true)=p:=_root_.decide_eq_true_eq
theorem aw{α:Type _}(a b:α):(some a=some b)=(a=b):=_root_.Option.some.injEq a b
theorem ax{n m:Nat}:Nat.beq n m=true->n=m:=_root_.Nat.eq_of_beq_eq_true
theorem ay{α β:Type _}{b:β}{o:Option α}{f:α->Option β}:o.bind f=some b↔∃a,o=some a/\f a=some b:=_root_.Option.bind_eq_some_iff
theorem az{α:Type _}{xs:Array α}:xs.toList.length=xs.size:=_root_.Array.length_toList
theorem aA{α:Type _}{a b:α}:some a=some b->a=b:=_root_.Option.some.inj
theorem aB(n:Nat):n<=n:=_root_.Nat.le_refl n
theorem aC{n m k:Nat}:n<=m->m<=k->n<=k:=_root_.Nat.le_trans
theorem aD{n m k:Nat}:n<m->m<=k->n<k:=_root_.Nat.lt_of_lt_of_le
theorem aF{α:Type _}{l:List α}{i:Nat}{a:α}(e:l[i]?=some a):a∈l:=_root_.List.mem_of_getElem? e
theorem aG{α:Type _}{as bs:List α}:(as++bs).length=as.length+bs.length:=_root_.List.length_append
theorem aH{α:Type _}{l:List α}:l.length=0->l=[]:=_root_.List.eq_nil_of_length_eq_zero
theorem aI{α:Type _}{a b:List α}{i:Nat}:a.length<=i->(a++b)[i]?=b[i-a.length]?:=_root_.List.getElem?_append_right
theorem aJ{α:Type _}{l:List α}{i:Nat}(h:i<l.length):l[i]?=some l[i]:=_root_.List.getElem?_eq_getElem h
theorem aK(n:Nat):Int.toNat (n:Int)=n:=_root_.Int.toNat_natCast n
theorem aL{α:Type _}(y:α){a:α}{l:List α}:a∈l->a∈y::l:=_root_.List.mem_cons_of_mem y
theorem aM{c:Prop}{h:Decidable c}(hc:¬c){α:Sort _}{t e:α}:(ite c t e)=e:=_root_.if_neg hc
theorem aN{c:Prop}{h:Decidable c}(hc:c){α:Sort _}{t e:α}:(ite c t e)=t:=_root_.if_pos hc
open Array renaming empty_append->aeh,eq_empty_of_size_eq_zero->aei,ext'->aej,range->aek,replicate->ael,toList_extract->aem
open Bool renaming false_eq_true->aen,false_or->aeo,not_eq_true'->aep,or_eq_false_iff->aeq
open Decidable renaming decide->ae
open Int renaming le_of_lt->aer,le_refl->aes,le_trans->aet,tmod_nonneg->aeu
open List renaming append_assoc->aev,append_nil->aew,drop_drop->aex,drop_eq_getElem_cons->aey,drop_left->aez,drop_take->aeA,drop_zero->aeB,ext_getElem?->aeC,extract_eq_take_drop->aeD,flatMap_map->aeE,flatten_cons->aeF,foldl_cons->aeG,getElem?_append_left->aeH,getElem?_cons_zero->aeI,getElem?_drop->aeJ,getElem?_eq_some_iff->aeK,getElem?_map->aeL,getElem?_take->aeM,getElem_of_mem->aeN,isEmpty->aeO,length->aeP,length_cons->aeQ,length_nil->aeR,map_cons->aeS,mem_cons->aeT,replicate->aeU,take_append_drop->aeV,take_left->aeW,take_take->aeX
open Nat renaming add_assoc->aeY,add_comm->aeZ,add_mul->ae0,add_zero->ae1,beq->ae2,ble->ae3,blt->ae4,le_mul_of_pos_right->ae5,le_of_ble_eq_true->ae6,min_eq_left->ae7,mul_le_mul_right->ae8,one_mul->ae9,testBit->afa,zero_add->afb,zero_le->afc,zero_lt_of_lt->afd
open Option renaming isSome_none->afe,map_some->aff,none->U,some->O
open Go.Result renaming andThen_ok->afg
namespace Go.Ab
open Go
inductive Ty where
  |unit|bool|int (k:IntKind)|str|slice (t:Ty)|pair (a b:Ty)
  |raw
  deriving DecidableEq
abbrev Bytes:=List UInt8
abbrev Ty.den:Ty->Type
 |.unit=>Unit
 |.bool=>Bool
 |.int _=>Int
 |.str=>Bytes
 |.raw=>Value
 |.slice t=>List t.den
 |.pair a b=>a.den×b.den
def Ty.size:Ty->Nat
 |.unit=>0
 |.bool|.int _|.str|.slice _|.raw=>1
 |.pair a b=>a.size+b.size
def Ty.isAgg:Ty->Bool
 |.unit|.pair _ _=>true
 |_=>false
def Ty.zero:(t:Ty)->t.den
 |.unit=>()
 |.bool=>false
 |.int _=>(0:Int)
 |.str=>[]
 |.raw=>.slice U 0 0
 |.slice _=>[]
 |.pair a b=>(a.zero,b.zero)
abbrev bS:List Ty->Type
 |[]=>Unit
 |[t]=>t.den
 |t::u::ts=>t.den×bS (u::ts)
inductive yH where
  |val (t:Ty) (x:t.den)
inductive VK where
  |win (lo hi:Nat)
  |Kv (i off:Nat) (e:Ty) (y:e.den) (j:Nat)
  |app (i off:Nat) (e:Ty) (y:e.den) (u:Ty) (ys:List u.den)
  |all
  |el (i:Nat)
inductive aS where
  |und
  |gV
  |pv (t:Ty) (x:t.den)
  |pc (t:Ty) (x:t.den)
  |os (id:Nat)
  |op (id off:Nat)
  |oe (id i off:Nat)
  |sb (id i off:Nat) (e:Ty) (y:e.den)
  |vw (id:Nat) (k:VK)
  |cl (f:Nat) (cap:List yH)
inductive aY where
  |one (c:aS)
  |ag (cs:List aS)
  |tu (vs:List (Bool×List aS))
inductive bI where
  |box (cs:List aS)
  |arr (deep:Bool) (t:Ty) (xs:List t.den)
  |src (t:Ty) (k:Nat) (xs:List t.den)
abbrev aP:=List (Nat×bI)
structure AS where
  ρ:List aY
  h:aP
  t:Nat:=0
def aP.get(h:aP)(id:Nat):Option bI:=
  match h with
  |[]=>U
  |(j,o)::r=>bif ae2 j id then O o else aP.get r id
def aP.del(h:aP)(id:Nat):aP:=
  match h with
  |[]=>[]
  |(j,o)::r=>bif ae2 j id then aP.del r id else(j,o)::aP.del r id
def aS.kill(id:Nat):aS->aS
 |.os j=>bif ae2 j id then .und else .os j
 |.op j o=>bif ae2 j id then .und else .op j o
 |.oe j i o=>bif ae2 j id then .und else .oe j i o
 |.sb j i o e y=>bif ae2 j id then .und else .sb j i o e y
 |.vw j k=>bif ae2 j id then .und else .vw j k
 |c=>c
def aY.kill(id:Nat):aY->aY
 |.one c=>.one (c.kill id)
 |.ag cs=>.ag (cs.map (·.kill id))
 |.tu vs=>.tu (vs.map λp=>(p.1,p.2.map (·.kill id)))
def bI.kill(id:Nat):bI->bI
 |.box cs=>.box (cs.map (·.kill id))
 |o=>o
def AS.kill(id:Nat)(s:AS):AS:={ρ:=s.ρ.map (·.kill id),h:=(s.h.del id).map λp=>(p.1,p.2.kill id),t:=s.t+1}
def AS.eX(s:AS):List Nat->AS
 |[]=>s
 |id::r=>(s.kill id).eX r
def AS.bear(s:AS)(id:Nat)(t:Ty)(zs:List t.den):AS:={({ρ:=s.ρ,h:=(id,.arr true t [])::s.h,t:=s.t}:AS).kill id with h:=(id,.arr true t zs)::(({ρ:=s.ρ,h:=(id,.arr true t [])::s.h,t:=s.t}:AS).kill id).h,t:=s.t+1}
def AS.upd(s:AS)(id:Nat)(o:bI):AS:={s with h:=s.h.map (λp=>bif ae2 p.1 id then(p.1,o)else p),t:=s.t+1}
def aS.cv(id:Nat):aS->aS
 |.sb j i o e y=>bif ae2 j id then .und else .sb j i o e y
 |.vw j k=>bif ae2 j id then .und else .vw j k
 |c=>c
def aY.cv(id:Nat):aY->aY
 |.one c=>.one (c.cv id)
 |.ag cs=>.ag (cs.map (·.cv id))
 |.tu vs=>.tu (vs.map λp=>(p.1,p.2.map (·.cv id)))
def bI.cv(id:Nat):bI->bI
 |.box cs=>.box (cs.map (·.cv id))
 |o=>o
def AS.fC(s:AS)(id:Nat)(o:bI):AS:={ρ:=s.ρ.map (·.cv id),h:=s.h.map (λp=>bif ae2 p.1 id then(p.1,o)else(p.1,p.2.cv id)),t:=s.t+1}
def aS.front(id n:Nat):aS->aS
 |.os j=>bif ae2 j id then .vw id (.win 0 n)else .os j
 |.oe j i o=>bif ae2 j id then .und else .oe j i o
 |.sb j i o e y=>bif ae2 j id then .und else .sb j i o e y
 |.vw j k=>bif ae2 j id then .und else .vw j k
 |c=>c
def aY.front(id n:Nat):aY->aY
 |.one c=>.one (c.front id n)
 |.ag cs=>.ag (cs.map (·.front id n))
 |.tu vs=>.tu (vs.map λp=>(p.1,p.2.map (·.front id n)))
def bI.front(id n:Nat):bI->bI
 |.box cs=>.box (cs.map (·.front id n))
 |o=>o
def AS.front(s:AS)(id n:Nat)(o:bI):AS:={ρ:=s.ρ.map (·.front id n),h:=s.h.map (λp=>bif ae2 p.1 id then(p.1,o)else(p.1,p.2.front id n)),t:=s.t+1}
def aS.qP(id:Nat)(t:Ty)(xs:List t.den):aS->aS
 |.os j=>bif ae2 j id then .pv (.slice t) xs else .os j
 |.oe j i o=>bif ae2 j id then .und else .oe j i o
 |.sb j i o e y=>bif ae2 j id then .und else .sb j i o e y
 |.vw j k=>bif ae2 j id then .und else .vw j k
 |c=>c
def aY.qP(id:Nat)(t:Ty)(xs:List t.den):aY->aY
 |.one c=>.one (c.qP id t xs)
 |.ag cs=>.ag (cs.map (·.qP id t xs))
 |.tu vs=>.tu (vs.map λp=>(p.1,p.2.map (·.qP id t xs)))
def bI.qP(id:Nat)(t:Ty)(xs:List t.den):bI->bI
 |.box cs=>.box (cs.map (·.qP id t xs))
 |o=>o
def AS.qP(s:AS)(id:Nat):AS:=
  match s.h.get id with
  |some (.arr _ t xs)=>{ρ:=s.ρ.map (·.qP id t xs),h:=(s.h.del id).map (λp=>(p.1,p.2.qP id t xs)),t:=s.t+1}
  |_=>s
def aS.mC(id:Nat)(t:Ty)(x:t.den):aS->aS
 |.op j o=>bif ae2 j id then(bif ae2 o 0 then .pc t x else .und)else .op j o
 |c=>c
def aY.mC(id:Nat)(t:Ty)(x:t.den):aY->aY
 |.one c=>.one (c.mC id t x)
 |.ag cs=>.ag (cs.map (·.mC id t x))
 |.tu vs=>.tu (vs.map λp=>(p.1,p.2.map (·.mC id t x)))
def bI.mC(id:Nat)(t:Ty)(x:t.den):bI->bI
 |.box cs=>.box (cs.map (·.mC id t x))
 |o=>o
def bH:List aS->List Nat
 |[]=>[]
 |.os id::r=>id::bH r
 |_::r=>bH r
def dI:List aS->List Nat
 |[]=>[]
 |.os id::r=>id::dI r
 |.sb id _ _ _ _::r=>id::dI r
 |.vw id _::r=>id::dI r
 |_::r=>dI r
def AS.cI(s:AS):List Nat->AS
 |[]=>s
 |id::r=>(s.qP id).cI r
def cQ:List aS->Bool
 |[]=>true
 |.gV::r=>cQ r
 |.pv (.slice _) _::_=>false
 |.pv _ _::r=>cQ r
 |_::_=>false
def fg(h:aP):List aS->Bool
 |[]=>true
 |.os id::r=>(match h.get id with|some (.arr d _ _)=>d|_=>false)&&fg (h.del id) r
 |.gV::r=>fg h r
 |.pv (.slice _) _::_=>false
 |.pv _ _::r=>fg h r
 |_::_=>false
def AS.fresh(s:AS)(d:Nat):AS:=(s.h.filter λp=>ae3 (d*16) p.1&&ae3 p.1 (d*16+15)).foldl (λs p=>s.kill p.1) s
def AS.put(s:AS)(d:Option Nat)(v:aY):AS:=
  match d with
  |some d=>{s with ρ:=s.ρ.set d v}
  |none=>s
def flat:(t:Ty)->t.den->List aS
 |.unit,_=>[]
 |.pair a b,x=>flat a x.1++flat b x.2
 |.bool,x=>[.pv .bool x]
 |.int k,x=>[.pv (.int k) x]
 |.str,x=>[.pv .str x]
 |.raw,x=>[.pv .raw x]
 |.slice t,x=>[.pv (.slice t) x]
def fN:Ty->List aS
 |.unit=>[]
 |.pair a b=>fN a++fN b
 |.bool=>[.pv .bool false]
 |.int k=>[.pv (.int k) (0:Int)]
 |.str=>[.pv .str []]
 |.raw=>[.pv .raw (.slice U 0 0:Value)]
 |.slice _=>[.gV]
def cL{t:Ty}(a:Ty)(x:t.den):Option a.den:=if h:t=a then O (h▸x)else U
def cC(get:Nat->Option bI)(t:Ty):aS->Option t.den
 |.pv _ x=>cL t x
 | .gV=>match t with
   | .slice _=>O []
   | _=>U
 | .os id=>match get id with
   | some (.arr _ e xs)=>cL (t:=.slice e) t xs
   | _=>U
 | .sb _ _ off e y=>match(flat e y)[off]? with
   | some (.pv _ xs)=>cL t xs
   | _=>U
 |_=>U
def bP(get:Nat->Option bI):(t:Ty)->List aS->Option t.den
 |.unit,_=>O ()
 |.pair a b,cs=>(bP get a (cs.take a.size)).bind λx=>(bP get b (cs.drop a.size)).bind λy=>O (x,y)
 |.bool,c::_=>cC get .bool c
 |.int k,c::_=>cC get (.int k) c
 |.str,c::_=>cC get .str c
 |.raw,c::_=>cC get .raw c
 |.slice t,c::_=>cC get (.slice t) c
 |_,[]=>U
abbrev fM(h:aP)(t:Ty)(cs:List aS):Option t.den:=bP h.get t cs
def AS.mC(s:AS)(id:Nat)(t:Ty):AS:=
  match s.h.get id with
  |some (.box cs)=>bif ae2 cs.length t.size then
     match dI cs,bP (λ_=>U) t cs with
     |[],O x=>{ρ:=s.ρ.map (·.mC id t x),h:=(s.h.del id).map (λp=>(p.1,p.2.mC id t x)),t:=s.t+1}
     |_,_=>s
   else s
  |_=>s
def AS.zJ(s:AS):List (Nat×Ty)->AS
 |[]=>s
 |p::r=>(s.mC p.1 p.2).zJ r
def aY.cells:aY->List aS
 |.one c=>[c]
 |.ag cs=>cs
 |.tu _=>[]
def aY.iD:aY->Bool
 |.one .und=>false
 |.tu _=>false
 |_=>true
def aY.fits(v:aY)(t:Ty):Bool:=
  v.iD&&ae2 v.cells.length t.size&& (match v with
    |.one _=>!t.isAgg
    |.ag _=>t.isAgg
    |.tu _=>false)
def valOf(agg:Bool)(cs:List aS):aY:=
  match agg,cs with
  |true,cs=>.ag cs
  |false,c::_=>.one c
  |false,[]=>.one .und
def JB(t:Ty)(x:t.den):aY:=valOf t.isAgg (flat t x)
def fieldAt:Ty->Nat->Option (Nat×Ty)
 |.pair a _,0=>O (0,a)
 |.pair a b,i+1=>(fieldAt b i).bind λp=>O (a.size+p.1,p.2)
 |_,_=>U
def oG:Ty->Bool
 |.pair .unit _=>true
 |_=>false
def lenOf(e:Ty):Ty->Option Nat
 |.unit=>O 0
 |.pair a r=>bif ae (a=e)then(lenOf e r).map (· +1)else U
 |_=>U
def qW:Ty->Option (Nat×Ty)
 |.pair .unit (.pair e r)=>(lenOf e r).map λn=>(n+1,e)
 |_=>U
def zj:(t:Ty)->t.den->Nat->Option (Σ u:Ty,u.den)
 |.pair a _,x,0=>O ⟨a,x.1⟩
 |.pair _ b,x,i+1=>zj b x.2 i
 |_,_,_=>U
def idx{α:Type}(xs:List α)(i:Int):Option α:=if i<0 then U else xs[i.toNat]?
def sub{α:Type}(xs:List α)(lo hi:Int):Option (List α):=if 0<=lo/\lo<=hi/\hi<=xs.length then O ((xs.take hi.toNat).drop lo.toNat)else U
def lim:Nat:=4294967296
def aW(x:Int):Int:=IntKind.i64.wrap x
inductive js {α β:Type} (f:α->Option (α⊕β)):α->β->Prop
  |done {a:α} {b:β}:f a=O (.inr b)->js f a b
  |step {a a':α} {b:β}:f a=O (.inl a')->js f a' b->js f a b
open Classical in
noncomputable def aX{α β:Type}(f:α->Option (α⊕β))(a:α):Option β:=if h:∃b,js f a b then O (Classical.choose h)else U
inductive CK where
  |pv (t:Ty)
  |own (id:Nat) (t:Ty) (deep:Bool)
  |skip
inductive dP where
  |tv (i:Nat) (t:Ty)
  |own (i:Nat) (al:List Nat) (id:Nat) (t:Ty) (deep:Bool)
  |bx (i id:Nat) (cks:List CK)
  |src (i id:Nat) (t:Ty)
abbrev CK.dw:List CK->List Ty->List Ty
 |[],r=>r
 |.pv t::c,r=>t::CK.dw c r
 |.own _ t _::c,r=>.slice t::CK.dw c r
 |.skip::c,r=>CK.dw c r
abbrev dP.dw:List dP->List Ty
 |[]=>[]
 |.tv _ t::r=>t::dP.dw r
 |.own _ _ _ t _::r=>.slice t::dP.dw r
 |.bx _ _ cks::r=>CK.dw cks (dP.dw r)
 |.src _ _ t::r=>.int .i64::.slice t::dP.dw r
def dC{t:Ty}:{ts:List Ty}->t.den->bS ts->bS (t::ts)
 |[],x,_=>x
 |_::_,x,y=>(x,y)
def headD{t:Ty}:{ts:List Ty}->bS (t::ts)->t.den
 |[],x=>x
 |_::_,x=>x.1
def tailD{t:Ty}:{ts:List Ty}->bS (t::ts)->bS ts
 |[],_=>()
 |_::_,x=>x.2
def nv(h:aP)(t:Ty)(deep:Bool):aS->Option (List t.den×aP)
 |.gV=>O ([],h)
 | .os j=>match h.get j with
   | some (.arr d e xs)=>bif d||!deep then(cL (t:=.slice e) (.slice t) xs).bind λx=>O (x,h.del j)else U
   | _=>U
 | .vw j (.win lo n)=>match h.get j with
   | some (.arr false e xs)=>bif ae2 lo 0&&!deep then(cL (t:=.slice e) (.slice t) xs).bind λx=>O (List.take n x,h.del j)else U
   | _=>U
 |_=>U
def oP(h:aP)(t:Ty):aS->Option (Nat×List t.den×aP)
 |.gV=>O (0,[],h)
 | .os j=>match h.get j with
   | some (.arr true e xs)=>(cL (t:=.slice e) (.slice t) xs).bind λx=>O (0,x,h.del j)
   | _=>U
 | .vw j .all=>match h.get j with
   | some (.src e k xs)=>(cL (t:=.slice e) (.slice t) xs).bind λx=>O (k,x,h.del j)
   | _=>U
 |_=>U
def xL:List aS->Bool
 |[]=>true
 |.sb _ _ _ _ _::_=>false
 |.vw _ _::_=>false
 |_::r=>xL r
def jY(h:aP)(t:Ty)(cs:List aS):Option (t.den×aP):=bif xL cs&&ae2 cs.length t.size then(fM h t cs).bind λx=>O (x,(bH cs).foldl aP.del h)else U
def aS.same:aS->aS->Bool
 |.os i,.os j=>ae2 i j
 |_,_=>false
def aY.Mk:aY->aS->Bool
 |.one d,c=>aS.same d c
 |_,_=>false
def uq{ts:List Ty}(h:aP):(cks:List CK)->List aS->(aP->Option (bS ts))->Option (bS (CK.dw cks ts))
 |[],[],k=>k h
 |[],_::_,_=>U
 |.pv t::r,c::cs,k=>(jY h t [c]).bind λp=>(uq p.2 r cs k).bind λy=>O (dC p.1 y)
 |.own _ t d::r,c::cs,k=>(nv h t d c).bind λp=>(uq p.2 r cs k).bind λy=>O (dC (t:=.slice t) p.1 y)
 |.skip::r,_::cs,k=>uq h r cs k
 |_::_,[],_=>U
def MH(ρ:List aY):(L:List dP)->aP->Option (bS (dP.dw L))
 |[],_=>O ()
 |.tv i t::r,h=>bif(ρ.getD i (.one .und)).fits t then(jY h t ((ρ.getD i (.one .und)).cells)).bind λp=>(MH ρ r p.2).bind λy=>O (dC p.1 y)else U
 | .own i al _ t d::r,h=>match ρ.getD i (.one .und)with
   | .one c=>bif !(al.all λj=>aY.Mk (ρ.getD j (.one .und)) c)then U else(nv h t d c).bind λp=>(MH ρ r p.2).bind λy=>O (dC (t:=.slice t) p.1 y)
   | _=>U
 | .bx i _ cks::r,h=>match ρ.getD i (.one .und)with
   | .one (.op id 0)=>match h.get id with
     | some (.box cs)=>uq (h.del id) cks cs (MH ρ r)
     | _=>U
   | _=>U
 | .src i _ t::r,h=>match ρ.getD i (.one .und)with
   | .one c=>(oP h t c).bind λp=>(MH ρ r p.2.2).bind λy=>O (dC (t:=.int .i64) (p.1:Int) (dC (t:=.slice t) p.2.1 y))
   | _=>U
def aS.oL:aS->Bool
 |.und|.gV|.pv _ _|.pc _ _|.cl _ _=>true
 |_=>false
def aY.oL:aY->Bool
 |.one c=>c.oL
 |.ag cs=>cs.all aS.oL
 |.tu _=>false
def xu(keep:List Nat)(i:Nat):List aY->List aY
 |[]=>[]
 |v::r=>(bif keep.any (ae2 i)&&v.oL then v else .one .und)::xu keep (i+1) r
def gH{ts:List Ty}:(cks:List CK)->bS (CK.dw cks ts)->List aS×aP×bS ts
 |[],x=>([],[],x)
 | .pv t::r,x=>match gH r (tailD x)with
   | (cs,h,y)=>(flat t (headD x)++cs,h,y)
 | .own id t d::r,x=>match gH r (tailD x)with
   | (cs,h,y)=>(.os id::cs,(id,.arr d t (headD (t:=.slice t) x))::h,y)
 | .skip::r,x=>match gH r x with
   | (cs,h,y)=>(.und::cs,h,y)
def er:(L:List dP)->bS (dP.dw L)->AS->AS
 |[],_,s=>s
 |.tv i t::r,x,s=>let s':=er r (tailD x) s;{s' with ρ:=s'.ρ.set i (JB t (headD x))}
 |.own i al id t d::r,x,s=>let s':=er r (tailD x) s;{s' with ρ:=al.foldl (λρ j=>ρ.set j (.one (.os id))) (s'.ρ.set i (.one (.os id))),h:=(id,.arr d t (headD (t:=.slice t) x))::s'.h}
 | .bx i id cks::r,x,s=>match gH cks x with
   | (cs,h,y)=>let s':=er r y s;{s' with ρ:=s'.ρ.set i (.one (.op id 0)),h:=(id,.box cs)::(h++s'.h)}
 |.src i id t::r,x,s=>let s':=er r (tailD (t:=.slice t) (tailD (t:=.int .i64) x)) s;{s' with ρ:=s'.ρ.set i (.one (.vw id .all)),h:=(id,.src t (Int.toNat (headD (t:=.int .i64) x)) (headD (t:=.slice t) (tailD (t:=.int .i64) x)))::s'.h}
def Ug(keep:List Nat)(L:List dP)(s0:AS)(x:bS (dP.dw L)):AS:=er L x {ρ:=xu keep 0 s0.ρ,h:=[],t:=s0.t+1}
inductive dV where
  |normal|exit (id:Nat)|ret
def dV.same:dV->dV->Bool
 |.normal,.normal=>true
 |.exit i,.exit j=>ae2 i j
 |.ret,.ret=>true
 |_,_=>false
structure Cut where
  keep:List Nat
  live:List dP
  outs:List (dV×List dP)
abbrev Sl:List (dV×List dP)->Type
 |[]=>Empty
 |[p]=>bS (dP.dw p.2)
 |p::q::r=>bS (dP.dw p.2)⊕Sl (q::r)
def FP(s:AS)(e:dV):(l:List (dV×List dP))->Option (Sl l)
 |[]=>U
 |[p]=>bif dV.same e p.1 then MH s.ρ p.2 s.h else U
 |p::q::r=>bif dV.same e p.1 then(MH s.ρ p.2 s.h).bind λx=>O (.inl x)else(FP s e (q::r)).bind λx=>O (.inr x)
def CA{R:Type}(keep:List Nat)(s0:AS)(k:dV->AS->Option R):(l:List (dV×List dP))->Sl l->Option R
 |[],_=>U
 |[p],x=>k p.1 (Ug keep p.2 s0 x)
 | p::q::r,x=>match x with
   | .inl x=>k p.1 (Ug keep p.2 s0 x)
   | .inr y=>CA keep s0 k (q::r) y
inductive PK where
  |val (t:Ty)
  |own (t:Ty)
  |dt (t:Ty)
  |cK (t:Ty)
  |rp (t:Ty)
  |fn (g:Nat) (ts:List Ty)
abbrev CM:List Ty->Ty
 |[]=>.unit
 |t::ts=>.pair t (CM ts)
inductive RK where
  |val (t:Ty)
  |own (t:Ty)
  |rp (t:Ty)
  |sh (t:Ty)
  |ob (t:Ty)
abbrev PK.ty:PK->Ty
 |.val t=>t
 |.own t=>t
 |.dt t=>t
 |.cK t=>t
 |.rp t=>t
 |.fn _ ts=>CM ts
abbrev PK.dw:List PK->List Ty
 |[]=>[]
 |p::r=>p.ty::PK.dw r
abbrev PK.dY:List PK->List Ty->List Ty
 |[],l=>l
 |.val _::r,l=>PK.dY r l
 |.own t::r,l=>t::PK.dY r l
 |.dt t::r,l=>t::PK.dY r l
 |.cK t::r,l=>t::PK.dY r l
 |.rp _::r,l=>PK.dY r l
 |.fn _ _::r,l=>PK.dY r l
abbrev RK.ty:RK->Ty
 |.val t=>t
 |.own t=>t
 |.rp t=>t
 |.sh t=>.slice t
 |.ob t=>t
abbrev RK.dw:List RK->List Ty
 |[]=>[]
 |p::r=>p.ty::RK.dw r
def Ty.leads:Ty->Bool
 |.slice _=>true
 |.pair a b=>a.leads||b.leads
 |_=>false
def RK.leads:List RK->Bool
 |[]=>false
 |.val t::r=>t.leads||RK.leads r
 |.own _::r=>RK.leads r
 |.rp _::_=>true
 |.sh _::_=>true
 |.ob _::r=>RK.leads r
structure aR where
  ps:List PK
  rs:List RK
  fn:bS (PK.dw ps)->Option (bS (PK.dY ps (RK.dw rs)))
def zL:(ts:List Ty)->List yH->Option (CM ts).den
 |[],[]=>O ()
 |t::ts,.val _ x::cs=>(cL t x).bind λx=>(zL ts cs).bind λy=>O (x,y)
 |_,_=>U
def CG:(ts:List Ty)->(CM ts).den->List yH
 |[],_=>[]
 |t::ts,x=>.val t x.1::CG ts x.2
def yH.abu:yH->aY
 |.val t x=>.one (.pc t x)
def Mn:List aY->Option (List yH)
 |[]=>O []
 |.one (.pc t x)::r=>(Mn r).bind λl=>O (.val t x::l)
 |_::_=>U
def cG(h:aP):(ps:List PK)->List aY->Option (bS (PK.dw ps))
  |[],[]=>O ()
  |.val t::ps,v::vs=>bif v.fits t then(fM h t v.cells).bind λx=>(cG h ps vs).bind λy=>O (dC x y)else U
  |.own t::ps,v::vs=>bif v.fits t&&deepArg h t.isAgg v.cells then(fM h t v.cells).bind λx=>(cG ((bH v.cells).foldl aP.del h) ps vs).bind λy=>O (dC x y)else U
  |.dt t::ps,.one (.op id 0)::vs=>match h.get id with
   |some (.box cs)=>bif ae2 cs.length t.size&& (dI cs).isEmpty then(bP (λ_=>U) t cs).bind λx=>(cG (h.del id) ps vs).bind λy=>O (dC x y)else U
   |_=>U
  |.cK t::ps,.one (.op id 0)::vs=>match h.get id with
   |some (.box cs)=>bif ae2 cs.length t.size&&fg (h.del id) cs then(fM h t cs).bind λx=>(cG ((bH cs).foldl aP.del (h.del id)) ps vs).bind λy=>O (dC x y)else U
   |_=>U
  |.rp t::ps,.one (.pc _ x)::vs=>(cL t x).bind λx=>(cG h ps vs).bind λy=>O (dC x y)
  |.fn g ts::ps,.one (.cl f caps)::vs=>bif ae2 f g then(zL ts caps).bind λx=>(cG h ps vs).bind λy=>O (dC x y)else U
  |_,_=>U
  where deepArg (h:aP) (agg:Bool):List aS->Bool
  |[.sb id _ _ _ _]=>!agg&& (match h.get id with
   |some (.arr d _ _)=>d
   |_=>false)
  |cs=>fg h cs
def oI:(t:Ty)->t.den->List aS->AS->{R:Type}->(AS->Option R)->Option R
 |.pair a b,x,cs,s,_,k=>oI a x.1 (cs.take a.size) s λs=>oI b x.2 (cs.drop a.size) s k
 | .slice t,x,.os id::_,s,_,k=>match s.h.get id with
   | some (.arr d _ _)=>k (s.fC id (.arr d t x))
   | _=>U
 | .slice t,x,.sb id i off e y::_,s,_,k=>match s.h.get id with
   | some (.arr d c xs)=>match bP (λ_=>U) c ((flat e y).take off++[.pv (.slice t) x]++(flat e y).drop (off+1))with
     | some z=>k (s.fC id (.arr d c (xs.set i z)))
     | none=>U
   | _=>U
 |_,_,_,s,_,k=>k s
def kU:(ps:List PK)->List aY->(ts:List Ty)->bS (PK.dY ps ts)->AS->{R:Type}->(bS ts->AS->Option R)->Option R
 |[],_,_,x,s,_,k=>k x s
 |.val _::ps,_::vs,ts,x,s,_,k=>kU ps vs ts x s k
 |.rp _::ps,_::vs,ts,x,s,_,k=>kU ps vs ts x s k
 |.fn _ _::ps,_::vs,ts,x,s,_,k=>kU ps vs ts x s k
 |.own t::ps,v::vs,ts,x,s,_,k=>oI t (headD x) v.cells s λs=>kU ps vs ts (tailD x) s k
 |.dt t::ps,.one (.op id _)::vs,ts,x,s,_,k=>kU ps vs ts (tailD x) (s.upd id (.box (flat t (headD x)))) k
 |_,_,_,_,_,_,_=>U
def ba(base:Nat):(t:Ty)->t.den->List aS×aP×Nat
 |.unit,_=>([],[],base)
 | .pair a b,x=>
   match ba base a x.1 with
   | (cs,h,n)=>match ba n b x.2 with
     | (c,g,n)=>(cs++c,h++g,n)
 |.slice t,x=>([.os base],[(base,.arr true t x)],base+1)
 |.bool,x=>([.pv .bool x],[],base)
 |.int k,x=>([.pv (.int k) x],[],base)
 |.str,x=>([.pv .str x],[],base)
 |.raw,x=>([.pv .raw x],[],base)
def bC(base:Nat):(rs:List RK)->bS (RK.dw rs)->List (Bool×List aS)×aP×Nat
 |[],_=>([],[],base)
 | .val t::rs,x=>match bC base rs (tailD x)with
   | (l,h,n)=>((t.isAgg,flat t (headD x))::l,h,n)
 | .own t::rs,x=>match ba base t (headD x)with
   | (cs,g,n)=>match bC n rs (tailD x)with
     | (l,h,n)=>((t.isAgg,cs)::l,g++h,n)
 | .rp t::rs,x=>match bC base rs (tailD x)with
   | (l,h,n)=>((false,[.pc t (headD x)])::l,h,n)
 | .sh t::rs,x=>match bC (base+1) rs (tailD (t:=.slice t) x)with
   | (l,h,n)=>((false,[.os base])::l,(base,.arr false t (headD (t:=.slice t) x))::h,n)
 | .ob t::rs,x=>match ba (base+1) t (headD x)with
   | (cs,g,n)=>match bC n rs (tailD x)with
     | (l,h,n)=>((false,[.op base 0])::l,((base,.box cs)::g)++h,n)
def qs:List (Bool×List aS)->aY
 |[p]=>valOf p.1 p.2
 |l=>.tu l
structure uN where
  t:Ty
  g:Nat
  keep:t.den->Bool
  out:Option (List t.den->Option (List t.den×Bool)):=U
structure sP where
  C:aR
  same:bS (PK.dw C.ps)->Option Bool
def GM:Ty->Bool
 |.unit=>true
 |.pair _ b=>GM b
 |_=>false
def vJ:Ty->Ty->Ty
 |.pair a b,r=>.pair a (vJ b r)
 |_,r=>.pair r .unit
def CZ:(t:Ty)->t.den->(r:Ty)->r.den->(vJ t r).den
 |.pair _ b,x,r,v=>(x.1,CZ b x.2 r v)
 |.unit,_,_,v=>(v,())
 |.bool,_,_,v=>(v,())
 |.int _,_,_,v=>(v,())
 |.str,_,_,v=>(v,())
 |.slice _,_,_,v=>(v,())
 |.raw,_,_,v=>(v,())
structure MK where
  t:Ty
  ps:List PK
  rs:List RK
  fn:bS (PK.dw (.cK t::ps))->Option (bS (PK.dY (.cK t::ps) (RK.dw rs)))
structure Env where
  T:List (Nat×Ty):=[]
  G:List (Nat×aR):=[]
  ro:List Nat:=[]
  loops:List (Nat×Cut):=[]
  joins:List (Nat×Cut):=[]
  mv:Bool:=false
  Uj:List Nat:=[]
  ins:List (Nat×Ty):=[]
  fz:List Nat:=[]
  del:List (Nat×uN):=[]
  sh:List Nat:=[]
  hoist:List (Nat×List Nat):=[]
  aside:List (Nat×Nat):=[]
  abK:List (Nat×Nat):=[]
  pre:List (Nat×List Nat):=[]
  preb:List (Nat×List (Nat×Ty)):=[]
  lend:List (Nat×List (Nat×Ty)):=[]
  Yn:List Nat:=[]
  every:List Nat:=[]
  keepc:List (Nat×MK):=[]
  sel:List (Nat×sP):=[]
  eqs:List (Nat×Ty):=[]
  win:List Nat:=[]
  trim:List Nat:=[]
  grow:List Nat:=[]
  swaps:List (Nat×List (Nat×Nat)):=[]
def look{α:Type}(l:List (Nat×α))(i:Nat):Option α:=
  match l with
  |[]=>U
  |(j,a)::r=>bif ae2 j i then O a else look r i
def BQ(l:List (Nat×Ty))(i:Nat):Option Ty:=
  match look l i with
  |some u=>bif oG u then U else O u
  |none=>U
def AS.ev(s:AS):Operand->aY
 |.tmp t=>s.ρ.getD t (.one .und)
 | .const v=>match v with
   | .bool b=>.one (.pv .bool b)
   | .int k n=>bif ae (k.min<=n)&&ae (n<=k.max)then .one (.pv (.int k) n)else .one .und
   | .string b=>bif ae3 b.data.toList.length 140737488355328 then .one (.pv .str b.data.toList)else .one .und
   | .slice U 0 0=>.one .gV
   | _=>.one .und
 |.func f=>.one (.cl f [])
 |.global _=>.one .und
inductive kH where
  |fail
  |ok (v:aY) (os:aP)
  |guard (c:Bool) (v:aY) (os:aP)
  |bind (α:Type) (m:Option α) (f:α->aY×aP)
def kH.run(s:AS){R:Type}(k:aY->AS->Option R):kH->Option R
 |.fail=>U
 |.ok v os=>k v {s with h:=os++s.h}
 |.guard c v os=>bif c then k v {s with h:=os++s.h}else U
 |.bind _ m f=>m.bind λx=>k (f x).1 {s with h:=(f x).2++s.h}
def gJ(c:aS):kH:=.ok (.one c) []
def Cv:BinOp->Bool
 |.shl|.shr=>true
 |_=>false
def uE(op:BinOp)(k:IntKind)(x y:Int):Int:=
  match op with
  |.shl=>k.wrap (x*2^(min y.toNat k.bits))
  |_=>x.fdiv (2^(min y.toNat k.bits))
def vC(op:BinOp)(k:IntKind)(x y:Int):Int:=
  match op with
  |.and=>k.wrap ((BitVec.ofInt k.bits x&&&BitVec.ofInt k.bits y).toNat:Int)
  |.or=>k.wrap ((BitVec.ofInt k.bits x|||BitVec.ofInt k.bits y).toNat:Int)
  |.xor=>k.wrap ((BitVec.ofInt k.bits x^^^BitVec.ofInt k.bits y).toNat:Int)
  |_=>k.wrap ((BitVec.ofInt k.bits x&&& ~~~(BitVec.ofInt k.bits y)).toNat:Int)
def toStr(l:List Int):Bytes:=l.map λn=>UInt8.ofNat n.toNat
def OB(tb:Bool)(op:BinOp)(a b:aS):kH:=
  match a,b with
  |.pv (.int j) x,.pv (.int c) y=>
   bif Cv op then .guard (ae (0<=y)) (.one (.pv (.int j) (uE op j x y))) []else
   bif ae (j=c)then
     match op with
     |.add=>gJ (.pv (.int j) (j.wrap (x+y)))
     |.sub=>gJ (.pv (.int j) (j.wrap (x-y)))
     |.mul=>gJ (.pv (.int j) (j.wrap (x*y)))
     |.quo=>.guard (!decide (y=0)) (.one (.pv (.int j) (j.wrap (x.tdiv y)))) []
     |.rem=>.guard (!decide (y=0)) (.one (.pv (.int j) (x.tmod y))) []
     |.eql=>gJ (.pv .bool (ae (x=y)))
     |.neq=>gJ (.pv .bool (!decide (x=y)))
     |.lss=>gJ (.pv .bool (ae (x<y)))
     |.leq=>gJ (.pv .bool (ae (x<=y)))
     |.gtr=>gJ (.pv .bool (ae (y<x)))
     |.geq=>gJ (.pv .bool (ae (y<=x)))
     |.and=>gJ (.pv (.int j) (vC .and j x y))
     |.or=>gJ (.pv (.int j) (vC .or j x y))
     |.xor=>gJ (.pv (.int j) (vC .xor j x y))
     |.andNot=>gJ (.pv (.int j) (vC .andNot j x y))
     |_=>.fail
   else .fail
  |.pv .bool x,.pv .bool y=>
   match tb,op with
   |true,.eql=>gJ (.pv .bool (x==y))
   |true,.neq=>gJ (.pv .bool (x !=y))
   |_,_=>.fail
  |.pv .str x,.pv .str y=>
   match op with
   |.add=>.guard (ae (x.length+y.length<=lim)) (.one (.pv .str (x++y))) []
   |.eql=>gJ (.pv .bool (ae (x=y)))
   |.neq=>gJ (.pv .bool (!decide (x=y)))
   |.lss=>gJ (.pv .bool (Op.bytesLess x y))
   |.leq=>gJ (.pv .bool (Op.bytesLess x y||ae (x=y)))
   |.gtr=>gJ (.pv .bool (!(Op.bytesLess x y||ae (x=y))))
   |.geq=>gJ (.pv .bool (!Op.bytesLess x y))
   |_=>.fail
  |_,_=>.fail
def Xg(op:UnOp)(a:aS):kH:=
  match op,a with
  |.not,.pv .bool x=>gJ (.pv .bool (!x))
  |.neg,.pv (.int j) x=>gJ (.pv (.int j) (j.wrap (0-x)))
  |_,_=>.fail
def splice(cs:List aS)(off:Nat)(a:List aS):List aS:=cs.take off++a++cs.drop (off+a.length)
def IG(get:Nat->Option bI)(t:Ty)(a:aS):kH:=
  match a with
  |.pc _ x=>match cL t x with
   |some y=>.ok (JB t y) []
   |none=>.fail
  |.op id off=>match get id with
   |some (.box cs)=>bif ae3 (off+t.size) cs.length then .ok (valOf t.isAgg ((cs.drop off).take t.size)) []else .fail
   |_=>.fail
  |.oe id i off=>match get id with
   |some (.arr d e xs)=>bif ae3 (off+t.size) e.size then
      bif !d||cQ (((flat e e.zero).drop off).take t.size)then .bind e.den xs[i]? λy=>(valOf t.isAgg (((flat e y).drop off).take t.size),[])
      else
        match(flat e e.zero)[off]?,t with
        |some (.pv (.slice u) _),.slice b=>bif ae (u=b)then .bind e.den xs[i]? λy=>(.one (.sb id i off e y),[])else .fail
        |_,_=>.fail
    else .fail
   |_=>.fail
  |_=>.fail
def vP(mv:Bool)(s:AS)(t:Ty)(a:aS)(v:aY){R:Type}(k:AS->Option R):Option R:=
  match a with
  |.op id off=>match s.h.get id with
   |some (.box cs)=>bif v.iD&&ae2 v.cells.length t.size&&ae3 (off+t.size) cs.length then k (s.upd id (.box (splice cs off v.cells)))else U
   |_=>U
  |.oe id i off=>match s.h.get id with
   |some (.arr d e xs)=>
    bif mv&& (d&&!cQ v.cells&&fg s.h v.cells)then
      bif v.iD&&ae2 v.cells.length t.size&&ae3 (off+t.size) e.size&&!(bH v.cells).any (ae2 id)then
        bif ae2 t.size e.size then
          match fM s.h e v.cells with
          |some y=>k ((s.eX (bH v.cells)).fC id (.arr true e (xs.set i y)))
          |none=>U
        else(xs[i]?).bind λx=>
          match fM s.h e (splice (flat e x) off v.cells)with
          |some y=>k ((s.eX (bH v.cells)).fC id (.arr true e (xs.set i y)))
          |none=>U
      else U
    else
    bif v.iD&&ae2 v.cells.length t.size&&ae3 (off+t.size) e.size&& (xL v.cells&&!(bH v.cells).any (ae2 id))then
      let b:=d&&cQ v.cells
      bif ae2 t.size e.size then
        match fM s.h e v.cells with
        |some y=>k ((s.cI (bH v.cells)).fC id (.arr b e (xs.set i y)))
        |none=>U
      else(xs[i]?).bind λx=>
        match fM s.h e (splice (flat e x) off v.cells)with
        |some y=>k ((s.cI (bH v.cells)).fC id (.arr b e (xs.set i y)))
        |none=>U
    else U
   |_=>U
  |_=>U
def gL(t:Ty)(cs:List aS):List (Nat×aY)->Option (List aS)
 |[]=>O cs
 | (i,v)::r=>match fieldAt t i with
   | some (off,u)=>bif v.iD&&ae2 v.cells.length u.size then gL t (splice cs off v.cells) r else U
   | none=>U
def tN(get:Nat->Option bI)(t:Ty):List (Nat×aY)->Nat->Option (List t.den)
 |[],_=>O []
 |(i,v)::r,n=>bif ae2 i n&&v.iD&&ae2 v.cells.length t.size then(bP get t v.cells).bind λx=>(tN get t r (n+1)).bind λxs=>O (x::xs)else U
def TI(get:Nat->Option bI)(u:Ty)(c:aS):Option Int:=
  match u,c with
  |.str,.pv .str x=>O (x.length:Int)
  |.slice _,.pv (.slice _) x=>O (x.length:Int)
  |.slice _,.gV=>O 0
  |.slice _,.os id=>match get id with
   |some (.arr _ _ xs)=>O (xs.length:Int)
   |_=>U
  |.slice _,.sb _ _ off e y=>match(flat e y)[off]? with
   |some (.pv (.slice _) x)=>O (x.length:Int)
   |_=>U
  |_,_=>U
def I6(get:Nat->Option bI)(t:Ty)(x:aS):Option (List t.den):=cC get (.slice t) x
def aS.Ba:aS->Bool
 |.gV=>true
 |_=>false
def Q7(s:AS)(j:Nat):Bool:=match s.h.get j with
  |some (.arr d _ _)=>d
  |_=>false
def Mz(s:AS)(a x:aS):Bool:=match x with
  |.os j=>Q7 s j&& (match a with
   |.gV=>true
   |.os id=>!Nat.beq id j&&Q7 s id
   |_=>false)
  |_=>false
def sX(s:AS)(d:Nat)(t:Ty)(a x:aS){R:Type}(k:aY->AS->Option R):Option R:=
  match x with
  |.os j=>match s.h.get j with
   |some (.arr true e b)=>match cL (t:=.slice e) (.slice t) b with
    |some ys=>match a with
     |.gV=>bif ae (ys.length<=lim)then k (.one (.os (d*16))) (((s.kill j).fresh d).bear (d*16) t ys)else U
     |.os id=>match s.h.get id with
      |some (.arr true c zs)=>bif ae2 id j||(ae3 100000 id&&ae3 id 199999)then U else
       match cL (t:=.slice c) (.slice t) zs with
       |some xs=>bif ae (xs.length+ys.length<=lim)then
          let s:=(s.kill j).kill id
          k (.one (.os id)) {s with h:=(id,.arr true t (xs++ys))::s.h}else U
       |none=>U
      |_=>U
     |_=>U
    |none=>U
   |_=>U
  |_=>U
def xO(s:AS)(ps:List (Nat×Operand)):Bool:=match ps with
  |[(0,x)]=>!cQ (s.ev x).cells&&fg s.h (s.ev x).cells
  |_=>false
def vX(E:Env)(s:AS)(d:Nat)(t n:Nat)(ps:List (Nat×Operand)){R:Type}(k:aY->AS->Option R):Option R:=
  match look E.T t,ps with
  |some (.slice u),[(0,x)]=>bif ae2 n 1&& ((s.ev x).iD&&ae2 (s.ev x).cells.length u.size&&ae3 u.size 16777216)&&fg s.h (s.ev x).cells then
     match fM s.h u (s.ev x).cells with
     |some y=>k (.one (.os (d*16))) (((s.eX (bH (s.ev x).cells)).fresh d).bear (d*16) u [y])
     |none=>U
   else U
  |_,_=>U
def yD(E:Env)(s:AS)(d:Nat)(c:Nat)(a x:aS){R:Type}(k:aY->AS->Option R):Option R:=
  match look E.T c with
  |some (.slice t)=>
   bif E.mv&& (t.leads&&Mz s a x)then sX s d t a x k else
   bif t.leads&&!xL [x]then U else
   match I6 s.h.get t x with
   |some ys=>
    let b:=!t.leads||x.Ba
    let s:=bif t.leads then s.cI (bH [x])else s
    match a with
    |.gV=>let s:=s.fresh d
     bif ae (ys.length<=lim)then k (.one (.os (d*16))) {ρ:=s.ρ,h:=(d*16,.arr b t ys)::s.h,t:=s.t+1}else U
    |.os id=>match s.h.get id with
     |some (.arr d' e zs)=>bif ae3 100000 id&&ae3 id 199999 then U else
      match cL (t:=.slice e) (.slice t) zs with
      |some xs=>bif ae (xs.length+ys.length<=lim)then
         let s:=s.kill id
         k (.one (.os id)) {s with h:=(id,.arr (d'&&b) t (xs++ys))::s.h}else U
      |none=>U
     |_=>U
    |_=>U
   |none=>U
  |_=>U
noncomputable def bN{R:Type}(a b:Option R):Option R:=by
  classical
  exact if a=b then a else U
def sU(e:Ty)(y:e.den)(off:Nat)(u:Ty)(z:List u.den):Option e.den:=bP (λ_=>U) e ((flat e y).take off++[.pv (.slice u) z]++(flat e y).drop (off+1))
noncomputable def Dm(E:Env)(s:AS)(d:Nat)(a:Nat)(id i off:Nat)(e:Ty)(y:e.den)(x:aS){R:Type}(k:aY->AS->Option R):Option R:=
  match look E.T a,s.h.get id,(flat e y)[off]? with
  |some (.slice t),O (.arr true b xs),O (.pv (.slice u) z)=>
   match cL (t:=.slice u) (.slice t) z,I6 s.h.get t x with
   |some zs,O ys=>bif t.leads||aeO ys then U else
    let s1:=s.fresh d
    match s1.h.get id with
    |some (.arr true _ _)=>bif ae (zs.length+ys.length<=lim)then bN (k (.one (.vw id (.app i off e y t ys))) (s1.fC id (.arr true b xs))) (k (.one (.os (d*16))) {ρ:=s1.ρ,h:=(d*16,.arr true t (zs++ys))::s1.h,t:=s1.t+1})else U
    |_=>U
   |_,_=>U
  |_,_,_=>U
def sW(s:AS)(id i off:Nat)(e:Ty)(y:e.den)(t:Ty)(ys:List t.den){R:Type}(k:AS->Option R):Option R:=
  match s.h.get id,(flat e y)[off]? with
  |some (.arr true a xs),O (.pv (.slice u) z)=>
   match cL (t:=.slice u) (.slice t) z with
   |some zs=>match sU e y off t (zs++ys)with
    |some y1=>match cL a y1 with
     |some b=>k (s.fC id (.arr true a (xs.set i b)))
     |none=>U
    |none=>U
   |none=>U
  |_,_=>U
def sK(s:AS)(b:Ty)(id i off:Nat)(e:Ty)(y:e.den)(j:Nat)(v:aY){R:Type}(k:AS->Option R):Option R:=
  match s.h.get id,(flat e y)[off]? with
  |some (.arr true a xs),O (.pv (.slice u) z)=>
   bif u.leads||(u.isAgg||!(ae (u=b)&&v.fits u))then U else
   match fM s.h u v.cells with
   |some x=>match sU e y off u (List.set z j x)with
    |some y1=>match cL a y1 with
     |some c=>k (s.fC id (.arr true a (xs.set i c)))
     |none=>U
    |none=>U
   |none=>U
  |_,_=>U
def ja:List PK->List aY->List Nat
 |.val t::ps,v::vs=>bif t.leads then bH v.cells++ja ps vs else ja ps vs
 |_::ps,_::vs=>ja ps vs
 |_,_=>[]
def eA:List PK->List aY->List Nat
 |.val _::ps,v::vs=>dI v.cells++eA ps vs
 |_::ps,_::vs=>eA ps vs
 |_,_=>[]
def ct:List PK->Bool
 |[]=>true
 |.val _::r=>ct r
 |.rp _::r=>ct r
 |.fn _ _::r=>ct r
 |_::_=>false
def Ec:List PK->Bool
 |.own _::ps=>ct ps
 |_=>false
def fW:List RK->Bool
 |[]=>true
 |.val t::r=>!t.leads&&fW r
 |.own _::_=>false
 |.rp _::_=>false
 |.sh _::_=>false
 |.ob _::_=>false
def br(ev:Operand->aY)(xs:List Operand)(caps:List yH):List aY:=xs.map ev++caps.map yH.abu
def yx(s0:AS)(d:Nat)(C:aR)(xs:List Operand)(caps:List yH){R:Type}(k:aY->AS->Option R):Option R:=
  bif !(ct C.ps||(Ec C.ps&&fW C.rs))then U else
  let s:=bif RK.leads C.rs then s0.cI (ja C.ps (br s0.ev xs caps))else s0
  let args:=br s.ev xs caps
  bif(RK.leads C.rs||!ct C.ps)&&!(eA C.ps args).isEmpty then U else
  match cG s.h C.ps args with
  |some x=>(C.fn x).bind λr=>kU C.ps args (RK.dw C.rs) r s λr s=>match bC (d*16) C.rs r with
   |(l,os,n)=>bif ae3 n (d*16+16)then
      let s:=s.fresh d
      k (qs l) {ρ:=s.ρ,h:=os++s.h,t:=bif ct C.ps then s.t else s.t+1}
    else U
  |none=>U
def xd:(ps:List PK)->{ts:List Ty}->bS (PK.dY ps ts)->Option (bS ts)
 |[],_,x=>O x
 |.val _::ps,_,x=>xd ps x
 |.rp _::ps,_,x=>xd ps x
 |.fn _ _::ps,_,x=>xd ps x
 |_::_,_,_=>U
def sH:List PK->Bool
 |.dt _::ps=>ct ps
 |.cK _::ps=>ct ps
 |_=>false
def vK:List aY->Option Nat
 |.one (.op id 0)::_=>O id
 |_=>U
def PX{t:Ty}{ps:List PK}{rs:List RK}(s:AS)(d id:Nat)(r:bS (PK.dY (.dt t::ps) (RK.dw rs))){R:Type}(k:aY->AS->Option R):Option R:=
  (xd ps (ts:=RK.dw rs) (tailD (t:=t) (ts:=PK.dY ps (RK.dw rs)) r)).bind λz=>match bC (d*16) rs z with
    |(l,os,n)=>bif ae3 n (d*16+16)then
       k (qs l) {ρ:=((s.fresh d).upd id (.box (flat t (headD (t:=t) (ts:=PK.dY ps (RK.dw rs)) r)))).ρ,h:=os++((s.fresh d).upd id (.box (flat t (headD (t:=t) (ts:=PK.dY ps (RK.dw rs)) r)))).h,t:=(s.fresh d).t+1}
     else U
def L0{t:Ty}{ps:List PK}{rs:List RK}(s0:AS)(d id:Nat)(r:bS (PK.dY (.cK t::ps) (RK.dw rs))){R:Type}(k:aY->AS->Option R):Option R:=
  match s0.h.get id with
  |some (.box cs)=>
   let s:=s0.eX (bH cs)
   (xd ps (ts:=RK.dw rs) (tailD (t:=t) (ts:=PK.dY ps (RK.dw rs)) r)).bind λz=>match ba (d*16) t (headD (t:=t) (ts:=PK.dY ps (RK.dw rs)) r)with
     |(cs,a,b)=>match bC b rs z with
      |(l,os,n)=>bif ae3 n (d*16+16)then
         k (qs l) {ρ:=((s.fresh d).upd id (.box cs)).ρ,h:=(a++os)++((s.fresh d).upd id (.box cs)).h,t:=(s.fresh d).t+2}
       else U
  |_=>U
def ud(s0:AS)(d:Nat)(C:aR)(xs:List Operand)(caps:List yH){R:Type}(k:aY->AS->Option R):Option R:=
  match C with
  |⟨.dt t::ps,_,fn⟩=>
   let s:=s0.cI (ja (.dt t::ps) (br s0.ev xs caps))
   let args:=br s.ev xs caps
   bif !(eA (.dt t::ps) args).isEmpty then U else
   match vK args with
   |some id=>bif ae3 (d*16) id&&ae3 id (d*16+15)then U else
    match cG s.h (.dt t::ps) args with
    |some x=>(fn x).bind λr=>PX s d id r k
    |none=>U
   |none=>U
  |⟨.cK t::ps,_,fn⟩=>
   let s:=s0.cI (ja (.cK t::ps) (br s0.ev xs caps))
   let args:=br s.ev xs caps
   bif !(eA (.cK t::ps) args).isEmpty then U else
   match vK args with
   |some id=>bif ae3 (d*16) id&&ae3 id (d*16+15)then U else
    match cG s.h (.cK t::ps) args with
    |some x=>(fn x).bind λr=>L0 s d id r k
    |none=>U
   |none=>U
  |_=>U
def MC(v:aY):Option Int:=
  match v with
  |.one (.pv (.int .i64) n)=>O n
  |_=>U
def bound(ev:Operand->aY)(dflt:Int):Option Operand->Option Int
 |none=>O dflt
 |some o=>MC (ev o)
def Cy:Ty->List aS->List aS->Option Bool
 |.unit,[],[]=>O true
 | .pair (.int k) u,.pv (.int i) x::a,.pv (.int j) y::b=>bif ae (i=k)&&ae (j=k)then match Cy u a b with
   | some z=>O (ae ((x:Int)=y)&&z)
   | none=>U
   else U
 |_,_,_=>U
def VD(u:Ty)(op:BinOp)(a b:List aS):kH:=
  match Cy u a b with
  |some z=>match op with
   |.eql=>gJ (.pv .bool z)
   |.neq=>gJ (.pv .bool (!z))
   |_=>.fail
  |none=>.fail
def aQ(E:Env)(ev:Operand->aY)(get:Nat->Option bI)(d:Nat)(o:Op):kH:=
  match o with
  |.move x|.assign x=>.ok (ev x) []
  |.alloc t=>match look E.T t with
   |some u=>.ok (.one (.op (d*16) 0)) [(d*16,.box (fN u))]
   |none=>.fail
  |.box t x=>match look E.T t with
   |some u=>
    bif(ev x).iD&&ae2 (ev x).cells.length u.size then
      bif E.ro.any (ae2 d)then
        match dI (ev x).cells,bP get u (ev x).cells with
        |[],O y=>.ok (.one (.pc u y)) []
        |_,_=>.fail
      else .ok (.one (.op (d*16) 0)) [(d*16,.box (ev x).cells)]
    else .fail
   |none=>.fail
  |.build t ps=>match BQ E.T t with
   |some u=>match gL u (fN u) (ps.toList.map λp=>(p.1,ev p.2))with
    |some cs=>bif u.isAgg then .ok (.ag cs) []else .fail
    |none=>.fail
   |none=>match look E.T t with
    |some (.pair .unit (.pair e r))=>bif(lenOf e r).isSome then(match gL (.pair e r) (fN (.pair e r)) (ps.toList.map λp=>(p.1,ev p.2))with
     |some cs=>.ok (.ag cs) []
     |none=>.fail)else .fail
    |_=>.fail
  |.buildSlice t n ps=>match look E.T t with
   |some (.slice u)=>bif ae2 ps.size n&&ae3 (n*u.size) 16777216 then
    bif ae2 n 0 then gJ .gV else
      match dI (ps.toList.flatMap λp=>(ev p.2).cells),tN get u (ps.toList.map λp=>(p.1,ev p.2)) 0 with
      |[],O xs=>bif E.ro.any (ae2 d)then .ok (.one (.pv (.slice u) xs)) []else .ok (.one (.os (d*16))) [(d*16,.arr (cQ (ps.toList.flatMap λp=>(ev p.2).cells)) u xs)]
      |_,_=>.fail
    else .fail
   |_=>.fail
  |.load t a=>match look E.T t,ev a with
   |some u,.one c=>IG get u c
   |_,_=>.fail
  |.binOp op t x y _=>match ev x,ev y with
   |.one a,.one b=>OB (match look E.T t with|some .bool=>true|_=>false) op a b
   |.ag a,.ag b=>match look E.eqs t with
    |some u=>VD u op a b
    |none=>.fail
   |_,_=>.fail
  |.unOp op _ x=>match ev x with
   |.one a=>Xg op a
   |_=>.fail
  |.makeSlice t l c=>match look E.T t,ev l,ev c with
   |some (.slice u),.one (.pv (.int .i64) n),.one (.pv (.int .i64) m)=>
    .guard (ae (0<=n)&&ae (n<=m)&&ae (m<=lim)) (.one (.os (d*16))) [(d*16,.arr true u (aeU n.toNat u.zero))]
   |_,_,_=>.fail
  |.slice v x lo hi U=>match look E.T v,ev x with
   |some (.slice s),.one (.pv (.slice t) xs)=>bif ae (t=s)then
      match bound ev 0 lo,bound ev xs.length hi with
      |some l,O h=>.bind (List t.den) (sub xs l h) λys=>(.one (.pv (.slice t) ys),[])
      |_,_=>.fail
    else .fail
   |some .str,.one (.pv .str xs)=>
    match bound ev 0 lo,bound ev xs.length hi with
    |some l,O h=>.bind Bytes (sub xs l h) λys=>(.one (.pv .str ys),[])
    |_,_=>.fail
   |some (.slice s),.one (.os id)=>match get id with
    |some (.arr _ t xs)=>bif ae (t=s)&&E.win.any (ae2 d)then
       match bound ev 0 lo,bound ev xs.length hi with
       |some l,O h=>.guard (ae (0<=l)&& (ae (l<=h)&&ae (h<=xs.length))) (.one (.vw id (.win l.toNat h.toNat))) []
       |_,_=>.fail
     else .fail
    |_=>.fail
   |_,_=>.fail
  |.slice v x lo (O hi) (O B)=>match look E.T v,ev x,bound ev 0 lo,MC (ev hi),MC (ev B)with
   |some (.slice s),.one (.pv (.slice t) _),O l,O r,O n=>bif ae (t=s)&& (ae (l=0)&&ae (r=0)&&ae (n=0))then .ok (.one (.os (d*16))) [(d*16,.arr true t [])]else .fail
   |_,_,_,_,_=>.fail
  |.fieldAddr t a f=>match BQ E.T t,ev a with
   |some u,.one c=>match fieldAt u f,c with
    |some p,.op id off=>gJ (.op id (off+p.1))
    |some p,.oe id i off=>gJ (.oe id i (off+p.1))
    |some _,.pc _ x=>match cL u x with
     |some y=>match zj u y f with
      |some q=>gJ (.pc q.1 q.2)
      |none=>.fail
     |none=>.fail
    |_,_=>.fail
   |_,_=>.fail
  |.field t x f=>match BQ E.T t,ev x with
   |some u,.ag cs=>match fieldAt u f with
    |some p=>bif ae3 (p.1+p.2.size) cs.length then .ok (valOf p.2.isAgg ((cs.drop p.1).take p.2.size)) []else .fail
    |none=>.fail
   |_,_=>.fail
  |.indexAddr v x i=>match look E.T v,ev x,ev i with
   |some (.slice s),.one (.pv (.slice t) xs),.one (.pv (.int _) n)=>bif ae (t=s)then .bind t.den (idx xs n) λe=>(.one (.pc t e),[])else .fail
   |some (.slice s),.one (.os id),.one (.pv (.int _) n)=>match get id with
    |some (.arr _ t xs)=>bif ae (t=s)then .guard (ae (0<=n)&&ae (n<xs.length)) (.one (.oe id n.toNat 0)) []else .fail
    |_=>.fail
   |some (.slice s),.one (.vw id .all),.one (.pv (.int _) n)=>match get id with
    |some (.src t _ xs)=>bif ae (t=s)then .guard (ae (0<=n)&&ae (n<xs.length)) (.one (.vw id (.el n.toNat))) []else .fail
    |_=>.fail
   |some (.slice s),.one (.sb id i off e y),.one (.pv (.int _) n)=>match(flat e y)[off]? with
    |some (.pv (.slice u) z)=>bif ae (u=s)then .guard (ae (0<=n)&&ae (n<(aeP (α:=u.den) z:Int))) (.one (.vw id (.Kv i off e y n.toNat))) []else .fail
    |_=>.fail
   |some u,.one (.op id off),.one (.pv (.int _) n)=>match qW u with
    |some p=>bif ae (0<=n)&&ae (n<p.1)then gJ (.op id (off+n.toNat*p.2.size))else .fail
    |none=>.fail
   |_,_,_=>.fail
  |.index v x i=>match look E.T v,ev x,ev i with
   |some .str,.one (.pv .str xs),.one (.pv (.int _) n)=>.bind UInt8 (idx xs n) λb=>(.one (.pv (.int .u8) (b.toNat:Int)),[])
   |_,_,_=>.fail
  |.extract x i=>match ev x with
   |.tu l=>match l[i]? with
    |some p=>.ok (valOf p.1 p.2) []
    |none=>.fail
   |_=>.fail
  |.nilCheck x=>match ev x with
   |.one (.op id off)=>gJ (.op id off)
   |.one (.oe id i off)=>gJ (.oe id i off)
   |.one (.pc t x)=>gJ (.pc t x)
   |_=>.fail
  |.call c=>match c.callee with
   |.builtin .len=>match c.argTypes.toList,c.args.toList.map ev with
    |[t],[.one a]=>match look E.T t with
     |some u=>match TI get u a with
      |some n=>gJ (.pv (.int .i64) n)
      |none=>.fail
     |none=>.fail
    |_,_=>.fail
   |.builtin .append=>match c.argTypes.toList,c.args.toList.map ev with
    |[v,w],[.one .gV,.one x]=>match look E.T v with
     |some (.slice t)=>bif ae2 v w&&!(t.leads&&!(dI [x]).isEmpty)then
        match I6 get t x with
        |some ys=>.guard (ae (ys.length<=lim)) (.one (.os (d*16))) [(d*16,.arr (!t.leads||x.Ba) t ys)]
        |none=>.fail
      else .fail
     |_=>.fail
    |_,_=>.fail
   |.builtin .min=>match c.args.toList.map ev with
    |[.one (.pv (.int j) x),.one (.pv (.int A) y)]=>bif ae (j=A)then gJ (.pv (.int j) (bif ae (y<x)then y else x))else .fail
    |_=>.fail
   |.builtin .max=>match c.args.toList.map ev with
    |[.one (.pv (.int j) x),.one (.pv (.int A) y)]=>bif ae (j=A)then gJ (.pv (.int j) (bif ae (x<y)then y else x))else .fail
    |_=>.fail
   |_=>.fail
  |.makeFunc fn first captured=>match fn,first.toList,Mn (captured.toList.map ev)with
   |.func g,[],O caps=>gJ (.cl g caps)
   |_,_,_=>.fail
  |.convert src dst x=>match look E.T src,look E.T dst,ev x with
   |some (.int _),O (.int k),.one (.pv (.int _) n)=>gJ (.pv (.int k) (k.wrap n))
   |some (.slice (.int .u8)),O .str,.one c=>match cC get (.slice (.int .u8)) c with
    |some xs=>gJ (.pv .str (toStr xs))
    |none=>.fail
   |_,_,_=>.fail
  |_=>.fail
def gives(E:Env)(s:AS)(d:Nat)(o:Op):List Nat:=
  match o with
  |.box _ x=>bif E.ro.any (ae2 d)then bH (s.ev x).cells else []
  |.buildSlice _ _ ps=>bH (ps.toList.flatMap λp=>(s.ev p.2).cells)
  |.call c=>match c.callee,c.argTypes.toList,c.args.toList with
   |.builtin .append,a::_,[_,x]=>match look E.T a with
    |some (.slice t)=>bif t.leads then bH (s.ev x).cells else []
    |_=>[]
   |_,_,_=>[]
  |_=>[]
def CS(E:Env)(s:AS)(b:Nat)(a x:aS):Bool:=
  a.Ba&&!(E.mv&& ((match look E.T b with|some t=>t.leads|none=>false)&&Mz s a x))
def lh(E:Env)(s:AS)(d:Nat)(o:Op){R:Type}(k:aY->AS->Option R):Option R:=
  let s1:=s.fresh d
  let s2:=s1.cI (gives E s1 d o)
  (aQ E s2.ev s2.h.get d o).run s2 k
def Gp(op:BinOp)(b:Bool):Bool:=
  match op with
  |.eql=>b
  |_=>!b
def sG(E:Env)(s:AS)(op:BinOp)(t:TypeId)(x y:Operand):Bool:=
  match op,look E.T t,s.ev x,y with
  |.eql,O (.slice _),.one (.pv (.slice _) _),.const (.slice U 0 0)=>true
  |.neq,O (.slice _),.one (.pv (.slice _) _),.const (.slice U 0 0)=>true
  |_,_,_,_=>false
noncomputable def Rb(s:AS)(op:BinOp)(x:Operand){R:Type}(k:aY->AS->Option R):Option R:=
  match s.ev x with
  |.one (.pv (.slice _) xs)=>
   bif aeO xs then bN (k (.one (.pv .bool (Gp op true))) {s with t:=s.t+1}) (k (.one (.pv .bool (Gp op false))) {s with t:=s.t+1})
   else k (.one (.pv .bool (Gp op false))) {s with t:=s.t+1}
  |_=>U
def isConst:Operand->Bool
 |.const _=>true
 |_=>false
def KM(E:Env)(s:AS)(a:TypeId)(x i:Operand):Bool:=
  match look E.T a,s.ev x,s.ev i with
  |some u,.one (.op _ _),.one (.pv (.int _) _)=>!isConst i&& (qW u).isSome
  |_,_,_=>false
def J9(n:Int){R:Type}(k:Nat->Option R):Nat->Option R
 |0=>U
 |j+1=>bif ae (n=(j:Int))then k j else J9 n k j
def xV(E:Env)(s:AS)(a:TypeId)(x i:Operand):Bool:=
  match look E.T a,s.ev x,s.ev i with
  |some u,.ag cs,.one (.pv (.int _) _)=>match qW u with
   |some p=>ae3 (p.1*p.2.size) cs.length
   |none=>false
  |_,_,_=>false
def Ix(E:Env)(s:AS)(a:TypeId)(x i:Operand){R:Type}(k:aY->AS->Option R):Option R:=
  match look E.T a,s.ev x,s.ev i with
  |some u,.ag cs,.one (.pv (.int _) n)=>match qW u with
   |some p=>J9 n (λj=>k (valOf p.2.isAgg ((cs.drop (j*p.2.size)).take p.2.size)) {s with t:=s.t+1}) p.1
   |none=>U
  |_,_,_=>U
def IB(E:Env)(s:AS)(a:TypeId)(x i:Operand){R:Type}(k:aY->AS->Option R):Option R:=
  match look E.T a,s.ev x,s.ev i with
  |some u,.one (.op id off),.one (.pv (.int _) n)=>match qW u with
   |some p=>J9 n (λj=>k (.one (.op id (off+j*p.2.size))) {s with t:=s.t+1}) p.1
   |none=>U
  |_,_,_=>U
def xe{α:Type}(xs:List α)(i:Int)(y:α):List α:=xs.take i.toNat++y::xs.drop i.toNat
def RI(E:Env)(s:AS)(g:Nat)(args:List Operand){R:Type}(k:aY->AS->Option R):Option R:=
  match look E.ins g,args.map s.ev with
  |some t,[.one (.os id),.one (.pv (.int .i64) i),.one (.os a)]=>
   match s.h.get id,s.h.get a with
   |some (.arr true e zs),O (.arr true b us)=>
    bif ae2 id a||(ae3 100000 id&&ae3 id 199999)then U else
    match cL (t:=.slice e) (.slice t) zs,cL (t:=.slice b) (.slice t) us with
    |some xs,O ys=>match ys with
     |[y]=>bif ae (0<=i)&&ae (i<=(xs.length:Int))&&ae (xs.length<=999999)then k (.one (.os id)) {(s.kill a).kill id with h:=(id,.arr true t (xe xs i y))::((s.kill a).kill id).h}else U
     |_=>U
    |_,_=>U
   |_,_=>U
  |_,_=>U
def QZ(E:Env)(s:AS)(f:Nat)(args:List Operand){R:Type}(k:aY->AS->Option R):Option R:=
  match look E.del f,args.map s.ev with
  |some D,[.one (.os id),.one (.cl g [])]=>
   match s.h.get id with
   |some (.arr true e zs)=>
    bif(!(ae2 g D.g)||(ae3 100000 id&&ae3 id 199999))||D.out.isSome then U else
    match cL (t:=.slice e) (.slice D.t) zs with
    |some xs=>bif ae (aeP (α:=D.t.den) xs<=999999)then k (.one (.os id)) {s.kill id with h:=(id,.arr true D.t (List.filter D.keep xs))::(s.kill id).h}else U
    |none=>U
   |_=>U
  |_,_=>U
def VQ(E:Env)(s:AS)(f:Nat)(args:List Operand){R:Type}(k:aY->AS->Option R):Option R:=
  match look E.del f,args.map s.ev with
  |some D,[.one (.os id)]=>
   match D.out,s.h.get id with
   |some F,O (.arr true e zs)=>
    bif(ae3 100000 id&&ae3 id 199999)then U else
    match cL (t:=.slice e) (.slice D.t) zs with
    |some xs=>(F xs).bind λp=>k (.tu [(false,[.os id]),(false,[.pv .bool p.2])]) {s.kill id with h:=(id,.arr true D.t p.1)::(s.kill id).h}
    |none=>U
   |_,_=>U
  |_,_=>U
noncomputable def RQ(s:AS)(d:Nat)(D:sP)(args:List Operand){R:Type}(k:aY->AS->Option R):Option R:=
  match args with
  |a::_=>match s.ev a with
   |.one c=>bif ct D.C.ps then(cG s.h D.C.ps (br s.ev args [])).bind λx=>(D.same x).bind λb=>bif b then k (.one c) {s with t:=s.t+1}else yx {s with t:=s.t+1} d D.C args [] k else U
   |_=>U
  |_=>U
inductive VO where
  |Kv (id i off:Nat) (e:Ty) (y:e.den) (j:Nat)
  |app (id i off:Nat) (e:Ty) (y:e.den) (u:Ty) (ys:List u.den) (i2:Nat)
  |same (id i off:Nat) (e:Ty) (y:e.den) (i2:Nat)
  |plain
def yO(c:aS)(v:aY):VO:=
  match c with
  |.vw id (.Kv i off e y j)=>.Kv id i off e y j
  |.oe id i off=>match v with
   |.one (.vw b (.app d a e y f ys))=>bif ae2 id b&&ae2 off a then .app id i off e y f ys d else .plain
   |.one (.sb b d a e y)=>bif ae2 id b&&ae2 off a then .same id i off e y d else .plain
   |_=>.plain
  |_=>.plain
def qa(s:AS)(id:Nat){R:Type}(k:AS->Option R):Option R:=
  match s.h.get id with
  |some (.arr true a xs)=>k (s.fC id (.arr true a xs))
  |_=>U
def qN:List PK->List aY->Bool
 |[],_=>true
 |.fn h _::ps,.one (.cl f _)::vs=>ae2 f h&&qN ps vs
 |.fn _ _::_,_=>false
 |.val _::ps,_::vs=>qN ps vs
 |.own _::ps,_::vs=>qN ps vs
 |.rp _::_,_=>true
 |.dt _::ps,_::vs=>qN ps vs
 |.cK _::ps,_::vs=>qN ps vs
 |_::_,[]=>false
def FQ(l:List (Nat×aR))(g:Nat)(vs:List aY):Option aR:=
  match l with
  |[]=>U
  |(j,C)::r=>bif ae2 j g&&qN C.ps vs then O C else FQ r g vs
def Md(s0:AS)(d id:Nat)(K:MK)(r:bS (PK.dY (.cK K.t::K.ps) (RK.dw K.rs))){R:Type}(k:aY->AS->Option R):Option R:=
  match s0.h.get id with
  |some (.box cs)=>
   match((s0.eX (bH (cs.take K.t.size))).fresh d).h.get id with
   |some (.box a)=>
    (xd K.ps (ts:=RK.dw K.rs) (tailD (t:=K.t) (ts:=PK.dY K.ps (RK.dw K.rs)) r)).bind λz=>match ba (d*16) K.t (headD (t:=K.t) (ts:=PK.dY K.ps (RK.dw K.rs)) r)with
      |(b,c,e)=>match bC e K.rs z with
       |(l,os,n)=>bif ae3 n (d*16+16)then
          k (qs l) {ρ:=(((s0.eX (bH (cs.take K.t.size))).fresh d).upd id (.box (b++a.drop K.t.size))).ρ,h:=(c++os)++(((s0.eX (bH (cs.take K.t.size))).fresh d).upd id (.box (b++a.drop K.t.size))).h,t:=((s0.eX (bH (cs.take K.t.size))).fresh d).t+2}
        else U
   |_=>U
  |_=>U
def Dt(s0:AS)(d:Nat)(K:MK)(xs:List Operand)(caps:List yH){R:Type}(k:aY->AS->Option R):Option R:=
  bif !(ct K.ps&&GM K.t)then U else
  let s:=s0.cI (ja (.cK K.t::K.ps) (br s0.ev xs caps))
  let args:=br s.ev xs caps
  bif !(eA (.cK K.t::K.ps) args).isEmpty then U else
  match args with
  |.one (.op id 0)::vs=>bif ae3 (d*16) id&&ae3 id (d*16+15)then U else
   match s.h.get id with
   |some (.box cs)=>bif ae2 cs.length (K.t.size+1)&&fg (s.h.del id) (cs.take K.t.size)then
      (fM s.h K.t (cs.take K.t.size)).bind λa=>(cG ((bH (cs.take K.t.size)).foldl aP.del (s.h.del id)) K.ps vs).bind λb=>(K.fn (dC a b)).bind λr=>Md s d id K r k
    else U
   |_=>U
  |_=>U
noncomputable def Un(E:Env)(s:AS)(dst:Option Nat)(o:Op){R:Type}(k:aY->AS->Option R):Option R:=
  let d:=dst.getD 0
  match o with
  |.store t a x=>match look E.T t,s.ev a with
   |some u,.one c=>match yO c (s.ev x)with
    |.Kv id i off e y j=>sK s u id i off e y j (s.ev x) λs=>k (.one .und) s
    |.app id i off e y l ys i2=>bif ae (u=.slice l)then(bif ae2 i i2 then sW s id i off e y l ys λs=>k (.one .und) s else U)else U
    |.same id i _ _ _ i2=>bif ae2 u.size 1 then(bif ae2 i i2 then qa s id λs=>k (.one .und) s else U)else U
    |.plain=>vP E.mv s u c (s.ev x) λs=>k (.one .und) s
   |_,_=>U
  |.call c=>match c.callee with
   |.builtin .append=>match c.argTypes.toList,c.args.toList.map s.ev with
    |[b,h],[.one a,.one x]=>bif CS E s b a x then lh E s d o k else bif ae2 b h then(match a with
     |.sb id i off e y=>Dm E s d b id i off e y x k
     |a=>yD E s d b a x k)else U
    |_,_=>U
   |.value f=>match s.ev f with
    |.one (.cl g caps)=>match FQ E.G g (c.args.toList.map s.ev)with
     |some C=>bif sH C.ps then ud s d C c.args.toList caps k else yx s d C c.args.toList caps k
     |none=>bif caps.isEmpty then(match look E.sel g with|some D=>RQ s d D c.args.toList k|none=>match look E.del g with|some D=>bif D.out.isSome then VQ E s g c.args.toList k else QZ E s g c.args.toList k|none=>match look E.keepc g with|some K=>Dt s d K c.args.toList caps k|none=>RI E s g c.args.toList k)else U
    |_=>U
   |_=>lh E s d o k
  |.binOp op t x y _=>bif sG E s op t x y then Rb s op x k else lh E s d o k
  |.buildSlice t n ps=>bif E.mv&&xO s ps.toList then vX E s d t n ps.toList k else lh E s d o k
  |.indexAddr b x i=>bif KM E s b x i then IB E s b x i k else lh E s d o k
  |.index b x i=>bif xV E s b x i then Ix E s b x i k else lh E s d o k
  |_=>lh E s d o k
noncomputable def PG(E:Env):List Oper->AS->{R:Type}->(AS->Option R)->Option R
 |[],s,_,k=>k s
 |o::r,s,_,k=>Un E s o.dst o.op λv s'=>bif ae2 s'.t s.t then PG E r (s'.put o.dst v) k else U
def Qu:Op->Bool
 |.move _=>true
 |.slice _ _ _ _ U=>true
 |_=>false
def IY:Op->Bool
 | .call c=>match c.callee with
   | .builtin .append=>true
   | _=>false
 |_=>false
def si:List Oper->Option (List Oper×Oper×List Oper)
 |[]=>U
 | o::r=>bif IY o.op then(bif r.isEmpty||!(r.all λq=>Qu q.op)then U else O ([],o,r))
   else match si r with
     | none=>U
     | some p=>O (o::p.1,p.2.1,p.2.2)
def AS.less(s:AS)(id:Nat):AS:={s with h:=s.h.del id}
def Og(o:Oper):Option Nat:=match o.dst with
  |some d=>O d
  |none=>match o.op with
   |.store _ (.tmp t) _=>O (1000000+t)
   |_=>U
def oC(o:Oper):Oper:={o with dst:=Og o}
def Lq(l:List Oper):Bool:=l.all λo=>match o.dst with
  |some _=>true
  |none=>false
noncomputable def Hu(E:Env)(l:List Oper)(s:AS){R:Type}(k:AS->Option R):Option R:=
  bif Lq l then
  match si l with
  |none=>PG E l s k
  |some _=>U
  else U
noncomputable def Di(E:Env)(l:List Oper)(s:AS){R:Type}(k:AS->Option R):Option R:=
  match l with
  |[o]=>Un E s o.dst o.op λv s'=>k (s'.put o.dst v)
  |l=>Hu E l s k
def VI(a b:Nat×Bool):Bool:=ae2 a.1 b.1&& (a.2==b.2)
def yT(ops:Array Oper)(g:Nat×Bool):List Nat->List Oper->Bool
 |_,[]=>true
 | seen,q::r=>(match q.guard with
   | none=>false
   | some a=>VI g a||(match(ops[a.1]?).bind (·.dst)with|some x=>seen.any (ae2 x)|none=>false))&&
   yT ops g (match q.dst with|some x=>x::seen|none=>seen) r
def T4(act:List (Nat×Bool)):Option (Nat×Bool)->Bool
 |none=>true
 |some g=>act.any (VI g)
def dG:List Oper->Option (Nat×Bool)
 |[]=>U
 |o::_=>o.guard
def Qi(x:Nat)(q:Oper):Bool:=match q.dst with
  |some d=>ae2 d x
  |none=>false
def aY.uO:aY->Option Bool
 |.one (.pv .bool r)=>O r
 |_=>U
def ku(l:List Oper)(s:AS):AS:=l.foldl (λs q=>s.put q.dst (.one .und)) s
noncomputable def iB(E:Env)(ops:Array Oper):Nat->List (Nat×Bool)->List (List Oper)->AS->{R:Type}->(AS->Option R)->Option R
 |0,_,_,_,_,_=>U
 |_+1,_,[],s,_,k=>k s
 | n+1,act,g0::rest,s,R,k=>
   match dG g0 with
   | none=>Di E g0 s λs'=>iB E ops n act rest s' k
   | some g=>
     bif T4 act (O g)then Di E g0 s λs'=>iB E ops n act rest s' k
     else
       match(ops[g.1]?).bind (·.dst)with
       | none=>U
       | some e=>
       match s.ρ.getD e (.one .und)with
       | .one (.pv .bool x)=>
         let d:=(g0::rest).takeWhile λp=>!T4 act (dG p)
         match(g0::rest).dropWhile λp=>!T4 act (dG p)with
         | [p]::after=>match p.op with
           | .pick (.tmp c) a b=>
             bif !(ae2 c e)||d.flatten.any (Qi e)||!yT ops g [] d.flatten then U else
             bif E.Uj.any (ae2 e)then
               let s1:=ku d.flatten s
               let run:Option R:=iB E ops n (g::act) d s λs'=>(aY.uO (s'.ev (bif g.2 then a else b))).bind λr=>iB E ops n act after (s'.put p.dst (.one (.pv .bool r))) k
               let out:Option R:=(aY.uO (s1.ev (bif g.2 then b else a))).bind λr=>iB E ops n act after (s1.put p.dst (.one (.pv .bool r))) k
               bif x then(bif g.2 then run else out)else(bif g.2 then out else run)
             else
             let Kv:AS->Option Bool:=λs'=>bif !(ae2 s'.t s.t)then U else aY.uO (s'.ev (bif g.2 then a else b))
             let s1:=ku d.flatten s
             let out:Option Bool:=aY.uO (s1.ev (bif g.2 then b else a))
             (bif x then(bif g.2 then iB E ops n (g::act) d s Kv else out)else(bif g.2 then out else iB E ops n (g::act) d s Kv)).bind λr=>
               iB E ops n act after (s1.put p.dst (.one (.pv .bool r))) k
           | _=>U
         | _=>U
       | _=>U
def key:Code->Nat
 |.region id _ _=>id
 |.seq a _=>key a
 |.cond _ a _=>key a
 |.block _ c=>key c
 |.loop c=>key c
 |_=>1000000
def nodupB:List Nat->Bool
 |[]=>true
 |i::r=>!r.any (ae2 i)&&nodupB r
def RN(A:List Nat)(o:Oper):Nat:=o.after.toList.foldl (λm e=>bif Region.binds .any e then m|||2^e.on|||A.getD e.on 0 else m) 0
def KC:List Oper->List Nat->List Nat
 |[],A=>A
 |o::r,A=>KC r (A++[RN A o])
def wk(A:List Nat)(i:Nat):Bool:=(A.drop i).all λm=>ae2 (m&&& (2^i-1)) (2^i-1)
def om(A:List Nat):Nat->List Oper->List Oper->List (List Oper)
 |_,[],acc=>bif acc.isEmpty then []else [acc]
 |i,o::r,acc=>bif !acc.isEmpty&&wk A i then acc::om A (i+1) r [o]else om A (i+1) r (acc++[o])
def tmpsIn(o:Oper):List Nat:=o.op.operands.toList.filterMap fun|.tmp t=>O t|_=>U
def Lz(o:Oper)(l:List Nat):Bool:=match o.dst with
  |some d=>!l.any (ae2 d)
  |none=>true
def T8:List Oper->Bool
 |[]=>true
 |o::r=>(o::r).all (λq=>Lz q (tmpsIn o))&&T8 r
def P5(A:List Nat)(i:Nat):Option (List Oper×Oper×List Oper)->Bool
 |none=>true
 |some p=>(List.range p.1.length).all (λj=>afa (A.getD (i+p.1.length) 0) (i+j))&& (p.2.2.all λq=>Lz p.2.1 (tmpsIn q)&&Lz q (tmpsIn p.2.1))&&T8 p.2.2
def JK(A:List Nat)(i:Nat)(l:List Oper):Bool:=
  match l with
  |[_]=>true
  |l=>P5 A i (si l)&& (nodupB (l.filterMap (·.dst))&&l.zipIdx.all λp=>
   (match dG l,p.1.guard with|none,U=>true|some g,O a=>VI g a|_,_=>false)&&
   l.zipIdx.all λq=>match q.1.dst with
     |none=>true
     |some t=>!(tmpsIn p.1).any (ae2 t)||(bif ae4 q.2 p.2 then afa (A.getD (i+p.2) 0) (i+q.2)else bif ae4 p.2 q.2 then afa (A.getD (i+q.2) 0) (i+p.2)else true))
def xX(A:List Nat):Nat->List (List Oper)->Bool
 |_,[]=>true
 |i,l::r=>!l.isEmpty&&JK A i l&&wk A (i+l.length)&&xX A (i+l.length) r
def uM(A:List Nat)(ops:List Oper):Bool:=ae2 A.length ops.length&&ops.zipIdx.all λp=>ae2 (A.getD p.2 0) (RN A p.1)&&p.1.after.toList.all λe=>!Region.binds .any e||ae4 e.on p.2
def wC(ops:List Oper):Option (List (List Oper)):=
  let A:=KC ops []
  let l:=om A 0 ops []
  bif uM A ops&&xX A 0 l then O l else U
def dstsOf:Code->List Nat
 |.region _ ops _=>ops.toList.filterMap (·.dst)
 |.seq a b=>dstsOf a++dstsOf b
 |.cond _ a b=>dstsOf a++dstsOf b
 |.block _ c=>dstsOf c
 |.loop c=>dstsOf c
 |_=>[]
def Bl(keep:List Nat)(c:Code):Bool:=let l:=dstsOf c;keep.all λi=>!l.any (ae2 i)
def CK.ids:List CK->List Nat
 |[]=>[]
 |.own id _ _::r=>id::CK.ids r
 |_::r=>CK.ids r
def dP.ids:List dP->List Nat
 |[]=>[]
 |.tv _ _::r=>dP.ids r
 |.own _ _ id _ _::r=>id::dP.ids r
 |.bx _ id cks::r=>id::(CK.ids cks++dP.ids r)
 |.src _ id _::r=>id::dP.ids r
def Cut.ok(c:Cut):Bool:=nodupB (dP.ids c.live)&&c.outs.all λp=>nodupB (dP.ids p.2)
def PH:Op->Bool
 |.move _=>true
 |.binOp .add _ _ _ _=>true
 |.binOp .sub _ _ _ _=>true
 |.nilCheck _=>true
 |.fieldAddr _ _ _=>true
 |_=>false
def Wj:aY->Bool
 |.one (.pc _ _)=>false
 |_=>true
def Ue:Op->aY->Bool
 |.fieldAddr _ _ _,v=>Wj v
 |_,_=>true
def fR(ops:Array Oper)(l:List Nat):Array Oper:=ops.mapIdx λk o=>bif l.any (ae2 k)then o else{o with after:=o.after++((l.filter λj=>ae4 j k).map λj=>(⟨j,.data⟩:Edge)).toArray}
def vr(E:Env)(ops:Array Oper):List Nat->AS->Array Bool->Bool
 |[],_,_=>true
 | j::r,s,listed=>match ops[j]? with
   | some o=>PH o.op&& (o.guard.isNone&& (Region.free .any ops listed j&& ((Region.ready .any ops listed).contains j&&
       (match aQ E s.ev s.h.get (o.dst.getD 0) o.op with
         | .ok v []=>Ue o.op v&&vr E ops r (s.put o.dst v) (listed.setIfInBounds j true)
         | _=>false))))
   | none=>false
def Hj(E:Env)(s:AS)(id:Nat)(ops:Array Oper):Array Oper:=
  match look E.hoist id with
    |some l=>bif ae3 l.length ops.size&& (Region.noSelect ops&&vr E ops l s (ael ops.size false))then fR ops l else ops
    |none=>ops
def FC(E:Env)(s:AS)(id:Nat)(ops:Array Oper)(draw:Bool):Array Oper:=bif draw then Hj E s id ops else ops
def MB(E:Env)(s:AS)(id:Nat):AS:=match look E.pre id with
  |some l=>s.cI l
  |none=>s
def yt(E:Env)(s:AS)(id:Nat):AS:=match look E.preb id with
  |some l=>(MB E s id).zJ l
  |none=>MB E s id
def Gx(s:AS)(l:List (Nat×Ty)):AS:={ρ:=(s.zJ l).ρ.map λv=>bif v.oL then v else .one .und,h:=[],t:=0}
def aY.scalar:aY->aY
 |.one (.pv t x)=>bif t.leads then .one .und else .one (.pv t x)
 |_=>.one .und
def oF(a:List Nat):Nat->List aY->List aY->List aY
 |_,[],_=>[]
 |i,v::vs,us=>(bif a.any (ae2 i)then(us.headD (.one .und)).scalar else v)::oF a (i+1) vs us.tail
noncomputable def K9(E:Env)(s:AS)(id:Nat)(ops:Array Oper)(draw:Bool){R:Type}(k:AS->Option R):Option R:=
  match(bif draw then wC (FC E s id ops draw).toList else O ((FC E s id ops draw).toList.map λo=>[o]))with
    |some l=>iB E (FC E s id ops draw) (2*(FC E s id ops draw).size+1) [] l s k
    |none=>U
noncomputable def Ph:List Nat->{R:Type}->(Nat->Option R)->Option R
 |[],_,_=>U
 |[i],_,f=>f i
 |i::r,_,f=>bN (f i) (Ph r f)
def ry(E:Env)(ev:Operand->aY):Op->Bool
 |.move _=>true
 | .fieldAddr _ x _=>match ev x with
   | .one (.pc _ _)=>true
   | .one (.op _ _)=>true
   | _=>false
 | .nilCheck x=>match ev x with
   | .one (.pc _ _)=>true
   | .one (.op _ _)=>true
   | _=>false
 | .load _ x=>match ev x with
   | .one (.pc _ _)=>true
   | _=>false
 | .slice _ x _ _ U=>match ev x with
   | .one (.pv (.slice _) _)=>true
   | _=>false
 | .indexAddr _ x _=>match ev x with
   | .one (.pv (.slice _) _)=>true
   | _=>false
 |.extract _ _=>true
 |.build t _=>(BQ E.T t).isSome
 | .call c=>match c.callee with
   | .builtin .min=>true
   | .builtin .max=>true
   | _=>false
 |_=>false
def LX(E:Env)(ops:Array Oper)(listed:Array Bool)(s:AS)(i:Nat):Bool:=match ops[i]? with
  |some o=>o.guard.isNone&& (Region.noSelect ops&& (Region.free .any ops listed i&&ry E ((s.fresh (o.dst.getD 0)).cI (gives E (s.fresh (o.dst.getD 0)) (o.dst.getD 0) o.op)).ev o.op))
  |none=>false
noncomputable def Ei(E:Env)(ops:Array Oper):Nat->Array Bool->AS->{R:Type}->(AS->Option R)->Option R
 |0,listed,s,_,k=>bif(Region.ready .any ops listed).isEmpty then k s else U
 | n+1,listed,s,_,k=>match Region.ready .any ops listed with
   | []=>k s
   | i::r=>match(i::r).find? (LX E ops listed s)with
     | some j=>(match ops[j]? with
       | some o=>lh E s (o.dst.getD 0) o.op (λv s'=>Ei E ops n (listed.setIfInBounds j true) (s'.put o.dst v) k)
       | none=>U)
     | none=>Ph (i::r) λi=>match ops[i]? with
       | some o=>bif o.guard.isNone then Un E s o.dst o.op (λv s'=>Ei E ops n (listed.setIfInBounds i true) (s'.put o.dst v) k)else U
       | none=>U
noncomputable def lz(E:Env):Code->AS->{R:Type}->(dV->AS->Option R)->Option R
 |.skip,s,_,k=>k .normal s
 | .region id ops draw,s,_,k=>match look E.lend id with
   | some l=>K9 E (Gx (yt E s id) l) id ops draw λs'=>k .normal {ρ:=oF (ops.toList.filterMap (·.dst)) 0 (yt E s id).ρ s'.ρ,h:=(yt E s id).h,t:=(yt E s id).t}
   | none=>bif draw&&E.every.any (ae2 id)then Ei E ops ops.size (ael ops.size false) (yt E s id) (k .normal)else K9 E (yt E s id) id ops draw (k .normal)
 | .seq a b,s,_,k=>
   match look E.joins (key b)with
   | none=>lz E a s λe s'=>match e with
     | .normal=>lz E b s' k
     | e=>k e s'
   | some c=>bif !(Bl c.keep a&&c.ok)then U else(lz E a s λe s'=>FP s' e c.outs).bind λo=>
     CA c.keep s (λe s'=>match e with
       | .normal=>lz E b s' k
       | e=>k e s') c.outs o
 | .cond c a b,s,_,k=>match s.ev c with
   | .one (.pv .bool x)=>bif x then lz E a s k else lz E b s k
   | _=>U
 |.block id c,s,_,k=>lz E c s λe s'=>k (bif dV.same e (.exit id)then .normal else e) s'
 | .loop c,s,_,k=>
   match look E.loops (key c)with
   | none=>U
   | some cut=>bif !(Bl cut.keep c&&cut.ok)then U else(MH s.ρ cut.live s.h).bind λt0=>
     (aX (λt=>lz E c (Ug cut.keep cut.live s t) λe s'=>match e with
       | .normal=>(MH s'.ρ cut.live s'.h).bind λd=>O (Sum.inl d)
       | e=>(FP s' e cut.outs).bind λo=>O (Sum.inr o)) t0).bind λo=>CA cut.keep s k cut.outs o
 |.exit id,s,_,k=>k (.exit id) s
 |.ret,s,_,k=>k .ret s
 |_,_,_,_=>U
def bY:(ps:List PK)->bS (PK.dw ps)->Nat->List aY×aP
 |[],_,_=>([],[])
 | .val t::ps,x,i=>match bY ps (tailD x) (i+1)with
   | (vs,h)=>(JB t (headD x)::vs,h)
 | .rp t::ps,x,i=>match bY ps (tailD x) (i+1)with
   | (vs,h)=>(.one (.pc t (headD x))::vs,h)
 | .fn g ts::ps,x,i=>match bY ps (tailD x) (i+1)with
   | (vs,h)=>(.one (.cl g (CG ts (headD x)))::vs,h)
 | .own t::ps,x,i=>match bY ps (tailD x) (i+1),ba (100000+16*i) t (headD x)with
   | (vs,h),(cs,g,_)=>(valOf t.isAgg cs::vs,g++h)
 | .dt t::ps,x,i=>match bY ps (tailD x) (i+1)with
   | (vs,h)=>(.one (.op (100000+16*i) 0)::vs,(100000+16*i,.box (flat t (headD x)))::h)
 | .cK t::ps,x,i=>match bY ps (tailD x) (i+1),ba (100000+16*i+1) t (headD x)with
   | (vs,h),(cs,g,_)=>(.one (.op (100000+16*i) 0)::vs,(100000+16*i,.box cs)::g++h)
def mz(h:aP)(base:Nat):(t:Ty)->t.den->Option (t.den×Nat)
 |.unit,_=>O ((),base)
 |.pair a b,x=>(mz h base a x.1).bind λp=>(mz h p.2 b x.2).bind λq=>O ((p.1,q.1),q.2)
 | .slice t,_=>match h.get base with
   | some (.arr true e xs)=>(cL (t:=.slice e) (.slice t) xs).bind λy=>O (y,base+1)
   | _=>U
 |.bool,x=>O (x,base)
 |.int _,x=>O (x,base)
 |.str,x=>O (x,base)
 |.raw,x=>O (x,base)
def lW:(ps:List PK)->bS (PK.dw ps)->Nat->aP->(ts:List Ty)->bS ts->Option (bS (PK.dY ps ts))
 |[],_,_,_,_,y=>O y
 |.val _::ps,x,i,h,ts,y=>lW ps (tailD x) (i+1) h ts y
 |.rp _::ps,x,i,h,ts,y=>lW ps (tailD x) (i+1) h ts y
 |.fn _ _::ps,x,i,h,ts,y=>lW ps (tailD x) (i+1) h ts y
 |.own t::ps,x,i,h,ts,y=>(mz h (100000+16*i) t (headD x)).bind λp=>(lW ps (tailD x) (i+1) h ts y).bind λz=>O (dC p.1 z)
 | .dt t::ps,x,i,h,ts,y=>match h.get (100000+16*i)with
   | some (.box cs)=>bif ae2 cs.length t.size&& (dI cs).isEmpty then(bP (λ_=>U) t cs).bind λv=>(lW ps (tailD x) (i+1) h ts y).bind λz=>O (dC v z)else U
   | _=>U
 | .cK t::ps,x,i,h,ts,y=>match h.get (100000+16*i)with
   | some (.box cs)=>bif ae2 cs.length t.size&&fg (h.del (100000+16*i)) cs then(fM h t cs).bind λv=>(lW ps (tailD x) (i+1) h ts y).bind λz=>O (dC v z)else U
   | _=>U
def ic:List PK->Nat->aP->aP
 |[],_,h=>h
 |.val _::ps,i,h=>ic ps (i+1) h
 |.rp _::ps,i,h=>ic ps (i+1) h
 |.fn _ _::ps,i,h=>ic ps (i+1) h
 | .cK _::ps,i,h=>ic ps (i+1) ((match h.get (100000+16*i)with
   | some (.box cs)=>bH cs
   | _=>[]).foldl aP.del (h.filter λp=>!(ae3 (100000+16*i) p.1&&ae3 p.1 (100000+16*i+15))))
 |_::ps,i,h=>ic ps (i+1) (h.filter λp=>!(ae3 (100000+16*i) p.1&&ae3 p.1 (100000+16*i+15)))
def U9(t:Ty):aY->Option t.den
 |.one (.pc _ x)=>cL t x
 |_=>U
def RZ(h:aP)(t:Ty):aY->Option (List t.den×aP)
 |.one .gV=>O ([],h)
 | .one (.os j)=>match h.get j with
   | some (.arr false e xs)=>(cL (t:=.slice e) (.slice t) xs).bind λx=>O (x,h.del j)
   | _=>U
 |_=>U
def fY:aP->(rs:List RK)->List aY->Option (bS (RK.dw rs))
 |_,[],[]=>O ()
 |_,[],_::_=>U
 |h,.val t::rs,v::vs=>bif v.fits t then(jY h t v.cells).bind λp=>(fY p.2 rs vs).bind λy=>O (dC p.1 y)else U
 |h,.own t::rs,v::vs=>bif v.fits t&&fg h v.cells then(jY h t v.cells).bind λp=>(fY p.2 rs vs).bind λy=>O (dC p.1 y)else U
 |h,.rp t::rs,v::vs=>(U9 t v).bind λx=>(fY h rs vs).bind λy=>O (dC x y)
 |h,.sh t::rs,v::vs=>(RZ h t v).bind λp=>(fY p.2 rs vs).bind λy=>O (dC (t:=.slice t) p.1 y)
 | h,.ob t::rs,v::vs=>match v with
   | .one (.op j 0)=>match h.get j with
     | some (.box cs)=>bif ae2 cs.length t.size&&fg (h.del j) cs then(jY (h.del j) t cs).bind λp=>(fY p.2 rs vs).bind λy=>O (dC p.1 y)else U
     | _=>U
   | _=>U
 |_,_::_,[]=>U
def xA(E:Env)(s:AS):ResultVar->aY
 |.tmp t=>s.ρ.getD t (.one .und)
 | .cell a t=>match look E.T t,s.ρ.getD a (.one .und)with
   | some u,.one (.op id off)=>match s.h.get id with
     | some (.box cs)=>bif ae3 (off+u.size) cs.length then valOf u.isAgg ((cs.drop off).take u.size)else .one .und
     | _=>.one .und
   | _,_=>.one .und
def yr:List aS->List aS->Bool
 |[],[]=>true
 |c::cs,.os id::a=>(match c with|.os j=>ae2 j id|_=>false)&&yr cs a
 |_::cs,_::a=>yr cs a
 |_,_=>false
def BU:(ps:List PK)->bS (PK.dw ps)->Code->AS->Bool
 |.own t::_,x,c,s=>!(dstsOf c).any (ae2 0)&& (s.ρ.getD 0 (.one .und)).fits t&&yr (s.ρ.getD 0 (.one .und)).cells (ba 100000 t (headD x)).1
 |.dt _::_,_,c,s=>!(dstsOf c).any (ae2 0)&& (match s.ρ.getD 0 (.one .und)with|.one (.op id 0)=>ae2 id 100000|_=>false)
 |.cK _::_,_,c,s=>!(dstsOf c).any (ae2 0)&& (match s.ρ.getD 0 (.one .und)with|.one (.op id 0)=>ae2 id 100000|_=>false)
 |_,_,_,_=>true
noncomputable def uW(E:Env)(fn:Func)(ps:List PK)(rs:List RK)(x:bS (PK.dw ps)):Option (bS (PK.dY ps (RK.dw rs))):=
  match fn.body with
  |none=>U
  |some c=>
   match bY ps x 0 with
   |(vs,h)=>
   lz E c {ρ:=vs++aeU (fn.ntmps-vs.length) (.one .und),h,t:=0} λe s=>
    bif(dV.same e .ret||dV.same e .normal)&&BU ps x c s then
      (fY (ic ps 0 s.h) rs (fn.results.toList.map (xA E s))).bind λy=>lW ps x 0 s.h _ y
    else U
end Go.Ab
namespace Go.Ab
open Go Go.RowKit
abbrev bu:=Nat->Prop
abbrev CC(k:IntKind)(x:Int):Prop:=(Lit.int k x).wf=true
def jZ(w:World)(b o:Nat)(a:List Value):Prop:=∀j v,a[j]? =O v->w.cell? ⟨b,o+j,U⟩=O v
def eY(S:bu)(w:World):(t:Ty)->List Value->t.den->Prop
 |.unit,cs,_=>cs=[]
 |.bool,cs,x=>cs=[.bool x]
 |.int k,cs,x=>cs=[.int k x]/\CC k x
 |.str,cs,x=>cs=[.string ⟨⟨x⟩⟩]/\x.length<=maxLen
 |.raw,cs,x=>cs=[x]/\x.oneCell'=true
 |.slice t,cs,x=>x.length<=maxLen/\((cs=[.slice U 0 0]/\x=[])\/∃(a:Addr) (cap:Nat),cs=[.slice (O a) x.length cap]/\(x.length<=cap/\cap<=maxLen)/\(x=[]\/(a.spot=U/\S a.block/\a.block<w.heap.size))/\∀i e,x[i]? =O e->∃f,f.length=t.size/\jZ w a.block (a.off+i*t.size) f/\eY S w t f e)
 |.pair a b,cs,x=>∃c d,cs=c++d/\eY S w a c x.1/\eY S w b d x.2
theorem eY.len{S:bu}{w:World}:{t:Ty}->{cs:List Value}->{x:t.den}->eY S w t cs x->cs.length=t.size
 |.unit,_,_,h=>by simp[eY]at h;simp[h,Ty.size]
 |.bool,_,_,h=>by simp[eY]at h;simp[h,Ty.size]
 |.int _,_,_,h=>by simp[eY]at h;simp[h.1,Ty.size]
 |.str,_,_,h=>by simp[eY]at h;simp[h.1,Ty.size]
 |.raw,_,_,h=>by simp[eY]at h;simp[h.1,Ty.size]
 |.slice _,_,_,h=>by obtain⟨_,⟨h,_⟩|⟨_,_,h,_⟩⟩:=h<;>simp[h,Ty.size]
 |.pair _ _,_,_,h=>by obtain⟨c,d,rfl,h1,a⟩:=h;simp[Ty.size,eY.len h1,eY.len a]
theorem jZ.mono{w w':World}{b o:Nat}{c:List Value}(h:jZ w b o c)(d:w'.heap[b]? =w.heap[b]?):jZ w' b o c:=λj v e=>(World.cell?_of_block (w:=w) (w':=w') (a:=⟨b,o+j,U⟩) d).trans (h j v e)
theorem eY.mono{S S':bu}{w w':World}(g:∀b,S b->S' b)(hw:∀b,S b->w'.heap[b]? =w.heap[b]?)(j:w.heap.size<=w'.heap.size):{t:Ty}->{cs:List Value}->{x:t.den}->eY S w t cs x->eY S' w' t cs x
 |.unit,_,_,h=>h
 |.bool,_,_,h=>h
 |.int _,_,_,h=>h
 |.str,_,_,h=>h
 |.raw,_,_,h=>h
 |.slice _,_,_,h=>by obtain⟨hl,h|⟨a,cap,h,hc,f,he⟩⟩:=h;{exact⟨hl,.inl h⟩};{refine⟨hl,.inr ⟨a,cap,h,hc,f.imp id λf=>⟨f.1,g _ f.2.1,aD f.2.2 j⟩,λi e hi=> ?_⟩⟩;obtain⟨l,h1,k,m⟩:=he i e hi;(have f:=f.resolve_left λh0=>by rw[h0]at hi;simp at hi);exact⟨l,h1,k.mono (hw _ f.2.1),eY.mono g hw j m⟩}
 |.pair _ _,_,_,h=>by obtain⟨c,d,e,h1,k⟩:=h;exact⟨c,d,e,eY.mono g hw j h1,eY.mono g hw j k⟩
def uQ{α:Type}(w:World)(a:Nat)(El:List Value->α->bu->Prop)(v:Value)(xs:List α)(F:bu):Prop:=((∃o:Option Addr,v=.slice o 0 0)/\xs=[]/\∀b,¬F b)\/∃(g cap:Nat) (cur:Array Value) (e:TypeId) (Fs:Nat->bu),v=.slice (O ⟨g,0,U⟩) xs.length cap/\w.heap[g]? =O (.cells cur e (0,0))/\cur.size=cap*a/\xs.length<=cap/\cap<=maxLen/\(∀i x,xs[i]? =O x->El ((cur.toList.drop (i*a)).take a) x (Fs i))/\(∀i j b,i<xs.length->j<xs.length->Fs i b->Fs j b->i=j)/\(∀i,i<xs.length->¬Fs i g)/\(∀b,F b↔b=g\/∃i,i<xs.length/\Fs i b)
def Own(w:World):(t:Ty)->List Value->t.den->bu->Prop
 |.unit,cs,_,F=>cs=[]/\∀b,¬F b
 |.bool,cs,x,F=>cs=[.bool x]/\∀b,¬F b
 |.int k,cs,x,F=>(cs=[.int k x]/\CC k x)/\∀b,¬F b
 |.str,cs,x,F=>(cs=[.string ⟨⟨x⟩⟩]/\x.length<=maxLen)/\∀b,¬F b
 |.raw,cs,x,F=>(cs=[x]/\x.oneCell'=true)/\∀b,¬F b
 |.slice t,cs,x,F=>∃v,cs=[v]/\uQ w t.size (λe y G=>Own w t e y G) v x F
 |.pair a b,cs,x,F=>∃c d G H,cs=c++d/\Own w a c x.1 G/\Own w b d x.2 H/\(∀q,G q->H q->False)/\∀q,F q↔G q\/H q
def El(S:bu)(w:World)(deep:Bool)(t:Ty)(cs:List Value)(x:t.den)(F:bu):Prop:=
  match deep with
  |true=>Own w t cs x F
  |false=>eY S w t cs x/\∀b,¬F b
def bL(S:bu)(w:World)(deep:Bool)(t:Ty)(v:Value)(xs:List t.den)(F:bu):Prop:=uQ w t.size (λa y G=>El S w deep t a y G) v xs F
theorem uQ.imp{α:Type}{w w':World}{f:Nat}{El a:List Value->α->bu->Prop}{v:Value}{xs:List α}{F:bu}(h:uQ w f El v xs F)(hw:∀b,F b->w'.heap[b]? =w.heap[b]?)(k:∀j x G,(∀b,G b->F b)->El j x G->a j x G):uQ w' f a v xs F:=by rcases h with h|⟨g,cap,cur,e,Fs,h1,l,m,n,o,p,q,r,c⟩;{exact .inl h};{refine .inr ⟨g,cap,cur,e,Fs,h1,(hw g ((c g).2 (.inl rfl))).trans l,m,n,o,λi x hi=> ?_,q,r,c⟩;have d:i<xs.length:=(aeK.1 hi).1;exact k _ _ _ (λb s=>(c b).2 (.inr ⟨i,d,s⟩)) (p i x hi)}
theorem Own.mono{w w':World}:{t:Ty}->{cs:List Value}->{x:t.den}->{F:bu}->(hw:∀b,F b->w'.heap[b]? =w.heap[b]?)->Own w t cs x F->Own w' t cs x F
 |.unit,_,_,_,_,h=>h
 |.bool,_,_,_,_,h=>h
 |.int _,_,_,_,_,h=>h
 |.str,_,_,_,_,h=>h
 |.raw,_,_,_,_,h=>h
 |.slice _,_,_,_,hw,h=>by obtain⟨v,e,h⟩:=h;exact⟨v,e,h.imp hw λj x G hG ho=>Own.mono (λb a=>hw b (hG b a)) ho⟩
 |.pair _ _,_,_,_,hw,h=>by obtain⟨c,d,G,H,e,h1,g,i,f⟩:=h;exact⟨c,d,G,H,e,Own.mono (λb a=>hw b ((f b).2 (.inl a))) h1,Own.mono (λb a=>hw b ((f b).2 (.inr a))) g,i,f⟩
theorem Own.len{w:World}:{t:Ty}->{cs:List Value}->{x:t.den}->{F:bu}->Own w t cs x F->cs.length=t.size
 |.unit,_,_,_,h=>by simp[Own]at h;simp[h.1,Ty.size]
 |.bool,_,_,_,h=>by simp[Own]at h;simp[h.1,Ty.size]
 |.int _,_,_,_,h=>by simp[Own]at h;simp[h.1.1,Ty.size]
 |.str,_,_,_,h=>by simp[Own]at h;simp[h.1.1,Ty.size]
 |.raw,_,_,_,h=>by simp[Own]at h;simp[h.1.1,Ty.size]
 |.slice _,_,_,_,h=>by obtain⟨v,e,_⟩:=h;simp[e,Ty.size]
 |.pair _ _,_,_,_,h=>by obtain⟨c,d,G,H,rfl,h1,a,_⟩:=h;simp[Ty.size,Own.len h1,Own.len a]
theorem lt_of_heap{w:World}{g:Nat}{o:Obj}(h:w.heap[g]? =O o):g<w.heap.size:=(Array.getElem?_eq_some_iff.1 h).1
theorem Own.lt{w:World}:{t:Ty}->{cs:List Value}->{x:t.den}->{F:bu}->Own w t cs x F->∀b,F b->b<w.heap.size
 |.unit,_,_,_,h,b,a=>(h.2 b a).elim
 |.bool,_,_,_,h,b,a=>(h.2 b a).elim
 |.int _,_,_,_,h,b,a=>(h.2 b a).elim
 |.str,_,_,_,h,b,a=>(h.2 b a).elim
 |.raw,_,_,_,h,b,a=>(h.2 b a).elim
 |.slice _,_,xs,_,h,b,a=>by obtain⟨v,_,h⟩:=h;rcases h with ⟨_,_,h⟩|⟨g,cap,cur,e,Fs,h1,f,k,j,o,l,p,q,m⟩;{exact(h b a).elim};{rcases(m b).1 a with rfl|⟨i,hi,n⟩;{exact lt_of_heap f};{exact Own.lt (l i xs[i] (by simp[hi])) b n}}
 |.pair _ _,_,_,_,h,b,a=>by obtain⟨c,d,G,H,e,h1,f,k,j⟩:=h;rcases(j b).1 a with a|a;{exact Own.lt h1 b a};{exact Own.lt f b a}
theorem ey{w:World}{g:Nat}{cur:Array Value}{e:TypeId}{f:Nat×Nat}(h:w.heap[g]? =O (.cells cur e f))(o n:Nat):jZ w g o ((cur.toList.drop o).take n):=by intro j v a;simp only[World.cell?,h,afe,aen,if_false];rw[aeM]at a;split at a;{rw[aeJ]at a;simpa using a};{cases a}
theorem uQ.rep{S:bu}{w:World}{t:Ty}{E:List Value->t.den->bu->Prop}{v:Value}{xs:List t.den}{F:bu}(h:uQ w t.size E v xs F)(l:∀b,F b->S b)(m:∀c x G,(∀b,G b->F b)->E c x G->eY S w t c x)(hlen:∀c x G,E c x G->c.length=t.size):eY S w (.slice t) [v] xs:=by rcases h with ⟨⟨o,rfl⟩,rfl,_⟩|⟨g,cap,cur,e,Fs,rfl,f,r,n,p,j,s,u,k⟩;{cases o with|none=>exact⟨by simp,.inl ⟨rfl,rfl⟩⟩|some a=>exact⟨by simp,.inr ⟨a,0,rfl,⟨aB _,afc _⟩,.inl rfl,λi e h=>by simp at h⟩⟩};{refine⟨by omega,.inr ⟨⟨g,0,U⟩,cap,rfl,⟨n,p⟩,.inr ⟨rfl,l g ((k g).2 (.inl rfl)),lt_of_heap f⟩,λi x hi=> ?_⟩⟩;have d:i<xs.length:=(aeK.1 hi).1;refine⟨_,hlen _ _ _ (j i x hi),?_,m _ _ _ (λb q=>(k b).2 (.inr ⟨i,d,q⟩)) (j i x hi)⟩;rw[afb];exact ey f _ _}
theorem Own.rep{S:bu}{w:World}:{t:Ty}->{cs:List Value}->{x:t.den}->{F:bu}->Own w t cs x F->(a:∀b,F b->S b)->eY S w t cs x
 |.unit,_,_,_,h,_=>h.1
 |.bool,_,_,_,h,_=>h.1
 |.int _,_,_,_,h,_=>h.1
 |.str,_,_,_,h,_=>h.1
 |.raw,_,_,_,h,_=>h.1
 |.slice _,_,_,_,h,a=>by obtain⟨v,rfl,h⟩:=h;exact uQ.rep h a (λj x G hG ho=>Own.rep ho λb f=>a b (hG b f)) (λ_ _ _ ho=>Own.len ho)
 |.pair _ _,_,_,_,h,a=>by obtain⟨c,d,G,H,e,h1,i,k,g⟩:=h;exact⟨c,d,e,Own.rep h1 λb f=>a b ((g b).2 (.inl f)),Own.rep i λb f=>a b ((g b).2 (.inr f))⟩
theorem El.mono{S S':bu}{w w':World}{deep:Bool}{t:Ty}{cs:List Value}{x:t.den}{F:bu}(h:El S w deep t cs x F)(a:∀b,S b->S' b)(hw:∀b,S b->w'.heap[b]? =w.heap[b]?)(c:∀b,F b->w'.heap[b]? =w.heap[b]?)(d:w.heap.size<=w'.heap.size):El S' w' deep t cs x F:=by cases deep with|true=>exact Own.mono c h|false=>exact⟨eY.mono a hw d h.1,h.2⟩
theorem El.len{S:bu}{w:World}{deep:Bool}{t:Ty}{cs:List Value}{x:t.den}{F:bu}(h:El S w deep t cs x F):cs.length=t.size:=by cases deep with|true=>exact Own.len h|false=>exact eY.len h.1
theorem El.rep{S S':bu}{w:World}{deep:Bool}{t:Ty}{cs:List Value}{x:t.den}{F:bu}(h:El S w deep t cs x F)(a:∀b,S b->S' b)(c:∀b,F b->S' b):eY S' w t cs x:=by cases deep with|true=>exact Own.rep h c|false=>exact eY.mono a (λ_ _=>rfl) (aB _) h.1
theorem bL.mono{S S':bu}{w w':World}{deep:Bool}{t:Ty}{v:Value}{xs:List t.den}{F:bu}(h:bL S w deep t v xs F)(c:∀b,S b->S' b)(hw:∀b,S b->w'.heap[b]? =w.heap[b]?)(a:∀b,F b->w'.heap[b]? =w.heap[b]?)(d:w.heap.size<=w'.heap.size):bL S' w' deep t v xs F:=uQ.imp h a λ_ _ _ hG ho=>El.mono ho c hw (λb e=>a b (hG b e)) d
theorem bL.rep{S S':bu}{w:World}{deep:Bool}{t:Ty}{v:Value}{xs:List t.den}{F:bu}(h:bL S w deep t v xs F)(c:∀b,S b->S' b)(a:∀b,F b->S' b):eY S' w (.slice t) [v] xs:=uQ.rep h a (λ_ _ _ hG ho=>El.rep ho c λb d=>a b (hG b d)) (λ_ _ _ ho=>El.len ho)
theorem bL.lt{S:bu}{w:World}{deep:Bool}{t:Ty}{v:Value}{xs:List t.den}{F:bu}(h:bL S w deep t v xs F):∀b,F b->b<w.heap.size:=by intro b a;rcases h with ⟨_,_,h⟩|⟨g,cap,cur,e,Fs,h1,d,k,l,m,f,n,o,j⟩;{exact(h b a).elim};{rcases(j b).1 a with rfl|⟨i,hi,c⟩;{exact lt_of_heap d};{have:=f i xs[i] (by simp[hi]);cases deep with|true=>exact Own.lt this b c|false=>exact(this.2 b c).elim}}
theorem bL.shallow{S S':bu}{w:World}{deep:Bool}{t:Ty}{v:Value}{xs:List t.den}{F:bu}(h:bL S w deep t v xs F)(l:∀b,S b->S' b)(m:∀b,F b->(∀cap n g,v=.slice (O ⟨g,0,U⟩) n cap->b≠g)->S' b):∃F',(∀b,F' b->F b)/\(∀b,F' b->∃cap n g,v=.slice (O ⟨g,0,U⟩) n cap/\b=g)/\(∀b,F b->(∃cap n g,v=.slice (O ⟨g,0,U⟩) n cap/\b=g)->F' b)/\bL S' w false t v xs F':=by
 rcases h with ⟨⟨o,rfl⟩,rfl,h⟩|⟨g,cap,cur,e,Fs,rfl,p,q,r,s,u,B,y,k⟩;{exact⟨λ_=>False,λ_ h=>h.elim,λ_ h=>h.elim,λb a _=>h b a,.inl ⟨⟨o,rfl⟩,rfl,λ_ h=>h⟩⟩}
 ·refine⟨λb=>b=g,λb a=>(k b).2 (.inl a),λb a=>⟨cap,xs.length,g,rfl,a⟩,λb _ ⟨c,z,A,d,a⟩=>by
  simp only[Value.slice.injEq,aw,Addr.mk.injEq]at d;obtain⟨⟨rfl,_⟩,_⟩:=d
  exact a,.inr ⟨g,cap,cur,e,λ_ _=>False,rfl,p,q,r,s,λi x hi=>⟨?_,λ_ h=>h⟩,λ_ _ _ _ _ h=>h.elim,λ_ _ h=>h,λb=>by simp⟩⟩
  have f:i<xs.length:=(aeK.1 hi).1;exact El.rep (u i x hi) l λb a=>m b ((k b).2 (.inr ⟨i,f,a⟩)) λc z A d j=>by simp only[Value.slice.injEq,aw,Addr.mk.injEq]at d;obtain⟨⟨rfl,_⟩,_⟩:=d;subst j;exact y i f a
class Tabs where
  l:List (Nat×(Obj->Prop))
def lU[Tabs](w:World)(B:Nat)(a:bu):Prop:=∀p∈Tabs.l,p.1<B/\¬a p.1/\∃o,w.heap[p.1]? =O o/\p.2 o
structure OC where
  v:Value
  F:bu
  e:Ty
abbrev bF:=Nat->Option OC
abbrev bQ:=Nat->Option bI
def uR(S:bu)(w:World)(t:Ty)(x:t.den)(v:Value):Prop:=∃b o a,v=.pointer (O ⟨b,o,U⟩)/\S b/\b<w.heap.size/\jZ w b o a/\eY S w t a x
def mh(S:bu)(w:World):List yH->List Value->Prop
 |[],vs=>vs=[]
 |.val t x::cs,vs=>∃v r,vs=v::r/\uR S w t x v/\mh S w cs r
theorem uR.mono{S S':bu}{w w':World}(a:∀q,S q->S' q)(hw:∀q,S q->w'.heap[q]? =w.heap[q]?)(c:w.heap.size<=w'.heap.size){t:Ty}{x:t.den}{v:Value}(r:uR S w t x v):uR S' w' t x v:=by obtain⟨b,o,e,h1,d,f,g,h⟩:=r;exact⟨b,o,e,h1,a b d,aD f c,g.mono (hw b d),h.mono a hw c⟩
theorem mh.mono[Tabs]{S S':bu}{w w':World}(a:∀q,S q->S' q)(hw:∀q,S q->w'.heap[q]? =w.heap[q]?)(b:w.heap.size<=w'.heap.size):∀{cs:List yH} {vs:List Value},mh S w cs vs->mh S' w' cs vs
 |[],_,r=>r
 |.val _ _::_,_,r=>by obtain⟨v,q,e,h1,c⟩:=r;exact⟨v,q,e,h1.mono a hw b,mh.mono a hw b c⟩
def tH(w:World)(t:Ty)(k:Nat)(v:Value)(xs:List t.den)(F:bu):Prop:=((∃o:Option Addr,v=.slice o 0 0)/\xs=[]/\∀b,¬F b)\/∃(g cap:Nat) (cur:Array Value) (e:TypeId) (Fs:Nat->bu),v=.slice (O ⟨g,0,U⟩) xs.length cap/\w.heap[g]? =O (.cells cur e (0,0))/\cur.size=cap*t.size/\xs.length<=cap/\cap<=maxLen/\(∀i x,k<=i->xs[i]? =O x->Own w t ((cur.toList.drop (i*t.size)).take t.size) x (Fs i))/\(∀i j b,k<=i->k<=j->i<xs.length->j<xs.length->Fs i b->Fs j b->i=j)/\(∀i,k<=i->i<xs.length->¬Fs i g)/\(∀b,F b↔b=g\/∃i,k<=i/\i<xs.length/\Fs i b)
theorem tH.mono{w w':World}{t:Ty}{k:Nat}{v:Value}{xs:List t.den}{F:bu}(h:tH w t k v xs F)(hw:∀b,F b->w'.heap[b]? =w.heap[b]?):tH w' t k v xs F:=by rcases h with h|⟨g,cap,cur,e,Fs,h1,d,f,j,l,m,n,o,a⟩;{exact .inl h};{refine .inr ⟨g,cap,cur,e,Fs,h1,(hw g ((a g).2 (.inl rfl))).trans d,f,j,l,λi x hk hi=> ?_,n,o,a⟩;have c:i<xs.length:=(aeK.1 hi).1;exact Own.mono (λb p=>hw b ((a b).2 (.inr ⟨i,hk,c,p⟩))) (m i x hk hi)}
theorem tH.Vp{S:bu}{w:World}{t:Ty}{v:Value}{xs:List t.den}{F:bu}(h:bL S w true t v xs F):tH w t 0 v xs F:=by rcases h with h|⟨g,cap,cur,e,Fs,h1,a,c,d,f,k,l,m,n⟩;{exact .inl h};{exact .inr ⟨g,cap,cur,e,Fs,h1,a,c,d,f,λi x _ hi=>k i x hi,λi j b _ _=>l i j b,λi _=>m i,λb=>by simpa using n b⟩}
def zx(w:World)(o:bI)(c:OC):VK->Value->Prop
 |.win lo hi,v=>∃d t xs,o=.arr d t xs/\lo<=hi/\hi<=xs.length/\((∃a:Option Addr,c.v=.slice a 0 0/\v=.slice a 0 0/\xs=[])\/∃g cap a,c.v=.slice (O ⟨g,0,U⟩) xs.length cap/\v=.slice (O a) (hi-lo) (cap-lo)/\(cap≠lo->a=⟨g,lo*t.size,U⟩))
 |.Kv i off e y j,v=>∃xs u z,o=.arr true e xs/\xs[i]? =O y/\(flat e y)[off]? =O (.pv (.slice u) z)/\j<aeP (α:=u.den) z/\∃g n cap g2 f b,c.v=.slice (O ⟨g,0,U⟩) n cap/\w.cell? ⟨g,i*e.size+off,U⟩=O (.slice (O ⟨g2,0,U⟩) f b)/\v=.pointer (O ⟨g2,j*u.size,U⟩)
 |.app i off e y u ys,v=>∃xs z,o=.arr true e xs/\xs[i]? =O y/\(flat e y)[off]? =O (.pv (.slice u) z)/\∃g n cap g2 f b cur te,c.v=.slice (O ⟨g,0,U⟩) n cap/\w.cell? ⟨g,i*e.size+off,U⟩=O (.slice (O ⟨g2,0,U⟩) f b)/\c.F g2/\v=.slice (O ⟨g2,0,U⟩) (f+ys.length) b/\f+ys.length<=b/\w.heap[g2]? =O (.cells cur te (0,0))/\∀k x,ys[k]? =O x->Own w u ((cur.toList.drop ((f+k)*u.size)).take u.size) x (λ_=>False)
 |.all,v=>(∃t k xs,o=.src t k xs)/\v=c.v
 |.el i,v=>∃t k xs,o=.src t k xs/\i<xs.length/\∃g n cap,c.v=.slice (O ⟨g,0,U⟩) n cap/\v=.pointer (O ⟨g,i*t.size,U⟩)
theorem zx.mono{w w':World}{o:bI}{c:OC}(hg:∀d t xs g n cap,o=.arr d t xs->0<xs.length->c.v=.slice (O ⟨g,0,U⟩) n cap->c.F g)(m:∀q,c.F q->w'.heap[q]? =w.heap[q]?):{k:VK}->{v:Value}->zx w o c k v->zx w' o c k v
 |.win _ _,_,r=>r
 |.Kv i off e y j,v,r=>by obtain⟨xs,u,z,h1,b,p,D,g,n,cap,g2,s,a,f,A,l⟩:=r;have hk:=hg _ _ _ g n cap h1 (afd (aeK.1 b).1) f;exact⟨xs,u,z,h1,b,p,D,g,n,cap,g2,s,a,f,(World.cell?_of_block (w:=w) (w':=w') (m g hk)).trans A,l⟩
 |.app i off e y u ys,v,r=>by obtain⟨xs,z,h1,b,p,g,n,cap,g2,s,a,cur,te,f,A,l,E,G,B,C⟩:=r;have hk:=hg _ _ _ g n cap h1 (afd (aeK.1 b).1) f;exact⟨xs,z,h1,b,p,g,n,cap,g2,s,a,cur,te,f,(World.cell?_of_block (w:=w) (w':=w') (m g hk)).trans A,l,E,G,(m g2 l).trans B,λk x hx=>Own.mono (λ_ h=>h.elim) (C k x hx)⟩
 |.all,_,r=>r
 |.el _,_,r=>r
def bI.W9:bI->Bool
 |.box _=>false
 |_=>true
def bg(h:bQ)(S:bu)(w:World)(m:bF):aS->Value->Prop
 |.und,_=>True
 |.gV,v=>∃o:Option Addr,v=.slice o 0 0
 |.pv t x,v=>t.isAgg=false/\eY S w t [v] x
 |.pc t x,v=>∃b o a,v=.pointer (O ⟨b,o,U⟩)/\S b/\b<w.heap.size/\jZ w b o a/\eY S w t a x
 |.os id,v=>(∃d t xs,h id=O (.arr d t xs))/\∃c,m id=O c/\v=c.v
 |.op id off,v=>(∃cs,h id=O (.box cs))/\∃c b,m id=O c/\c.v=.pointer (O ⟨b,0,U⟩)/\v=.pointer (O ⟨b,off,U⟩)
 |.oe id i off,v=>(∃d t xs,h id=O (.arr d t xs)/\i<xs.length)/\∃c g n cap,m id=O c/\c.v=.slice (O ⟨g,0,U⟩) n cap/\v=.pointer (O ⟨g,i*c.e.size+off,U⟩)
 |.sb id i off e y,v=>∃d xs,h id=O (.arr d e xs)/\xs[i]? =O y/\d=true/\(∃u z,(flat e y)[off]? =O (.pv (.slice u) z))/\∃c g n cap,m id=O c/\c.v=.slice (O ⟨g,0,U⟩) n cap/\w.cell? ⟨g,i*e.size+off,U⟩=O v
 |.vw id k,v=>∃o,h id=O o/\o.W9=true/\∃c,m id=O c/\zx w o c k v
 |.cl f caps,v=>∃cs:Array Value,v=.func (.func f) #[] cs/\mh S w caps cs.toList
def bl(h:bQ)(S:bu)(w:World)(m:bF)(cs:List aS)(vs:List Value):Prop:=cs.length=vs.length/\(∀v∈vs,v.oneCell'=true)/\∀(i:Nat) (c:aS) (v:Value),cs[i]? =O c->vs[i]? =O v->bg h S w m c v
def Eo(h:bQ)(S:bu)(w:World)(m:bF)(p:Bool×List aS)(v:Value):Prop:=
  match p with
  |(true,cs)=>∃vs:Array Value,v=.agg vs/\bl h S w m cs vs.toList
  |(false,cs)=>∃c,cs=[c]/\bg h S w m c v
def bU(h:bQ)(S:bu)(w:World)(m:bF):aY->Value->Prop
 |.one c,v=>bg h S w m c v
 |.ag cs,v=>∃vs:Array Value,v=.agg vs/\bl h S w m cs vs.toList
 |.tu l,v=>∃vs:Array Value,v=.tuple vs/\vs.size=l.length/\∀(i:Nat) (p:Bool×List aS) (u:Value),l[i]? =O p->vs[i]? =O u->Eo h S w m p u
def iP(h:bQ)(S:bu)(w:World)(m:bF)(o:bI)(c:OC):Prop:=
  match o with
  |.box cs=>∃b cur e,c.v=.pointer (O ⟨b,0,U⟩)/\w.heap[b]? =O (.cells cur e (0,0))/\bl h S w m cs cur.toList/\∀q,c.F q↔q=b
  |.arr d t xs=>c.e=t/\bL S w d t c.v xs c.F
  |.src t k xs=>c.e=t/\tH w t k c.v xs c.F
structure Mem (h:bQ) (S:bu) (w:World) (m:bF) (B:Nat) (M0:bu):Prop where
  obj:∀id o,h id=O o->∃c,m id=O c/\iP h S w m o c
  dis:∀i j c d,i≠j->h i≠U->h j≠U->m i=O c->m j=O d->∀q,c.F q->d.F q->False
  apart:∀i c,h i≠U->m i=O c->∀q,c.F q->¬S q/\q<w.heap.size/\(B<=q\/M0 q)
  lt:∀q,S q->q<w.heap.size
structure Sb [Tabs] (w0 w:World) (B:Nat) (M0:bu):Prop where
  os:w.os=w0.os
  tape:w.tape=w0.tape
  output:w.output=w0.output
  size:w0.heap.size<=w.heap.size
  block:∀q,q<B->¬M0 q->w.heap[q]? =w0.heap[q]?
  fz:∀a:Addr,a.block<w0.heap.size->w.frozen? a=w0.frozen? a
  tab:lU w0 B M0
structure Rel [Tabs] (w0:World) (B:Nat) (M0:bu) (S:bu) (m:bF) (s:AS) (a:Act) (w:World):Prop where
  mem:Mem s.h.get S w m B M0
  fF:Sb w0 w B M0
  tmps:∀i,bU s.h.get S w m (s.ρ.getD i (.one .und)) (a.tmps.getD i undef)
  size:a.tmps.size=s.ρ.length
  defers:a.defers=[]
structure Grow (w w':World):Prop where
  os:w'.os=w.os
  tape:w'.tape=w.tape
  output:w'.output=w.output
  size:w.heap.size<=w'.heap.size
  block:∀q,q<w.heap.size->w'.heap[q]? =w.heap[q]?
  fz:∀a:Addr,a.block<w.heap.size->w'.frozen? a=w.frozen? a
theorem Grow.refl(w:World):Grow w w:=⟨rfl,rfl,rfl,aB _,λ_ _=>rfl,λ_ _=>rfl⟩
theorem Grow.trans{a b c:World}(h:Grow a b)(k:Grow b c):Grow a c:=⟨k.os.trans h.os,k.tape.trans h.tape,k.output.trans h.output,aC h.size k.size,λq hq=>(k.block q (aD hq h.size)).trans (h.block q hq),λa ha=>(k.fz a (aD ha h.size)).trans (h.fz a ha)⟩
theorem Grow.alloc(w:World)(c:Array Value)(t:TypeId):Grow w (w.alloc (.cells c t)):=⟨rfl,rfl,rfl,by simp,λq hq=>by simp only[World.alloc,Array.getElem?_push];rw[aM (by omega)],λa _=>frozen?_alloc_cells w c t a⟩
theorem Grow.drew(w:World):Grow w w.drew:=⟨rfl,rfl,rfl,aB _,λ_ _=>rfl,λ_ _=>rfl⟩
theorem Sb.tabs[Tabs]{w0 w:World}{B:Nat}{M0:bu}(h:Sb w0 w B M0)(c:B<=w.heap.size){a:bu}(d:∀q,a q->B<=q\/M0 q):lU w w.heap.size a:=λp hp=>by
  obtain⟨h1,b,e⟩:=h.tab p hp;exact⟨aD h1 c,λhm=>(d _ hm).elim (λh=>by omega) b,e.imp λo ho=>⟨(h.block _ h1 b).trans ho.1,ho.2⟩⟩
theorem Sb.grow[Tabs]{w0 w w':World}{B:Nat}{M0:bu}(h:Sb w0 w B M0)(b:B<=w.heap.size)(g:Grow w w'):Sb w0 w' B M0:=⟨g.os.trans h.os,g.tape.trans h.tape,g.output.trans h.output,aC h.size g.size,λq hq hm=>(g.block q (aD hq b)).trans (h.block q hq hm),λa ha=>(g.fz a (aD ha h.size)).trans (h.fz a ha),h.tab⟩
structure dA (h h':bQ) (S S':bu) (w w':World) (m m':bF):Prop where
  hk:∀id o,h id=O o->h' id=O o
  map:∀id,h id≠U->m' id=m id
  sub:∀q,S q->S' q
  size:w.heap.size<=w'.heap.size
  stay:∀q,S q->w'.heap[q]? =w.heap[q]?
  own:∀id c,h id≠U->m id=O c->∀q,c.F q->w'.heap[q]? =w.heap[q]?
theorem bn{h:bQ}{id:Nat}{o:bI}(e:h id=O o):h id≠U:=by rw[e];exact λh=>nomatch h
theorem sS{S:bu}{w:World}{d:Bool}{t:Ty}{v:Value}{xs:List t.den}{F:bu}{g n cap:Nat}(h:bL S w d t v xs F)(a:0<xs.length)(c:v=.slice (O ⟨g,0,U⟩) n cap):F g:=by subst c;rcases h with ⟨_,rfl,_⟩|⟨i,b,cur,e,Fs,h1,j,k,l,m,o,p,q,f⟩;{simp at a};{simp only[Value.slice.injEq,aw,Addr.mk.injEq]at h1;obtain⟨⟨rfl,_⟩,_⟩:=h1;exact(f g).2 (.inl rfl)}
theorem tZ[Tabs]{h:bQ}{S:bu}{w w':World}{m:bF}{B:Nat}{M0:bu}(M:Mem h S w m B M0){id:Nat}{o:bI}{c:OC}(ho:h id=O o)(hc:m id=O c)(b:∀q,c.F q->w'.heap[q]? =w.heap[q]?){k:VK}{v:Value}(r:zx w o c k v):zx w' o c k v:=by refine r.mono (λd t xs g n cap e hx f=> ?_) b;subst e;obtain⟨c',a,i⟩:=M.obj _ _ ho;obtain rfl:c'=c:=aA (a.symm.trans hc);exact sS i.2 hx f
theorem bg.wider[Tabs]{h h':bQ}{S S':bu}{w w':World}{m m':bF}{B:Nat}{M0:bu}(W:dA h h' S S' w w' m m')(M:Mem h S w m B M0):{c:aS}->{v:Value}->bg h S w m c v->bg h' S' w' m' c v
 |.und,_,_=>trivial
 |.gV,_,r=>r
 |.pv _ _,_,r=>⟨r.1,r.2.mono W.sub W.stay W.size⟩
 |.pc _ _,_,r=>by obtain⟨b,o,l,h1,a,f,p,q⟩:=r;exact⟨b,o,l,h1,W.sub b a,aD f W.size,p.mono (W.stay b a),q.mono W.sub W.stay W.size⟩
 |.os _,_,r=>by obtain⟨⟨d,t,xs,e⟩,c,h1,a⟩:=r;exact⟨⟨d,t,xs,W.hk _ _ e⟩,c,(W.map _ (bn e)).trans h1,a⟩
 |.op _ _,_,r=>by obtain⟨⟨cs,e⟩,c,b,h1,a,f⟩:=r;exact⟨⟨cs,W.hk _ _ e⟩,c,b,(W.map _ (bn e)).trans h1,a,f⟩
 |.oe _ _ _,_,r=>by obtain⟨⟨d,t,xs,e,hi⟩,c,g,n,cap,h1,a,f⟩:=r;exact⟨⟨d,t,xs,W.hk _ _ e,hi⟩,c,g,n,cap,(W.map _ (bn e)).trans h1,a,f⟩
 |.sb _ _ _ _ _,_,r=>by obtain⟨d,xs,e,hi,i,hu,c,g,n,cap,h1,a,f⟩:=r;refine⟨d,xs,W.hk _ _ e,hi,i,hu,c,g,n,cap,(W.map _ (bn e)).trans h1,a,?_⟩;obtain⟨c',j,ho⟩:=M.obj _ _ e;obtain rfl:c'=c:=aA (j.symm.trans h1);have s:=sS ho.2 (afd (aeK.1 hi).1) a;exact(World.cell?_of_block (w:=w) (w':=w') (W.own _ _ (bn e) h1 _ s)).trans f
 |.vw _ _,_,r=>by obtain⟨o,e,i,c,h1,a⟩:=r;exact⟨o,W.hk _ _ e,i,c,(W.map _ (bn e)).trans h1,tZ M e h1 (W.own _ _ (bn e) h1) a⟩
 |.cl _ _,_,r=>by obtain⟨cs,e,k⟩:=r;exact⟨cs,e,k.mono W.sub W.stay W.size⟩
theorem bl.imp{h h':bQ}{S S':bu}{w w':World}{m m':bF}{cs:List aS}{vs:List Value}(r:bl h S w m cs vs)(f:∀c v,bg h S w m c v->bg h' S' w' m' c v):bl h' S' w' m' cs vs:=⟨r.1,r.2.1,λi c v hc a=>f c v (r.2.2 i c v hc a)⟩
theorem Eo.imp[Tabs]{h h':bQ}{S S':bu}{w w':World}{m m':bF}{p:Bool×List aS}{v:Value}(r:Eo h S w m p v)(f:∀c v,bg h S w m c v->bg h' S' w' m' c v):Eo h' S' w' m' p v:=by obtain⟨b,cs⟩:=p;cases b with|true=>obtain⟨vs,e,r⟩:=r;exact⟨vs,e,r.imp f⟩|false=>obtain⟨c,e,r⟩:=r;exact⟨c,e,f _ _ r⟩
theorem bU.imp[Tabs]{h h':bQ}{S S':bu}{w w':World}{m m':bF}{a:aY}{v:Value}(r:bU h S w m a v)(f:∀c v,bg h S w m c v->bg h' S' w' m' c v):bU h' S' w' m' a v:=by cases a with|one c=>exact f _ _ r|ag cs=>obtain⟨vs,e,r⟩:=r;exact⟨vs,e,r.imp f⟩|tu l=>obtain⟨vs,e,n,r⟩:=r;exact⟨vs,e,n,λi p u hp hu=>(r i p u hp hu).imp f⟩
theorem bU.wider[Tabs]{h h':bQ}{S S':bu}{w w':World}{m m':bF}{B:Nat}{M0:bu}(W:dA h h' S S' w w' m m')(M:Mem h S w m B M0){a:aY}{v:Value}(r:bU h S w m a v):bU h' S' w' m' a v:=r.imp λ_ _=>bg.wider W M
theorem iP.wider[Tabs]{h h':bQ}{S S':bu}{w w':World}{m m':bF}{B:Nat}{M0:bu}(W:dA h h' S S' w w' m m')(M:Mem h S w m B M0){o:bI}{c:OC}(a:∀q,c.F q->w'.heap[q]? =w.heap[q]?)(r:iP h S w m o c):iP h' S' w' m' o c:=by cases o with|box cs=>obtain⟨b,cur,e,h1,g,i,f⟩:=r;exact⟨b,cur,e,h1,(a b ((f b).2 rfl)).trans g,i.imp λ_ _=>bg.wider W M,f⟩|arr d t xs=>exact⟨r.1,r.2.mono W.sub W.stay a W.size⟩|src t k xs=>exact⟨r.1,r.2.mono a⟩
theorem Mem.grow[Tabs]{h:bQ}{S S':bu}{w w':World}{m m':bF}{B:Nat}{M0:bu}(M:Mem h S w m B M0)(g:Grow w w')(G:B<=w.heap.size)(os:aP)(n:∀id,aP.get os id≠U->h id=U)(hm:∀id,aP.get os id=U->m' id=m id)(E:∀q,S q->S' q)(s:∀q,S' q->S q\/(w.heap.size<=q/\q<w'.heap.size))(a:∀id o,aP.get os id=O o->∃c,m' id=O c/\iP (λi=>(aP.get os i).or (h i)) S' w' m' o c/\(∀q,c.F q->w.heap.size<=q/\q<w'.heap.size/\¬S' q))(t:∀i j c d,i≠j->aP.get os i≠U->aP.get os j≠U->m' i=O c->m' j=O d->∀q,c.F q->d.F q->False):Mem (λi=>(aP.get os i).or (h i)) S' w' m' B M0/\dA h (λi=>(aP.get os i).or (h i)) S S' w w' m m':=by have W:dA h (λi=>(aP.get os i).or (h i)) S S' w w' m m':=⟨λid o e=>by(have:aP.get os id=U:=by cases b:aP.get os id with|none=>rfl|some x=>have:=n id (by rw[b];simp);rw[this]at e;cases e);simp[this,e],λid e=>hm id (by cases b:aP.get os id with|none=>rfl|some x=>exact absurd (n id (by rw[b];simp)) e),E,g.size,λq hq=>g.block q (M.lt q hq),λid c e hc q hq=>g.block q (M.apart id c e hc q hq).2.1⟩;(have old:∀id,(aP.get os id).or (h id)≠U->aP.get os id=U->h id≠U:=λid e b=>by simpa[b]using e);refine⟨⟨λid o e=> ?_,λi j c d u hi C hc z q hq f=> ?_,λi c hi hc q hq=> ?_,λq hq=> ?_⟩,W⟩;{cases b:aP.get os id with|some x=>(have:x=o:=by simpa[b]using e);subst this;obtain⟨c,h1,A,_⟩:=a id x b;exact⟨c,h1,A⟩|none=>(have D:h id=O o:=by simpa[b]using e);obtain⟨c,h1,A⟩:=M.obj id o D;exact⟨c,(hm id b).trans h1,A.wider W M λq hq=>W.own id c (bn D) h1 q hq⟩};{cases k:aP.get os i with|some x=>obtain⟨c',h1,_,v⟩:=a i x k;obtain rfl:c'=c:=aA (h1.symm.trans hc);(cases p:aP.get os j with|some y=>exact t i j c' d u (by rw[k];simp) (by rw[p];simp) hc z q hq f|none=>have r:m j=O d:=(hm j p).symm.trans z;have:=(M.apart j d (old j C p) r q f).2.1;have:=(v q hq).1;omega)|none=>have l:m i=O c:=(hm i k).symm.trans hc;cases p:aP.get os j with|some y=>obtain⟨d',h1,_,v⟩:=a j y p;obtain rfl:d'=d:=aA (h1.symm.trans z);have:=(M.apart i c (old i hi k) l q hq).2.1;have:=(v q f).1;omega|none=>have r:m j=O d:=(hm j p).symm.trans z;exact M.dis i j c d u (old i hi k) (old j C p) l r q hq f};{cases k:aP.get os i with|some x=>obtain⟨c',h1,_,v⟩:=a i x k;obtain rfl:c'=c:=aA (h1.symm.trans hc);have:=v q hq;exact⟨this.2.2,this.2.1,.inl (by omega)⟩|none=>have l:m i=O c:=(hm i k).symm.trans hc;have:=M.apart i c (old i hi k) l q hq;refine⟨λhs=> ?_,aD this.2.1 g.size,this.2.2⟩;rcases s q hs with hs|hs;{exact this.1 hs};{omega}};{rcases s q hq with hs|hs;{exact aD (M.lt q hs) g.size};{exact hs.2}}
def LG:Ty->List Value->Option (List Value)
 |.unit,l=>O l
 |.bool,.bool false::r=>O r
 |.int k,.int c n::r=>bif ae (k=c)&&ae (n=0)then O r else U
 |.str,.string s::r=>bif s.data.toList.isEmpty then O r else U
 |.slice _,.slice U 0 0::r=>O r
 |.raw,.slice U 0 0::r=>O r
 |.pair a b,l=>(LG a l).bind λr=>LG b r
 |_,_=>U
def uz:TypeDesc->Bool
 |.struct _|.array _ _=>true
 |_=>false
def Xu(z:Option Value)(u:Ty):Bool:=
  match z with
  |some v=>match LG u v.cells.toList with
   |some []=>true
   |_=>false
  |none=>false
def qc(P:Program):List Field->Ty->Nat->Bool
 |[],.unit,_=>true
 | f::r,.pair a b,off=>
   ae2 f.offset off&&
   (match P.info? f.type with|some i=>ae2 i.size a.size&&ae4 0 a.size|none=>false)&&
   (match P.underlying f.type with|some d=>uz d==a.isAgg|none=>false)&&
   qc P r b (off+a.size)
 |_,_,_=>false
def Qd(P:Program)(te:TypeId):Ty->Bool
 | .int k=>match P.underlying te with
   | some (.int a)=>ae (k=a)
   | _=>false
 |_=>true
def oB(P:Program):TypeDesc->Ty->Bool
 |.bool,.bool=>true
 |.int k,.int a=>ae (k=a)
 |.string,.str=>true
 |.slice _,.raw=>true
 | .slice te,.slice e=>match P.info? te with
   | some i=>ae2 i.size e.size&&ae4 0 e.size&&Xu i.zero e&&ae3 i.bytes 32768&&Qd P te e
   | none=>false
 |.struct fs,u=>u.isAgg&& (!oG u&&qc P fs.toList u 0)
 |.array n te,u=>u.isAgg&& (oG u&& (match qW u,P.info? te with|some p,O i=>ae2 p.1 n&& (ae2 i.size p.2.size&& (match P.underlying te with|some d=>ae (uz d=p.2.isAgg)|none=>false))|_,_=>false))
 |_,_=>false
def dB(P:Program)(t:TypeId)(u:Ty):Bool:=
  (match P.info? t with|some i=>ae2 i.size u.size&&Xu i.zero u|none=>false)&&
  (match P.underlying t with|some d=>oB P d u|none=>false)
theorem fp{S:bu}{w:World}{h:bQ}{m:bF}:∀(u:Ty) (l r:List Value),LG u l=O r->
    ∃p,l=p++r/\bl h S w m (fN u) p/\eY S w u p u.zero/\Own w u p u.zero (λ_=>False)
  |.unit,l,r,e=>by
   simp only[LG,aw]at e;subst e;exact⟨[],rfl,⟨rfl,by simp,by simp[fN]⟩,rfl,rfl,λ_ h=>h⟩
  |.bool,l,r,e=>by
   match l,e with
   |.bool false::g,e=>
    simp only[LG,aw]at e;subst e;refine⟨[.bool false],rfl,⟨rfl,by simp[Value.oneCell'],?_⟩,rfl,rfl,λ_ h=>h⟩;intro i c v hc d
    match i,hc,d with
    |0,hc,d=>
     simp[fN]at hc d;subst hc;subst d;exact⟨rfl,rfl⟩
  |.int k,l,r,e=>by
   match l,e with
   |.int j n::g,e=>
    simp only[LG]at e
    by_cases hk:k=j/\n=0
    ·obtain⟨rfl,rfl⟩:=hk
     simp only[decide_true,Bool.and_self,ai,aw]at e;subst e;have f:CC k 0:=by cases k<;>decide
     refine⟨[.int k 0],rfl,⟨rfl,by simp[Value.oneCell'],?_⟩,⟨rfl,f⟩,⟨rfl,f⟩,λ_ h=>h⟩;intro i c v hc d
     match i,hc,d with
     |0,hc,d=>
      simp[fN]at hc d;subst hc;subst d;exact⟨rfl,rfl,f⟩
    ·have:(ae (k=j)&&ae (n=0))=false:=by simpa using hk
     rw[this]at e;cases e
  |.str,l,r,e=>by
   match l,e with
   |.string s::g,e=>
    simp only[LG]at e
    cases hs:s.data.toList.isEmpty with
    |false=>rw[hs]at e;cases e
    |true=>
     rw[hs]at e;simp only[ai,aw]at e;subst e
     have:s=⟨⟨[]⟩⟩:=by
       obtain⟨⟨l⟩⟩:=s
       cases l with
       |nil=>rfl
       |cons a b=>cases hs
     subst this;refine⟨[.string ⟨⟨[]⟩⟩],rfl,⟨rfl,by simp[Value.oneCell'],?_⟩,⟨rfl,afc _⟩,⟨rfl,afc _⟩,λ_ h=>h⟩;intro i c v hc d
     match i,hc,d with
     |0,hc,d=>
      simp[fN]at hc d;subst hc;subst d;exact⟨rfl,rfl,afc _⟩
  |.raw,l,r,e=>by
   match l,e with
   |.slice U 0 0::g,e=>
    simp only[LG,aw]at e;subst e;refine⟨[.slice U 0 0],rfl,⟨rfl,by simp[Value.oneCell'],?_⟩,⟨rfl,rfl⟩,⟨rfl,rfl⟩,λ_ h=>h⟩;intro i c v hc d
    match i,hc,d with
    |0,hc,d=>
     simp[fN]at hc d;subst hc;subst d;exact⟨rfl,rfl,rfl⟩
  |.slice t,l,r,e=>by
   match l,e with
   |.slice U 0 0::g,e=>
    simp only[LG,aw]at e;subst e;refine⟨[.slice U 0 0],rfl,⟨rfl,by simp[Value.oneCell'],?_⟩,⟨afc _,.inl ⟨rfl,rfl⟩⟩,⟨_,rfl,.inl ⟨⟨_,rfl⟩,rfl,λ_ h=>h⟩⟩⟩;intro i c v hc d
    match i,hc,d with
    |0,hc,d=>
     simp[fN]at hc d;subst hc;subst d;exact⟨_,rfl⟩
  |.pair a b,l,r,e=>by
   simp only[LG,ay]at e;obtain⟨r1,x,y⟩:=e;obtain⟨p,rfl,h1,z,A⟩:=fp (S:=S) (w:=w) (h:=h) (m:=m) a l r1 x;obtain⟨q,rfl,k1,k2,k3⟩:=fp (S:=S) (w:=w) (h:=h) (m:=m) b r1 r y;refine⟨p++q,by simp,?_,⟨p,q,rfl,z,k2⟩,⟨p,q,_,_,rfl,A,k3,λ_ h=>h.elim,λ_=>by simp⟩⟩;exact CellsRel_append h1 k1
  where
  CellsRel_append {h:bQ} {S:bu} {w:World} {m:bF} {cs o:List aS} {vs us:List Value} (a:bl h S w m cs vs) (b:bl h S w m o us):bl h S w m (cs++o) (vs++us):=by
    refine⟨by simp[a.1,b.1],λv d=> ?_,λi c v hc d=> ?_⟩
    ·rcases List.mem_append.1 d with d|d
     ·exact a.2.1 v d
     ·exact b.2.1 v d
    ·have hl:=a.1
     by_cases hi:i<cs.length
     ·rw[aeH hi]at hc
      rw[aeH (by omega)]at d;exact a.2.2 i c v hc d
     ·rw[aI (by omega)]at hc
      rw[aI (by omega),<-hl]at d;exact b.2.2 _ c v hc d
section
variable {h:bQ} {S:bu} {w:World} {m:bF}
theorem bl.append{cs c:List aS}{vs us:List Value}(a:bl h S w m cs vs)(b:bl h S w m c us):bl h S w m (cs++c) (vs++us):=fp.CellsRel_append a b
theorem bl.nil:bl h S w m [] []:=⟨rfl,by simp,by simp⟩
theorem bl.one{c:aS}{v:Value}(r:bg h S w m c v)(h1:v.oneCell'=true):bl h S w m [c] [v]:=
  ⟨rfl,by simpa using h1,λi c' v' hc a=>by
    match i,hc,a with
    |0,hc,a=>simp at hc a;subst hc;subst a;exact r⟩
theorem bl.take{cs:List aS}{vs:List Value}(r:bl h S w m cs vs)(n:Nat):bl h S w m (cs.take n) (vs.take n):=
  ⟨by simp[r.1],λv a=>r.2.1 v (List.mem_of_mem_take a),λi c v hc a=>by
    rw[aeM]at hc a;split at hc
    ·rw[aN (by assumption)]at a;exact r.2.2 i c v hc a
    ·cases hc⟩
theorem bl.drop{cs:List aS}{vs:List Value}(r:bl h S w m cs vs)(n:Nat):bl h S w m (cs.drop n) (vs.drop n):=
  ⟨by simp[r.1],λv a=>r.2.1 v (List.mem_of_mem_drop a),λi c v hc a=>by
    rw[aeJ]at hc a;exact r.2.2 _ c v hc a⟩
theorem bl.gU[Tabs]{c:aS}{cs:List aS}{vs:List Value}(r:bl h S w m (c::cs) vs):∃v us,vs=v::us/\bg h S w m c v/\v.oneCell'=true/\bl h S w m cs us:=by match vs,r with|v::us,r=>exact⟨v,us,rfl,r.2.2 0 c v rfl rfl,r.2.1 v (by simp),by simpa using r.drop 1⟩|[],r=>exact absurd r.1 (by simp)
theorem gB[Tabs]:∀{t:Ty} {f:List Value} {x:t.den},eY S w t f x->bl h S w m (flat t x) f
 |.unit,f,x,r=>by simp only[eY]at r;subst r;exact bl.nil
 |.bool,f,x,r=>by have e:=r;simp only[eY]at r;subst r;exact bl.one ⟨rfl,e⟩ rfl
 |.int k,f,x,r=>by have e:=r;obtain⟨rfl,_⟩:=r;exact bl.one ⟨rfl,e⟩ rfl
 |.str,f,x,r=>by have e:=r;obtain⟨rfl,_⟩:=r;exact bl.one ⟨rfl,e⟩ rfl
 |.raw,f,x,r=>by have e:=r;obtain⟨rfl,h1⟩:=r;exact bl.one ⟨rfl,e⟩ h1
 |.slice t,f,x,r=>by have e:=r;obtain⟨_,⟨rfl,_⟩|⟨_,_,rfl,_⟩⟩:=r;{exact bl.one ⟨rfl,e⟩ rfl};{exact bl.one ⟨rfl,e⟩ rfl}
 |.pair a b,f,x,r=>by obtain⟨c,d,rfl,h1,g⟩:=r;exact(gB h1).append (gB g)
theorem eY.tV[Tabs]{t:Ty}{a:List Value}{x:t.den}(r:eY S w t a x):∀v∈a,v.oneCell'=true:=(gB (h:=λ_=>U) (m:=λ_=>U) r).2.1
theorem cq:∀(t:Ty) (x:t.den),(flat t x).length=t.size
 |.unit,_=>rfl
 |.bool,_=>rfl
 |.int _,_=>rfl
 |.str,_=>rfl
 |.raw,_=>rfl
 |.slice _,_=>rfl
 |.pair a b,x=>by simp[flat,Ty.size,cq a,cq b]
theorem fq{t:Ty}(h:t.isAgg=false):t.size=1:=by cases t<;>simp_all [Ty.isAgg,Ty.size]
theorem bw{t a:Ty}{x:t.den}{y:a.den}(e:cL a x=O y):∃h:t=a,h▸x=y:=by unfold cL at e;split at e;{rename_i h;exact⟨h,aA e⟩};{cases e}
def qu(m:bF)(h:bQ)(S:bu)(ids:List Nat):bu:=λq=>S q\/∃id∈ids,h id≠U/\∃c,m id=O c/\c.F q
theorem ua(a b:List aS):dI (a++b)=dI a++dI b:=by induction a with|nil=>rfl|cons c a d=>cases c<;>simp[dI,d]
theorem CP[Tabs](a:List aS)(n:Nat):∀id∈dI (a.take n),id∈dI a:=by intro id hid;have:=ua (a.take n) (a.drop n);rw[aeV]at this;rw[this];simp[hid]
theorem EL[Tabs](a:List aS)(n:Nat):∀id∈dI (a.drop n),id∈dI a:=by intro id hid;have:=ua (a.take n) (a.drop n);rw[aeV]at this;rw[this];simp[hid]
variable {B:Nat} {M0:bu}
theorem eP[Tabs]{get:bQ}(M:Mem h S w m B M0)(hg:∀id o,get id=O o->h id≠U->h id=O o){t:Ty}(ht:t.isAgg=false){c:aS}{v:Value}{x:t.den}(e:cC get t c=O x)(r:bg h S w m c v):eY (qu m h S (dI [c])) w t [v] x:=by have b:∀q,S q->qu m h S (dI [c]) q:=λq hq=>.inl hq;cases c with|pv u y=>obtain⟨rfl,rfl⟩:=bw (e:cL t y=O x);exact r.2.mono b (λ_ _=>rfl) (aB _)|gV=>obtain⟨o,rfl⟩:∃o:Option Addr,v=.slice o 0 0:=r;(cases t with|slice J=>simp only[cC,aw]at e;subst e;(cases o with|none=>exact⟨afc _,.inl ⟨rfl,rfl⟩⟩|some a=>exact⟨afc _,.inr ⟨a,0,rfl,⟨aB _,afc _⟩,.inl rfl,λi e h=>by simp at h⟩⟩)|_=>cases e)|os id=>obtain⟨⟨d,J,xs,ho⟩,c,hc,rfl⟩:=r;simp only[cC]at e;(cases f:get id with|none=>simp[f]at e|some o=>have:=hg id o f (bn ho);rw[ho]at this;cases this;simp only[f]at e;obtain⟨rfl,rfl⟩:=bw e;obtain⟨c',j,he,C⟩:=M.obj id _ ho;obtain rfl:c'=c:=aA (j.symm.trans hc);exact bL.rep C b λ_ hq=>.inr ⟨id,by simp[dI],bn ho,c',hc,hq⟩)|sb id i off k y=>obtain⟨d,xs,ho,hi,rfl,⟨u,z,hf⟩,c,g,n,cap,hc,D,l⟩:=r;simp only[cC,hf]at e;obtain⟨rfl,rfl⟩:=bw e;obtain⟨c',j,he,C⟩:=M.obj id _ ho;obtain rfl:c'=c:=aA (j.symm.trans hc);rcases C with ⟨_,rfl,_⟩|⟨Q,H,cur,te,Fs,h1,K,L,R,T,N,V,W,P⟩;{simp at hi};{rw[h1]at D;simp only[Value.slice.injEq,aw,Addr.mk.injEq]at D;obtain⟨⟨rfl,_⟩,_⟩:=D;have E:i<xs.length:=(aeK.1 hi).1;have p:=N i y hi;have s:eY (qu m h S (dI [.sb id i off k y])) w k _ y:=Own.rep p λq hq=>.inr ⟨id,by simp[dI],bn ho,c',hc,(P q).2 (.inr ⟨i,E,hq⟩)⟩;have F:=gB (h:=h) (m:=m) s;(have A:off<k.size:=by have:=(aeK.1 hf).1;rw[cq]at this;exact this);(have I:i*k.size+off<cur.size:=by(have:(i+1)*k.size<=cur.size:=by rw[L];exact ae8 _ (by omega));rw[ae0,ae9]at this;omega);(have G:((cur.toList.drop (i*k.size)).take k.size)[off]? =O v:=by rw[aeM,aN A,aeJ];have:=l;simp only[World.cell?,K,afe,aen,if_false]at this;simpa using this);exact(F.2.2 off _ v hf G).2}|_=>cases e
theorem eY.plus{t:Ty}{a:List Value}{x:t.den}{l l':List Nat}(r:eY (qu m h S l) w t a x)(hl:∀id∈l,id∈l'):eY (qu m h S l') w t a x:=r.mono (λ_ hq=>hq.imp id λ⟨i,hi,rest⟩=>⟨i,hl i hi,rest⟩) (λ_ _=>rfl) (aB _)
theorem gZ[Tabs]{get:bQ}(M:Mem h S w m B M0)(hg:∀id o,get id=O o->h id≠U->h id=O o):∀{t:Ty} {cs:List aS} {vs:List Value} {x:t.den},bP get t cs=O x->bl h S w m cs vs->cs.length=t.size->eY (qu m h S (dI cs)) w t vs x
 |.unit,cs,vs,x,_,r,hl=>by have:vs=[]:=aH (by rw[<-r.1,hl];rfl);exact this
 |.pair a b,cs,vs,x,e,r,hl=>by simp only[bP,ay,aw]at e;obtain⟨y,f,z,g,rfl⟩:=e;have i:cs.length=a.size+b.size:=hl;have h1:=gZ M hg f (r.take a.size) (by simp;omega);have j:=gZ M hg g (r.drop a.size) (by simp;omega);exact⟨vs.take a.size,vs.drop a.size,by simp,h1.plus (CP _ _),j.plus (EL _ _)⟩
 |.bool,[c],vs,x,e,r,_=>by obtain⟨v,us,rfl,d,_,hu⟩:=r.gU;have:us=[]:=aH hu.1.symm;subst this;exact eP M hg rfl e d
 |.int k,[c],vs,x,e,r,_=>by obtain⟨v,us,rfl,d,_,hu⟩:=r.gU;have:us=[]:=aH hu.1.symm;subst this;exact eP M hg rfl e d
 |.str,[c],vs,x,e,r,_=>by obtain⟨v,us,rfl,d,_,hu⟩:=r.gU;have:us=[]:=aH hu.1.symm;subst this;exact eP M hg rfl e d
 |.raw,[c],vs,x,e,r,_=>by obtain⟨v,us,rfl,d,_,hu⟩:=r.gU;have:us=[]:=aH hu.1.symm;subst this;exact eP M hg rfl e d
 |.slice t,[c],vs,x,e,r,_=>by obtain⟨v,us,rfl,d,_,hu⟩:=r.gU;have:us=[]:=aH hu.1.symm;subst this;exact eP M hg rfl e d
theorem AE{P:Program}{t:TypeId}{u:Ty}(e:dB P t u=true):∃i z,P.info? t=O i/\i.size=u.size/\i.zero=O z/\LG u z.cells.toList=O []:=by unfold dB at e;rw[ak]at e;cases hi:P.info? t with|none=>rw[hi]at e;cases e.1|some i=>rw[hi]at e;have a:=e.1;simp only[ak]at a;unfold Xu at a;cases b:i.zero with|none=>rw[b]at a;cases a.2|some z=>rw[b]at a;refine⟨i,z,rfl,ax a.1,b,?_⟩;have:=a.2;simp only at this;split at this;{assumption};{cases this}
theorem ep{l:List (Nat×Ty)}{i:Nat}{u:Ty}(h:BQ l i=O u):look l i=O u/\oG u=false:=by unfold BQ at h;cases hl:look l i with|none=>rw[hl]at h;cases h|some v=>rw[hl]at h;simp only at h;cases ha:oG v with|true=>rw[ha]at h;cases h|false=>rw[ha]at h;cases h;exact⟨rfl,ha⟩
theorem fG{P:Program}{t:TypeId}{u:Ty}(e:dB P t u=true):∃d,P.underlying t=O d/\oB P d u=true:=by unfold dB at e;rw[ak]at e;cases a:P.underlying t with|none=>rw[a]at e;cases e.2|some d=>rw[a]at e;exact⟨d,rfl,e.2⟩
theorem Ma{P:Program}{d:TypeDesc}{u:Ty}(e:oB P d u=true):uz d=u.isAgg:=by unfold oB at e;split at e<;>first|rfl|(simp only[ak]at e;rw[e.1];rfl)|cases e
theorem Hx[Tabs]{P:Program}{t:TypeId}{u:Ty}(e:dB P t u=true)(w:World):(isAgg t).run P w=.ok u.isAgg w:=by obtain⟨d,a,ho⟩:=fG e;have ha:=Ma ho;unfold isAgg;simp only[Sem.run_bind,run_underlying a,afg];rw[<-ha];cases d<;>rfl
theorem kD[Tabs]{P:Program}{t:TypeId}{u:Ty}(e:dB P t u=true)(w:World):(sizeOf t).run P w=.ok u.size w:=by obtain⟨i,z,hi,hs,_⟩:=AE e;simp[sizeOf,typeInfo,hi,hs]
theorem Iu[Tabs]{P:Program}{t:TypeId}{u:Ty}(e:dB P t u=true):∃z,(∀w:World,(zeroValue t).run P w=.ok z w)/\LG u z.cells.toList=O []:=by obtain⟨i,z,hi,hs,a,hc⟩:=AE e;exact⟨z,λw=>by simp[zeroValue,typeInfo,hi,a],hc⟩
theorem B3[Tabs]{P:Program}{t:TypeId}{u:Ty}(e:dB P t u=true)(w:World):∃z,(zeroValue t).run P w=.ok z w/\LG u z.cells.toList=O []:=(Iu e).imp λ_ h=>⟨h.1 w,h.2⟩
def mN(agg:Bool)(a:List Value):Value:=if agg then .agg a.toArray else a.headD undef
theorem mZ[Tabs]{agg:Bool}{cs:List aS}{a:List Value}(r:bl h S w m cs a)(hn:agg=true\/∃c,cs=[c]):bU h S w m (valOf agg cs) (mN agg a):=by cases agg with|true=>exact⟨a.toArray,rfl,by simpa using r⟩|false=>obtain⟨c,rfl⟩:=hn.resolve_left (by simp);obtain⟨v,us,rfl,b,_⟩:=r.gU;exact b
theorem cells_one{v:Value}(h1:v.oneCell'=true):v.cells= #[v]:=by cases v<;>first|rfl|cases h1
theorem zx.tV{o:bI}{c:OC}(hc:(∃t k xs,o=.src t k xs)->c.v.oneCell'=true):{k:VK}->{v:Value}->zx w o c k v->v.oneCell'=true
 |.win _ _,v,r=>by obtain⟨_,_,_,_,_,_,⟨_,_,rfl,_⟩|⟨_,_,_,_,rfl,_⟩⟩:=r<;>rfl
 |.Kv _ _ _ _ _,v,r=>by obtain⟨_,_,_,_,_,_,_,_,_,_,_,_,_,_,_,rfl⟩:=r;rfl
 |.app _ _ _ _ _ _,v,r=>by obtain⟨_,_,_,_,_,_,_,_,_,_,_,_,_,_,_,_,rfl,_⟩:=r;rfl
 |.all,v,r=>by rw[r.2];exact hc r.1
 |.el _,v,r=>by obtain⟨_,_,_,_,_,_,_,_,_,rfl⟩:=r;rfl
theorem bg.tV[Tabs]{c:aS}{v:Value}(r:bg h S w m c v)(hc:c≠.und)(M:Mem h S w m B M0):v.oneCell'=true:=by cases c with|und=>exact absurd rfl hc|gV=>obtain⟨o,rfl⟩:∃o:Option Addr,v=.slice o 0 0:=r;rfl|pv t x=>exact r.2.tV v (by simp)|pc t x=>obtain⟨_,_,_,rfl,_⟩:=r;rfl|os id=>obtain⟨⟨d,t,xs,ho⟩,c,a,rfl⟩:=r;obtain⟨c',h1,_,j⟩:=M.obj _ _ ho;obtain rfl:c'=c:=aA (h1.symm.trans a);(rcases j with ⟨⟨_,e⟩,_⟩|⟨g,cap,cur,te,Fs,e,_⟩<;>rw[e]<;>rfl)|op id off=>obtain⟨_,_,_,_,_,rfl⟩:=r;rfl|oe id i off=>obtain⟨_,_,_,_,_,_,_,rfl⟩:=r;rfl|sb id i off e y=>obtain⟨d,xs,ho,hi,rfl,⟨u,z,hf⟩,c,g,n,cap,a,l,b⟩:=r;have:=eP (get:=h) M (λ_ _ e _=>e) (t:=.slice u) (c:=.sb id i off e y) (v:=v) (x:=z) rfl (by simp only[cC,hf];simp[cL]) ⟨true,xs,ho,hi,rfl,⟨u,z,hf⟩,c,g,n,cap,a,l,b⟩;exact this.tV v (by simp)|vw id k=>obtain⟨o,ho,_,c,a,r⟩:=r;refine r.tV ?_;rintro⟨t,k,xs,rfl⟩;obtain⟨c',h1,_,j⟩:=M.obj _ _ ho;obtain rfl:c'=c:=aA (h1.symm.trans a);(rcases j with ⟨⟨_,e⟩,_⟩|⟨g,cap,cur,te,Fs,e,_⟩<;>rw[e]<;>rfl)|cl f caps=>obtain⟨_,rfl,_⟩:=r;rfl
theorem bU.cells[Tabs]{v:aY}{u:Value}(r:bU h S w m v u)(hs:v.iD=true)(M:Mem h S w m B M0):bl h S w m v.cells u.cells.toList:=by cases v with|one c=>(have hc:c≠.und:=λe=>by subst e;cases hs);have h1:=bg.tV r hc M;rw[cells_one h1];exact bl.one r h1|ag cs=>obtain⟨vs,rfl,r⟩:=r;exact r|tu l=>cases hs
theorem iC[Tabs]{P:Program}{t:TypeId}{u:Ty}(e:dB P t u=true){b o:Nat}{a:List Value}(c:jZ w b o a)(hl:a.length=u.size):(loadVar t ⟨b,o,U⟩).run P w=.ok (mN u.isAgg a) w:=by(have hc:∀j v,a[j]? =O v->w.cell? ((⟨b,o,U⟩:Addr).add j)=O v:=by intro j v f;(have:(⟨b,o,U⟩:Addr).add j=⟨b,o+j,U⟩:=by unfold Addr.add;split<;>simp_all);rw[this];exact c j v f);unfold loadVar;simp only[Sem.run_bind,Hx e,afg];cases ha:u.isAgg with|true=>simp only[if_true,Sem.run_bind,kD e,afg];rw[<-hl,run_loadCells_list w _ a hc];rfl|false=>have h1:=fq ha;match a,hl,hc with|[d],hl,hc=>have:=hc 0 d rfl;(have g:(⟨b,o,U⟩:Addr).add 0=⟨b,o,U⟩:=by unfold Addr.add;simp);rw[g]at this;simp[this,mN]|[],hl,_=>simp[h1]at hl|_::_::_,hl,_=>simp[h1]at hl
theorem iN(L:List Value)(a b j:Nat):((L.drop a).take b)[j]? =if j<b then L[a+j]? else U:=by rw[aeM];split;{rw[aeJ]};{rfl}
theorem sT{get:bQ}:∀{t:Ty} {cs:List aS} {vs:List Value} {x:t.den} {Fs:Nat->bu},bP get t cs=O x->cs.length=t.size->vs.length=t.size->(∀(i:Nat) (c:aS) (v:Value) (u:Ty) (z:u.den),cs[i]? =O c->vs[i]? =O v->u.isAgg=false->cC get u c=O z->Own w u [v] z (Fs i))->(∀i j q,Fs i q->Fs j q->i=j)->Own w t vs x (λq=>∃i,i<t.size/\Fs i q)
 |.unit,_,vs,_,_,_,_,g,_,_=>⟨aH g,λq ⟨i,hi,_⟩=>by simp[Ty.size]at hi⟩
 |.pair a b,cs,vs,x,Fs,e,hl,g,f,l=>by simp only[bP,ay,aw]at e;obtain⟨y,n,z,m,rfl⟩:=e;have o:cs.length=a.size+b.size:=hl;have p:vs.length=a.size+b.size:=g;refine⟨vs.take a.size,vs.drop a.size,_,_,by simp,sT (Fs:=Fs) n (by simp;omega) (by simp;omega) (λi c v u z hc hu=> ?_) l,sT (Fs:=λi=>Fs (a.size+i)) m (by simp;omega) (by simp;omega) (λi c v u z hc hu=> ?_) (λi j q h1 d=>by have:=l _ _ q h1 d;omega),λq ⟨i,hi,h1⟩ ⟨j,A,d⟩=> ?_,λq=>⟨λ⟨i,hi,h1⟩=> ?_,λh=> ?_⟩⟩;{rw[aeM]at hc hu;split at hc;{rename_i hi;rw[aN hi]at hu;exact f i c v u z hc hu};{cases hc}};{rw[aeJ]at hc hu;exact f (a.size+i) c v u z hc hu};{have:=l _ _ q h1 d;omega};{have r:i<a.size+b.size:=hi;by_cases h:i<a.size;{exact .inl ⟨i,h,h1⟩};{exact .inr ⟨i-a.size,by omega,by rw[show a.size+(i-a.size)=i by omega];exact h1⟩}};{have s:(Ty.pair a b).size=a.size+b.size:=rfl;rcases h with ⟨i,hi,h1⟩|⟨i,hi,h1⟩;{exact⟨i,by omega,h1⟩};{exact⟨a.size+i,by omega,h1⟩}}
 |.bool,[c],[v],x,Fs,e,_,_,f,_=>by obtain⟨h1,d⟩:=f 0 c v .bool x rfl rfl rfl e;exact⟨h1,λq ⟨i,hi,hq⟩=>by simp[Ty.size]at hi;subst hi;exact d q hq⟩
 |.int k,[c],[v],x,Fs,e,_,_,f,_=>by obtain⟨h1,d⟩:=f 0 c v (.int k) x rfl rfl rfl e;exact⟨h1,λq ⟨i,hi,hq⟩=>by simp[Ty.size]at hi;subst hi;exact d q hq⟩
 |.str,[c],[v],x,Fs,e,_,_,f,_=>by obtain⟨h1,d⟩:=f 0 c v .str x rfl rfl rfl e;exact⟨h1,λq ⟨i,hi,hq⟩=>by simp[Ty.size]at hi;subst hi;exact d q hq⟩
 |.raw,[c],[v],x,Fs,e,_,_,f,_=>by obtain⟨h1,d⟩:=f 0 c v .raw x rfl rfl rfl e;exact⟨h1,λq ⟨i,hi,hq⟩=>by simp[Ty.size]at hi;subst hi;exact d q hq⟩
 |.slice t,[c],[v],x,Fs,e,_,_,f,_=>by have:=f 0 c v (.slice t) x rfl rfl rfl e;(have m:(λq=>∃i,i<(Ty.slice t).size/\Fs i q)=Fs 0:=by funext q;refine propext ⟨λ⟨i,hi,hq⟩=> ?_,λhq=>⟨0,by simp[Ty.size],hq⟩⟩;simp[Ty.size]at hi;subst hi;exact hq);rw[m];exact this
theorem rW[Tabs]{t:Ty}{b:List Value}{x:t.den}{F:bu}(ha:t.isAgg=false)(o:Own w t b x F):∃Fs:Nat->bu,(∀(i:Nat) (c:aS) (v:Value),(flat t x)[i]? =O c->b[i]? =O v->∃(u:Ty) (z:u.den),c=.pv u z/\Own w u [v] z (Fs i))/\(∀i j q,Fs i q->Fs j q->i=j)/\∀i q,Fs i q->F q:=by have hl:=o.len;have h1:t.size=1:=fq ha;(have hf:flat t x=[.pv t x]:=by cases t<;>first|rfl|cases ha);refine⟨λi q=>i=0/\F q,λi c v hi a=> ?_,λi j q hi d=>hi.1.trans d.1.symm,λi q hi=>hi.2⟩;rw[hf]at hi;cases i with|zero=>simp at hi;refine⟨t,x,hi.symm,?_⟩;(match b,hl,a with|[v'],_,a=>simp at a;subst a;(have e:(λq=>(0:Nat)=0/\F q)=F:=by funext q;simp);show Own w t [v'] x (λq=>(0:Nat)=0/\F q);rw[e];exact o|[],hl,_=>rw[h1]at hl;cases hl|_::_::_,hl,_=>rw[h1]at hl;simp at hl)|succ i=>simp at hi
theorem oa[Tabs]:∀{t:Ty} {e:List Value} {x:t.den} {F:bu},Own w t e x F->∃Fs:Nat->bu,(∀(i:Nat) (c:aS) (v:Value),(flat t x)[i]? =O c->e[i]? =O v->∃(u:Ty) (z:u.den),c=.pv u z/\Own w u [v] z (Fs i))/\(∀i j q,Fs i q->Fs j q->i=j)/\∀i q,Fs i q->F q
 |.unit,e,x,F,o=>⟨λ_ _=>False,λi c v h=>by simp[flat]at h,λ_ _ _ h=>h.elim,λ_ _ h=>h.elim⟩
 |.pair a b,e,x,F,o=>by obtain⟨c,d,G,H,rfl,h1,y,p,r⟩:=o;obtain⟨A,B,a2,a3⟩:=oa h1;obtain⟨C,D,E,n⟩:=oa y;have hc:=h1.len;have g:∀{t:Ty} (x:t.den),(flat t x).length=t.size:=λx=>cq _ x;refine⟨λi=>if i<a.size then A i else C (i-a.size),λi s v hi m=> ?_,λi j q hi f=> ?_,λi q hi=> ?_⟩;{simp only[flat]at hi;by_cases hl:i<a.size;{rw[aeH (by rw[g];exact hl)]at hi;rw[aeH (by omega)]at m;simp only[aN hl];exact B i s v hi m};{rw[aI (by rw[g];omega),g]at hi;rw[aI (by omega),hc]at m;simp only[aM hl];exact D _ s v hi m}};{by_cases li:i<a.size;{by_cases l:j<a.size;{simp only[aN li]at hi;simp only[aN l]at f;exact a2 i j q hi f};{simp only[aN li]at hi;simp only[aM l]at f;exact(p q (a3 i q hi) (n _ q f)).elim}};{by_cases l:j<a.size;{simp only[aM li]at hi;simp only[aN l]at f;exact(p q (a3 j q f) (n _ q hi)).elim};{simp only[aM li]at hi;simp only[aM l]at f;have:=E _ _ q hi f;omega}}};{by_cases li:i<a.size;{simp only[aN li]at hi;exact(r q).2 (.inl (a3 i q hi))};{simp only[aM li]at hi;exact(r q).2 (.inr (n _ q hi))}}
 |.bool,e,x,F,o=>rW (t:=.bool) rfl o
 |.int k,e,x,F,o=>rW (t:=.int k) rfl o
 |.str,e,x,F,o=>rW (t:=.str) rfl o
 |.raw,e,x,F,o=>rW (t:=.raw) rfl o
 |.slice u,e,x,F,o=>rW (t:=.slice u) rfl o
theorem Mx[Tabs](M:Mem h S w m B M0){id i off:Nat}{e:Ty}{y:e.den}{v:Value}(r:bg h S w m (.sb id i off e y) v):∃xs u z c g cap t,h id=O (.arr true e xs)/\xs[i]? =O y/\(flat e y)[off]? =O (.pv (.slice u) z)/\m id=O c/\c.v=.slice (O ⟨g,0,U⟩) xs.length cap/\w.cell? ⟨g,i*e.size+off,U⟩=O v/\Own w (.slice u) [v] z t/\∀q,t q->c.F q/\q≠g:=by obtain⟨d,xs,ho,hi,rfl,⟨u,z,hf⟩,c,g,n,cap,hc,l,a⟩:=r;obtain⟨c',o,he,A⟩:=M.obj id _ ho;obtain rfl:c'=c:=aA (o.symm.trans hc);rcases A with ⟨_,rfl,_⟩|⟨C,b,cur,te,Fs,h1,D,K,L,N,E,P,G,H⟩;{simp at hi};have p:=l;rw[h1]at l;simp only[Value.slice.injEq,aw,Addr.mk.injEq]at l;obtain⟨⟨rfl,_⟩,rfl,rfl⟩:=l;have f:i<xs.length:=(aeK.1 hi).1;(have j:off<e.size:=by have:=(aeK.1 hf).1;rw[cq]at this;exact this);(have k:((cur.toList.drop (i*e.size)).take e.size)[off]? =O v:=by rw[iN,aN j];have:=a;simp only[World.cell?,D,afe,aen,if_false]at this;simpa using this);obtain⟨I,J,Q,x⟩:=oa (E i y hi);obtain⟨R,T,hp,s⟩:=J off _ v hf k;cases hp;exact⟨xs,u,z,c',C,b,I off,ho,hi,hf,hc,p,a,s,λq hq=>⟨(H q).2 (.inr ⟨i,f,x off q hq⟩),λe=>G i f (e▸x off q hq)⟩⟩
end
def kH.gives:kH->aY->aP->Prop
 |.fail,_,_=>False
 |.ok v os,v',a=>v=v'/\os=a
 |.guard c v os,v',a=>c=true/\v=v'/\os=a
 |.bind _ m f,v',a=>∃x,m=O x/\f x=(v',a)
theorem kH.tD{s:AS}{R:Type}{k:aY->AS->Option R}{q:kH}{r:R}(h:q.run s k=O r):∃v os,q.gives v os/\k v {s with h:=os++s.h}=O r:=by cases q with|fail=>cases h|ok v os=>exact⟨v,os,⟨rfl,rfl⟩,h⟩|guard c v os=>(cases c with|true=>exact⟨v,os,⟨rfl,rfl,rfl⟩,h⟩|false=>cases h)|bind α m f=>cases m with|none=>cases h|some x=>exact⟨(f x).1,(f x).2,⟨x,rfl,rfl⟩,h⟩
def dJ(os:aP)(h:bQ):bQ:=λi=>(aP.get os i).or (h i)
theorem ji(h:bQ):dJ [] h=h:=by funext i;simp[dJ,aP.get]
theorem get_append(os h:aP)(i:Nat):aP.get (os++h) i=(aP.get os i).or (aP.get h i):=by induction os with|nil=>simp[aP.get]|cons p r a=>obtain⟨j,o⟩:=p;simp only[List.cons_append,aP.get];cases ae2 j i<;>simp[a]
theorem dW(j:Nat)(o:bI)(i:Nat):aP.get [(j,o)] i=if i=j then O o else U:=by simp only[aP.get];by_cases h:i=j;{subst h;simp};{(have:ae2 j i=false:=by cases e:ae2 j i with|false=>rfl|true=>exact absurd (ax e).symm h);simp[this,h]}
section
variable {P:Program} {E:Env} {h get:bQ} {S:bu} {w:World} {m:bF} {B:Nat} {M0:bu}
structure fP (h:bQ) (S:bu) (w:World) (m:bF) (B:Nat) (M0:bu) (d:Nat) (v:aY) (os:aP) (v':Value) (w':World) (S':bu) (m':bF):Prop where
  grow:Grow w w'
  mem:Mem (dJ os h) S' w' m' B M0
  wide:dA h (dJ os h) S S' w w' m m'
  news:∀q,S' q->S q\/(w.heap.size<=q/\q<w'.heap.size)
  val:bU (dJ os h) S' w' m' v v'
  ids:∀id,aP.get os id≠U->d*16<=id/\id<=d*16+15
theorem dA.refl(h:bQ)(S:bu)(w:World)(m:bF):dA h h S S w w m m:=⟨λ_ _ e=>e,λ_ _=>rfl,λ_ e=>e,aB _,λ_ _=>rfl,λ_ _ _ _ _ _=>rfl⟩
theorem fP.same[Tabs](M:Mem h S w m B M0)(d:Nat){v:aY}{v':Value}(r:bU h S w m v v'):fP h S w m B M0 d v [] v' w S m:=
  ⟨Grow.refl w,by rw[ji];exact M,by rw[ji];exact dA.refl h S w m,λq hq=>.inl hq,by rw[ji];exact r,λid hid=>by simp[aP.get]at hid⟩
theorem fP.newObj[Tabs](M:Mem h S w m B M0)(n:B<=w.heap.size){d:Nat}(f:∀id,d*16<=id->id<=d*16+15->h id=U)(o:bI)(a:Array Value)(b:TypeId)(c:OC)(p:∀q,c.F q->q=w.heap.size)(k:dA h (dJ [(d*16,o)] h) S S w (w.alloc (.cells a b)) m (λi=>if i=d*16 then O c else m i)->iP (dJ [(d*16,o)] h) S (w.alloc (.cells a b)) (λi=>if i=d*16 then O c else m i) o c){v:aY}{v':Value}(r:bU (dJ [(d*16,o)] h) S (w.alloc (.cells a b)) (λi=>if i=d*16 then O c else m i) v v'):fP h S w m B M0 d v [(d*16,o)] v' (w.alloc (.cells a b)) S (λi=>if i=d*16 then O c else m i):=by(have W:dA h (dJ [(d*16,o)] h) S S w (w.alloc (.cells a b)) m (λi=>if i=d*16 then O c else m i):=by refine⟨λid x e=> ?_,λid e=> ?_,λ_ e=>e,by simp,λq hq=>(Grow.alloc w a b).block q (M.lt q hq),λid c' e hc q hq=>(Grow.alloc w a b).block q (M.apart id c' e hc q hq).2.1⟩;{(have:id≠d*16:=λg=>by rw[g,f _ (aB _) (by omega)]at e;cases e);simp[dJ,dW,this,e]};{have:id≠d*16:=λg=>e (by rw[g,f _ (aB _) (by omega)]);simp[this]});have G:=Mem.grow (m':=λi=>if i=d*16 then O c else m i) (S':=S) M (Grow.alloc w a b) n [(d*16,o)] (λid hid=>by rw[dW]at hid;(have:id=d*16:=by by_cases e:id=d*16;{exact e};{simp[e]at hid});rw[this];exact f _ (aB _) (by omega)) (λid hid=>by rw[dW]at hid;(have:id≠d*16:=λe=>by simp[e]at hid);simp[this]) (λq hq=>hq) (λq hq=>.inl hq) (λid x e=>by rw[dW]at e;by_cases g:id=d*16;{rw[aN g]at e;cases e;refine⟨c,by simp[g],k W,λq hq=> ?_⟩;have:=p q hq;subst this;refine⟨aB _,by simp,λhs=> ?_⟩;have:=M.lt _ hs;omega};{simp[g]at e}) (λi j c' d' s hi l=>by rw[dW]at hi l;(have h1:i=d*16:=by by_cases e:i=d*16;{exact e};{simp[e]at hi});(have t:j=d*16:=by by_cases e:j=d*16;{exact e};{simp[e]at l});omega);exact⟨Grow.alloc w a b,G.1,W,λq hq=>.inl hq,r,λid hid=>by rw[dW]at hid;(have:id=d*16:=by by_cases e:id=d*16;{exact e};{simp[e]at hid});omega⟩
theorem fP.Qt[Tabs](M:Mem h S w m B M0)(k:B<=w.heap.size){d:Nat}(b:∀id,d*16<=id->id<=d*16+15->h id=U){w':World}(g:Grow w w'){a:Bool}{t:Ty}{ys:List t.den}{v:Value}{F:bu}(r:bL S w' a t v ys F)(c:∀q,F q->w.heap.size<=q/\q<w'.heap.size):fP h S w m B M0 d (.one (.os (d*16))) [(d*16,.arr a t ys)] v w' S (λi=>if i=d*16 then O ⟨v,F,t⟩else m i):=by(have hid:∀id,aP.get [(d*16,bI.arr a t ys)] id≠U->id=d*16:=λid hi=>by rw[dW]at hi;by_cases e:id=d*16;{exact e};{simp[e]at hi});have G:=Mem.grow (m':=λi=>if i=d*16 then O ⟨v,F,t⟩else m i) (S':=S) M g k [(d*16,.arr a t ys)] (λid hi=>by rw[hid id hi];exact b _ (aB _) (by omega)) (λid hn=>by rw[dW]at hn;(have:id≠d*16:=λe=>by simp[e]at hn);simp[this]) (λq hq=>hq) (λq hq=>.inl hq) (λid x e=>by rw[dW]at e;by_cases f:id=d*16;{rw[aN f]at e;cases e;exact⟨⟨v,F,t⟩,by simp[f],⟨rfl,r⟩,λq hq=>⟨(c q hq).1,(c q hq).2,λhs=>by have:=M.lt q hs;have:=(c q hq).1;omega⟩⟩};{simp[f]at e}) (λi j c' d' l hi n=>by have:=hid i hi;have:=hid j n;omega);exact⟨g,G.1,G.2,λq hq=>.inl hq,⟨⟨a,t,ys,by simp[dJ,dW]⟩,⟨v,F,t⟩,aN rfl,rfl⟩,λid hi=>by have:=hid id hi;omega⟩
theorem fP.empty[Tabs](M:Mem h S w m B M0)(b:B<=w.heap.size){d:Nat}(a:∀id,d*16<=id->id<=d*16+15->h id=U)(t:Ty)(o:Option Addr):fP h S w m B M0 d (.one (.os (d*16))) [(d*16,.arr true t [])] (.slice o 0 0) w S (λi=>if i=d*16 then O ⟨.slice o 0 0,λ_=>False,t⟩else m i):=fP.Qt M b a (Grow.refl w) (.inl ⟨⟨o,rfl⟩,rfl,λ_ h=>h⟩) λ_ h=>h.elim
theorem fP.grown[Tabs](M:Mem h S w m B M0)(a:B<=w.heap.size)(d:Nat){w':World}(g:Grow w w'){v:aY}{v':Value}(r:bU h S w' m v v'):fP h S w m B M0 d v [] v' w' S m:=by have G:=Mem.grow (m':=m) (S':=S) M g a [] (λid hi=>absurd rfl hi) (λ_ _=>rfl) (λq hq=>hq) (λq hq=>.inl hq) (λid x e=>by cases e) (λi j c d b hi=>absurd rfl hi);exact⟨g,G.1,G.2,λq hq=>.inl hq,by rw[ji];exact r,λid hi=>absurd rfl hi⟩
theorem sR:∀{l:List (Nat×aR)} {g:Nat} {vs:List aY} {C:aR},FQ l g vs=O C->(g,C)∈l
 |[],_,_,_,h=>by cases h
 |(j,D)::r,g,vs,C,h=>by unfold FQ at h;cases a:ae2 j g&&qN D.ps vs with|true=>rw[a]at h;simp only[ai,aw]at h;simp only[ak]at a;have:=ax a.1;subst this;subst h;exact List.mem_cons_self .. |false=>rw[a]at h;exact aL _ (sR h)
theorem cU{α:Type}:∀{l:List (Nat×α)} {i:Nat} {x:α},look l i=O x->(i,x)∈l
 |[],_,_,e=>by cases e
 |(j,a)::r,i,x,e=>by simp only[look]at e;cases b:ae2 j i with|true=>rw[b]at e;simp only[ai,aw]at e;subst e;rw[ax b];simp|false=>rw[b]at e;exact aL _ (cU e)
def gC(P:Program)(h:bQ)(S:bu)(w:World)(m:bF)(B:Nat)(M0:bu)(d:Nat)(v:aY)(os:aP)(x:Sem Value):Prop:=∃v' w' S' m',x.run P w=.ok v' w'/\fP h S w m B M0 d v os v' w' S' m'
theorem gC.same[Tabs](M:Mem h S w m B M0)(d:Nat){v:aY}{v':Value}{x:Sem Value}(hx:x.run P w=.ok v' w)(r:bU h S w m v v'):gC P h S w m B M0 d v [] x:=⟨v',w,S,m,hx,fP.same M d r⟩
theorem Sk[Tabs](M:Mem h S w m B M0)(c:B<=w.heap.size){d:Nat}(a:∀id,d*16<=id->id<=d*16+15->h id=U){t:TypeId}{u:Ty}(ht:dB P t u=true):gC P h S w m B M0 d (.one (.op (d*16) 0)) [(d*16,.box (fN u))] (Instr.alloc t true (.tuple #[])):=by obtain⟨z,e,b⟩:=B3 ht w;refine⟨.pointer (O ⟨w.heap.size,0,U⟩),w.alloc (.cells z.cells t),S,λi=>if i=d*16 then O ⟨.pointer (O ⟨w.heap.size,0,U⟩),λq=>q=w.heap.size,.unit⟩else m i,?_,?_⟩;rotate_left;{refine fP.newObj M c a (.box (fN u)) z.cells t ⟨.pointer (O ⟨w.heap.size,0,U⟩),λq=>q=w.heap.size,.unit⟩ (λq hq=>hq) (λW=> ?_) (v':=.pointer (O ⟨w.heap.size,0,U⟩)) ?_;{obtain⟨p,hp,hc,_⟩:=fp (S:=S) (w:=w.alloc (.cells z.cells t)) (h:=dJ [(d*16,.box (fN u))] h) (m:=λi=>if i=d*16 then O ⟨.pointer (O ⟨w.heap.size,0,U⟩),λq=>q=w.heap.size,.unit⟩else m i) u _ _ b;rw[aew]at hp;exact⟨w.heap.size,z.cells,t,rfl,heap_alloc_new w _,by rw[hp];exact hc,λq=>Iff.rfl⟩};{exact⟨⟨_,by simp[dJ,dW];rfl⟩,⟨.pointer (O ⟨w.heap.size,0,U⟩),λq=>q=w.heap.size,.unit⟩,w.heap.size,by simp,rfl,rfl⟩}};{simp[Instr.alloc,e,newVar,newRow]}
theorem V3[Tabs](M:Mem h S w m B M0)(c:B<=w.heap.size){d:Nat}(b:∀id,d*16<=id->id<=d*16+15->h id=U){t:TypeId}{a:aY}{v:Value}(r:bU h S w m a v)(hs:a.iD=true):gC P h S w m B M0 d (.one (.op (d*16) 0)) [(d*16,.box a.cells)] (Instr.box t v):=by refine⟨.pointer (O ⟨w.heap.size,0,U⟩),w.alloc (.cells v.cells t),S,λi=>if i=d*16 then O ⟨.pointer (O ⟨w.heap.size,0,U⟩),λq=>q=w.heap.size,.unit⟩else m i,?_,?_⟩;rotate_left;{refine fP.newObj M c b (.box a.cells) v.cells t ⟨.pointer (O ⟨w.heap.size,0,U⟩),λq=>q=w.heap.size,.unit⟩ (λq hq=>hq) (λW=> ?_) (v':=.pointer (O ⟨w.heap.size,0,U⟩)) ?_;{exact⟨w.heap.size,v.cells,t,rfl,heap_alloc_new w _,(r.cells hs M).imp λ_ _=>bg.wider W M,λq=>Iff.rfl⟩};{exact⟨⟨_,by simp[dJ,dW];rfl⟩,⟨.pointer (O ⟨w.heap.size,0,U⟩),λq=>q=w.heap.size,.unit⟩,w.heap.size,by simp,rfl,rfl⟩}};{simp[Instr.box,newVar,newRow]}
theorem Tj[Tabs](M:Mem h S w m B M0)(_:B<=w.heap.size)(hg:∀id o,get id=O o->h id≠U->h id=O o){d:Nat}{t:TypeId}{u:Ty}{a:aY}{v:Value}{y:u.den}(r:bU h S w m a v)(hs:a.iD=true)(hl:a.cells.length=u.size)(hi:dI a.cells=[])(l:bP get u a.cells=O y):gC P h S w m B M0 d (.one (.pc u y)) [] (Instr.box t v):=by have k:=gZ M hg l (r.cells hs M) hl;rw[hi]at k;have b:eY S w u v.cells.toList y:=k.mono (λq hq=>hq.elim id λ⟨_,hi,_⟩=>by cases hi) (λ_ _=>rfl) (aB _);have W:dA h h S (λq=>S q\/q=w.heap.size) w (w.alloc (.cells v.cells t)) m m:=⟨λ_ _ e=>e,λ_ _=>rfl,λ_ e=>.inl e,by simp,λq hq=>(Grow.alloc w _ _).block q (M.lt q hq),λid c' e hc q hq=>(Grow.alloc w _ _).block q (M.apart id c' e hc q hq).2.1⟩;refine⟨.pointer (O ⟨w.heap.size,0,U⟩),w.alloc (.cells v.cells t),λq=>S q\/q=w.heap.size,m,by simp[Instr.box,newVar,newRow],Grow.alloc w _ _,?_,by rw[ji];exact W,?_,?_,λid hid=>by simp[aP.get]at hid⟩;{rw[ji];refine⟨λid o e=> ?_,λi j c d f hi n hc p q hq g=>M.dis i j c d f hi n hc p q hq g,λi c hi hc q hq=> ?_,λq hq=> ?_⟩;{obtain⟨c,h1,s⟩:=M.obj id o e;exact⟨c,h1,s.wider W M λq hq=>W.own id c (bn e) h1 q hq⟩};{have:=M.apart i c hi hc q hq;refine⟨λhs=> ?_,by simp;omega,this.2.2⟩;rcases hs with hs|hs;{exact this.1 hs};{omega}};{rcases hq with hq|hq;{have:=M.lt q hq;simp;omega};{subst hq;simp}}};{intro q hq;rcases hq with hq|hq;{exact .inl hq};{subst hq;exact .inr ⟨aB _,by simp⟩}};{rw[ji];refine⟨w.heap.size,0,v.cells.toList,rfl,.inr rfl,by simp,?_,b.mono (λq hq=>.inl hq) W.stay W.size⟩;have:=ey (heap_alloc_new w (.cells v.cells t)) 0 v.cells.toList.length;simp only[aeB,List.take_length]at this;exact this}
theorem lT{agg:Bool}{cs:List aS}{n:Nat}(hl:cs.length=n)(h1:agg=false->n=1):agg=true\/∃c,cs=[c]:=by cases agg with|true=>exact .inl rfl|false=>have:=h1 rfl;subst this;match cs,hl with|[c],_=>exact .inr ⟨c,rfl⟩
theorem A8[Tabs]{t:Ty}{a:List Value}{x:t.den}(r:eY S w t a x):bU h S w m (JB t x) (mN t.isAgg a):=mZ (gB r) (lT (cq t x) fq)
theorem OA[Tabs](M:Mem h S w m B M0)(d:Nat){t:TypeId}{u:Ty}(ht:dB P t u=true){x:u.den}{v:Value}(r:bg h S w m (.pc u x) v):gC P h S w m B M0 d (JB u x) [] (Instr.loadAt t v):=by obtain⟨b,o,c,rfl,_,_,e,a⟩:=r;refine gC.same M d (v':=mN u.isAgg c) ?_ (A8 a);simp only[Instr.loadAt,Instr.sureAddr,pure_bind];exact iC ht e a.len
theorem Nn{cs:List aS}{c:OC}(r:iP h S w m (.box cs) c):∃b cur e,c.v=.pointer (O ⟨b,0,U⟩)/\w.heap[b]? =O (.cells cur e (0,0))/\bl h S w m cs cur.toList/\(∀q,c.F q↔q=b):=r
theorem Om[Tabs](M:Mem h S w m B M0)(d:Nat){t:TypeId}{u:Ty}(ht:dB P t u=true){id off:Nat}{cs:List aS}{v:Value}(r:bg h S w m (.op id off) v)(ho:h id=O (.box cs))(hl:off+u.size<=cs.length):gC P h S w m B M0 d (valOf u.isAgg ((cs.drop off).take u.size)) [] (Instr.loadAt t v):=by obtain⟨_,c,b,h1,a,rfl⟩:=r;obtain⟨c',f,i⟩:=M.obj id _ ho;obtain rfl:c'=c:=aA (f.symm.trans h1);obtain⟨j,cur,e,k1,k2,k3,k⟩:=i;rw[k1]at a;simp only[Value.pointer.injEq,aw,Addr.mk.injEq]at a;obtain⟨rfl,_⟩:=a;have hlen:=k3.1;(have g:((cur.toList.drop off).take u.size).length=u.size:=by simp at hlen⊢;omega);refine gC.same M d (v':=mN u.isAgg ((cur.toList.drop off).take u.size)) ?_ (mZ ((k3.drop off).take u.size) (lT (n:=u.size) (by simp;omega) fq));simp only[Instr.loadAt,Instr.sureAddr,pure_bind];exact iC ht (ey k2 off u.size) g
theorem Iw{d:Bool}{e:Ty}{xs:List e.den}{c:OC}(r:iP h S w m (.arr d e xs) c){g n cap:Nat}(a:c.v=.slice (O ⟨g,0,U⟩) n cap){i:Nat}{y:e.den}(hi:xs[i]? =O y):∃cur te G,w.heap[g]? =O (.cells cur te (0,0))/\(i+1)*e.size<=cur.size/\(∀q,G q->c.F q)/\El S w d e ((cur.toList.drop (i*e.size)).take e.size) y G:=by obtain⟨_,r⟩:=r;rcases r with ⟨_,rfl,_⟩|⟨p,f,cur,te,Fs,h1,j,k,s,t,l,u,x,o⟩;{simp at hi};{rw[h1]at a;simp only[Value.slice.injEq,aw,Addr.mk.injEq]at a;obtain⟨⟨rfl,_⟩,_⟩:=a;have b:i<xs.length:=(aeK.1 hi).1;exact⟨cur,te,Fs i,j,by rw[k];exact ae8 _ (by omega),λq hq=>(o q).2 (.inr ⟨i,b,hq⟩),l i y hi⟩}
theorem Fy{α:Type}(l:List α)(a b o n:Nat)(hn:o+n<=b):(((l.drop a).take b).drop o).take n=(l.drop (a+o)).take n:=by rw[aeA,aex,aeX,ae7 (by omega)]
theorem ug[Tabs]:∀(t:Ty) (x d:t.den) (i:Nat) (c:aS),(flat t x)[i]? =O c->∃u z f,c=.pv u z/\u.isAgg=false/\(flat t d)[i]? =O (.pv u f)
 |.unit,_,_,_,_,e=>by simp[flat]at e
 |.bool,x,d,i,c,e=>by match i,e with|0,e=>simp[flat]at e;subst e;exact⟨_,_,d,rfl,rfl,rfl⟩
 |.int k,x,d,i,c,e=>by match i,e with|0,e=>simp[flat]at e;subst e;exact⟨_,_,d,rfl,rfl,rfl⟩
 |.str,x,d,i,c,e=>by match i,e with|0,e=>simp[flat]at e;subst e;exact⟨_,_,d,rfl,rfl,rfl⟩
 |.raw,x,d,i,c,e=>by match i,e with|0,e=>simp[flat]at e;subst e;exact⟨_,_,d,rfl,rfl,rfl⟩
 |.slice t,x,d,i,c,e=>by match i,e with|0,e=>simp[flat]at e;subst e;exact⟨_,_,d,rfl,rfl,rfl⟩
 |.pair a b,x,d,i,c,e=>by have h1:=cq a x.1;have g:=cq a d.1;simp only[flat]at e⊢;by_cases hi:i<a.size;{rw[aeH (by omega)]at e⊢;exact ug a x.1 d.1 i c e};{rw[aI (by omega)]at e⊢;rw[h1]at e;rw[g];exact ug b x.2 d.2 _ c e}
theorem gS:∀{cs:List aS},cQ cs=true->∀c∈cs,c=.gV\/∃u z,c=.pv u z/\∀t,u≠.slice t
 |[],_,c,hc=>by cases hc
 |.gV::r,e,c,hc=>by rcases aeT.1 hc with rfl|hc;{exact .inl rfl};{exact gS (cs:=r) e c hc}
 |.pv u z::r,e,c,hc=>by cases u with|slice t=>cases e|_=>rcases aeT.1 hc with rfl|hc;{exact .inr ⟨_,_,rfl,λt e=>by cases e⟩};{exact gS (cs:=r) e c hc}
 |.und::_,e,_,_=>by cases e
 |.pc _ _::_,e,_,_=>by cases e
 |.os _::_,e,_,_=>by cases e
 |.op _ _::_,e,_,_=>by cases e
 |.oe _ _ _::_,e,_,_=>by cases e
 |.sb _ _ _ _ _::_,e,_,_=>by cases e
 |.vw _ _::_,e,_,_=>by cases e
 |.cl _ _::_,e,_,_=>by cases e
theorem eY.any{S S':bu}{w w':World}{t:Ty}{v:Value}{x:t.den}(ha:t.isAgg=false)(hs:∀u,t≠.slice u)(r:eY S w t [v] x):eY S' w' t [v] x:=by cases t with|slice u=>exact absurd rfl (hs u)|unit=>cases ha|pair a b=>cases ha|bool=>exact r|int k=>exact r|str=>exact r|raw=>exact r
theorem El.plain[Tabs]{d:Bool}{e:Ty}{b:List Value}{y:e.den}{G:bu}(r:El S w d e b y G){off n:Nat}(hp:(!d||cQ (((flat e e.zero).drop off).take n))=true):bl h S w m (((flat e y).drop off).take n) ((b.drop off).take n):=by cases d with|false=>exact((gB r.1).drop off).take n|true=>simp only[Bool.not_true,aeo]at hp;have k:=gB (h:=h) (m:=m) (Own.rep (S:=G) r λ_ hq=>hq);have k2:=(k.drop off).take n;refine⟨k2.1,k2.2.1,λi c v hc f=> ?_⟩;have a:=hc;rw[aeM]at a;split at a;{rw[aeJ]at a;obtain⟨u,z,g,rfl,ha,j⟩:=ug e y e.zero _ _ a;(have hm:(aS.pv u g)∈((flat e e.zero).drop off).take n:=by refine aF (i:=i) ?_;rw[aeM,aN (by assumption),aeJ];exact j);rcases gS hp _ hm with hn|⟨l,z2,hn,hs⟩;{cases hn};{cases hn;exact⟨ha,((k2.2.2 i _ v hc f).2).any ha hs⟩}};{cases a}
theorem OD[Tabs](M:Mem h S w m B M0)(d:Nat){t:TypeId}{u:Ty}(ht:dB P t u=true){id i off:Nat}{f:Bool}{e:Ty}{xs:List e.den}{v:Value}(r:bg h S w m (.oe id i off) v)(ho:h id=O (.arr f e xs))(hl:off+u.size<=e.size){y:e.den}(l:xs[i]? =O y)(o:(!f||cQ (((flat e e.zero).drop off).take u.size))=true):gC P h S w m B M0 d (valOf u.isAgg (((flat e y).drop off).take u.size)) [] (Instr.loadAt t v):=by obtain⟨_,c,g,n,cap,h1,p,rfl⟩:=r;obtain⟨c',a,j⟩:=M.obj id _ ho;obtain rfl:c'=c:=aA (a.symm.trans h1);have he:c'.e=e:=j.1;obtain⟨cur,te,G,k1,k2,k3,q⟩:=Iw j p l;have k:=q.plain (h:=h) (m:=m) o;rw[Fy _ _ _ _ _ hl]at k;rw[he];(have b:((cur.toList.drop (i*e.size+off)).take u.size).length=u.size:=by rw[ae0,ae9]at k2;simp;omega);refine gC.same M d (v':=mN u.isAgg ((cur.toList.drop (i*e.size+off)).take u.size)) ?_ (mZ k (lT (n:=u.size) (by simp[cq];omega) fq));simp only[Instr.loadAt,Instr.sureAddr,pure_bind];exact iC ht (ey k1 _ _) b
theorem Ou[Tabs](M:Mem h S w m B M0)(d:Nat){t:TypeId}{u:Ty}(ht:dB P t (.slice u)=true){id i off:Nat}{e:Ty}{xs:List e.den}{v:Value}(r:bg h S w m (.oe id i off) v)(ho:h id=O (.arr true e xs))(hl:off+1<=e.size){y:e.den}(p:xs[i]? =O y){z:List u.den}(x:(flat e e.zero)[off]? =O (.pv (.slice u) z)):gC P h S w m B M0 d (.one (.sb id i off e y)) [] (Instr.loadAt t v):=by obtain⟨_,c,g,n,cap,h1,q,rfl⟩:=r;obtain⟨c',f,s⟩:=M.obj id _ ho;obtain rfl:c'=c:=aA (f.symm.trans h1);have he:c'.e=e:=s.1;obtain⟨cur,te,G,k1,k2,k3,A⟩:=Iw s q p;rw[he];(have j:i*e.size+off<cur.size:=by rw[ae0,ae9]at k2;omega);have a:=ey k1 (i*e.size+off) 1;(have k:(cur.toList.drop (i*e.size+off)).take 1=[cur[i*e.size+off]]:=by rw[aey (by simpa using j)];simp);rw[k]at a;have l:=a 0 _ rfl;obtain⟨C,z1,z2,b,_,o⟩:=ug e e.zero y off _ x;cases b;refine gC.same M d (v':=cur[i*e.size+off]) ?_ ⟨true,xs,ho,p,rfl,⟨u,z2,o⟩,c',g,n,cap,h1,q,l⟩;simp only[Instr.loadAt,Instr.sureAddr,pure_bind];have:=iC (P:=P) ht a (by simp[Ty.size]);simpa[mN,Ty.isAgg]using this
end
section
variable {P:Program} {E:Env} {h get:bQ} {S:bu} {w:World} {m:bF} {B:Nat} {M0:bu}
theorem iq(k:IntKind)(n:Int):CC k (k.wrap n):=wf_wrap k n
theorem zN(k:IntKind)(n:Int):CC k n↔k.min<=n/\n<=k.max:=by simp[CC,Lit.wf]
theorem M8{x y:Int}(h:0<=x):x.tmod y<=x:=by obtain⟨n,rfl⟩:=Int.eq_ofNat_of_zero_le h;(have:((n:Int).tmod y)=((n%y.natAbs:Nat):Int):=by rw[Int.tmod_eq_emod_of_nonneg (by omega)];rcases Int.natAbs_eq y with e|e;{rw[e];simp};{rw[e];simp});rw[this];have:=Nat.mod_le n y.natAbs;omega
theorem QB[Tabs]{k:IntKind}{x:Int}(hx:CC k x)(y:Int):CC k (x.tmod y):=by rw[zN]at hx⊢;(have h0:k.min<=0:=by cases k<;>decide);(have h1:0<=k.max:=by cases k<;>decide);rcases Int.le_total 0 x with hp|hp;{have a:=aeu y hp;have b:x.tmod y<=x:=M8 hp;omega};{have a:0<=(-x).tmod y:=aeu y (by omega);have b:(-x).tmod y<= -x:=M8 (by omega);rw[Int.neg_tmod]at a b;omega}
theorem G6{t:TypeId}(a:P.underlying t=O .bool)(p q:Bool):(binOp .eql t (.bool p) (.bool q)).run P w=.ok (.bool (p==q)) w:=by have:=run_equalIn_bool (P:=P) w 9999 t p q a;show(do pure (.bool (<-Op.equal t (.bool p) (.bool q))):Sem Value).run P w=_;simp only[Sem.run_bind,Op.equal,Op.maxDepth,this,afg,Sem.run_pure]
theorem Ih{t:TypeId}(a:P.underlying t=O .bool)(p q:Bool):(binOp .neq t (.bool p) (.bool q)).run P w=.ok (.bool (p !=q)) w:=by have:=run_equalIn_bool (P:=P) w 9999 t p q a;show(do pure (.bool (!(<-Op.equal t (.bool p) (.bool q)))):Sem Value).run P w=_;simp only[Sem.run_bind,Op.equal,Op.maxDepth,this,afg,Sem.run_pure];rfl
theorem uU(op:BinOp)(t:TypeId)(x y:Operand)(j k:IntKind)(a b:Int):(eqGuard op t x y (.int j a) (.int k b)).run P w=.ok () w:=by unfold eqGuard;cases op<;>rfl
theorem sF(op:BinOp)(t:TypeId)(x y:Operand)(a b:Bool):(eqGuard op t x y (.bool a) (.bool b)).run P w=.ok () w:=by unfold eqGuard;cases op<;>rfl
theorem xK(op:BinOp)(t:TypeId)(x y:Operand)(a b:ByteArray):(eqGuard op t x y (.string a) (.string b)).run P w=.ok () w:=by unfold eqGuard;cases op<;>rfl
theorem fc(b:Bool):bU h S w m (.one (.pv .bool b)) (.bool b):=⟨rfl,rfl⟩
theorem ij{k:IntKind}{x:Int}(hx:CC k x):bU h S w m (.one (.pv (.int k) x)) (.int k x):=⟨rfl,rfl,hx⟩
theorem Eh{x:Bytes}(hx:x.length<=maxLen):bU h S w m (.one (.pv .str x)) (.string ⟨⟨x⟩⟩):=⟨rfl,rfl,hx⟩
theorem EX{b:Bool}{v:Value}(r:bg h S w m (.pv .bool b) v):v=.bool b:=by have:=r.2;simp only[eY,List.cons.injEq,and_true]at this;exact this
theorem dx{k:IntKind}{x:Int}{v:Value}(r:bg h S w m (.pv (.int k) x) v):v=.int k x/\CC k x:=by have:=r.2;simp only[eY,List.cons.injEq,and_true]at this;exact this
theorem zR{x:Bytes}{v:Value}(r:bg h S w m (.pv .str x) v):v=.string ⟨⟨x⟩⟩/\x.length<=maxLen:=by have:=r.2;simp only[eY,List.cons.injEq,and_true]at this;exact this
theorem toList_mk(x:Bytes):(ByteArray.mk ⟨x⟩).toList=x:=ByteArray.toList_eq ⟨⟨x⟩⟩
theorem F8(p q:Bytes):(ByteArray.mk ⟨p⟩++ByteArray.mk ⟨q⟩)=ByteArray.mk ⟨p++q⟩:=by apply ByteArray.ext;simp[ByteArray.data_append]
theorem zk{x y:Bytes}:(x==y)=ae (x=y):=by by_cases e:x=y;{subst e;simp};{simp[e]}
theorem Ng[Tabs]{k:IntKind}{x:Int}(hx:CC k x)(op:BinOp)(y:Int):CC k (uE op k x y):=by unfold uE;split;{exact iq _ _};{rw[zN]at hx⊢;have a:(0:Int)<2^(min y.toNat k.bits):=Int.pow_pos (by decide);rw[Int.fdiv_eq_ediv_of_nonneg _ (aer a)];generalize (2:Int)^(min y.toNat k.bits)=z at a;by_cases h0:0<=x;{have h1:=Int.ediv_nonneg h0 (aer a);have b:=Int.ediv_le_self z h0;(have c:k.min<=0:=by cases k<;>decide);omega};{have h1:x/z<0:=Int.ediv_neg_of_neg_of_pos (by omega) a;(have b:x<=x/z:=by rw[Int.le_ediv_iff_mul_le a];have:z*(-x)>=1*(-x):=Int.mul_le_mul_of_nonneg_right (by omega) (by omega);(have e:x*z= -(z*(-x)):=by rw[Int.mul_neg,Int.neg_neg,Int.mul_comm]);omega);(have c:0<=k.max:=by cases k<;>decide);omega}}
def TF(P:Program):List Field->Ty->Nat->Bool
 |[],.unit,_=>true
 |f::fs,.pair (.int k) u,off=>ae2 f.offset off&& ((f.name != "_")&& ((match P.underlying f.type with|some (.int j)=>ae (j=k)|_=>false)&&TF P fs u (off+1)))
 |_,_,_=>false
def Nr(P:Program)(t:TypeId)(u:Ty):Bool:=
  (match P.underlying t with|some (.struct fs)=>TF P fs.toList u 0|_=>false)&& ((!P.stoodInHeld t)&&!P.eqGuardType P.depth t)
theorem Ac{d:Nat}{xs ys:Array Value}:∀(fs:List Field) (u:Ty) (off:Nat) (a b:List aS) (r:Bool),TF P fs u off=true->Cy u a b=O r->(∀(i:Nat) c,a[i]? =O c->∃v,xs[off+i]? =O v/\bg h S w m c v)->(∀(i:Nat) c,b[i]? =O c->∃v,ys[off+i]? =O v/\bg h S w m c v)->∀n,(Op.eqFields (d+1) xs ys fs).run P n=.ok r n
 |[],u,off,a,b,r,hk,e,_,_,n=>by cases u with|unit=>(cases a with|nil=>(cases b with|nil=>cases e;rfl|cons _ _=>cases e)|cons _ _=>cases e)|_=>cases hk
 |f::fs,u,off,a,b,r,hk,e,ha,A,n=>by unfold Cy at e;split at e;{cases hk};{rename_i k u i x a j y b;simp only[TF,ak]at hk;obtain⟨h1,p,B,C⟩:=hk;have h1:=ax h1;(have p:f.name≠ "_" :=by simpa using p);split at B;{rename_i D q;cases g:(ae (i=k)&&ae (j=k))with|false=>rw[g]at e;cases e|true=>rw[g]at e;simp only[ak,au]at g;obtain⟨rfl,rfl⟩:=g;simp only[ai]at e;split at e;{rename_i z E;cases e;obtain⟨v1,k1,k2⟩:=ha 0 _ rfl;obtain⟨v2,k3,F⟩:=A 0 _ rfl;obtain⟨rfl,_⟩:=dx k2;obtain⟨rfl,_⟩:=dx F;have G:=Ac (d:=d) fs u (off+1) a b z C E (fun i c hc=>by obtain⟨v,s,t⟩:=ha (i+1) c (by simpa using hc);exact⟨v,by rw[←s];congr 1;omega,t⟩) (fun i c hc=>by obtain⟨v,s,t⟩:=A (i+1) c (by simpa using hc);exact⟨v,by rw[←s];congr 1;omega,t⟩);(have H:∀l,(part f.type xs f.offset).run P l=.ok (.int j x) l:=fun l=>by rw[ae1]at k1;simp only[part,isAgg,Sem.run_bind,run_underlying q,afg,h1,k1];rfl);(have I:∀l,(part f.type ys f.offset).run P l=.ok (.int j y) l:=fun l=>by rw[ae1]at k3;simp only[part,isAgg,Sem.run_bind,run_underlying q,afg,h1,k3];rfl);simp only[Op.eqFields,aN p,Sem.run_bind,H,I,afg,run_equalIn_int _ d f.type j D x y q];by_cases o:x=y;{subst o;simp[G n]};{simp[o]}};{cases e}};{cases B}};{cases e}
theorem abW[Tabs](M:Mem h S w m B M0)(d:Nat){t:TypeId}{u:Ty}(hk:Nr P t u=true){op:BinOp}{a b:List aS}{x y:Value}{ox oy:Operand}{v:aY}{os:aP}(e:(VD u op a b).gives v os)(o:bU h S w m (.ag a) x)(p:bU h S w m (.ag b) y):gC P h S w m B M0 d v os (do eqGuard op t ox oy x y;binOp op t x y):=by unfold VD at e;split at e;{rename_i z q;obtain⟨xs,rfl,r⟩:=o;obtain⟨ys,rfl,kb⟩:=p;unfold Nr at hk;simp only[ak,aep]at hk;obtain⟨h1,s,j⟩:=hk;split at h1;{rename_i fs n;(have hf:P.fieldsOf t=fs:=by simp[Program.fieldsOf,n]);(have g:P.underlying t=O (.struct (P.fieldsOf t)):=by rw[hf];exact n);(have get:∀{l:List aS} {zs:Array Value},bl h S w m l zs.toList->∀(i:Nat) c,l[i]? =O c->∃v,zs[0+i]? =O v/\bg h S w m c v:=λ{l zs} k i c hc=>by have hl:=(aeK.1 hc).1;rw[k.1]at hl;refine⟨zs[i]'(by simpa using hl),by rw[afb];simp,k.2.2 i c _ hc (by simp)⟩);have run:=λf=>Ac (P:=P) (h:=h) (S:=S) (w:=w) (m:=m) (d:=9998) fs.toList u 0 a b z h1 q (get r) (get kb) f;(have hg:∀f,(Op.equalIn 10000 t (.agg xs) (.agg ys)).run P f=.ok z f:=λf=>by rw[run_equalIn_agg f 9999 t xs ys g s,hf];exact run f);split at e;{obtain⟨rfl,rfl⟩:=e;refine gC.same M d (v':=.bool z) ?_ (fc _);simp only[Sem.run_bind,run_eqGuard_agg _ _ _ _ _ _ _ j,afg,run_eql_struct,hg]};{obtain⟨rfl,rfl⟩:=e;refine gC.same M d (v':=.bool (!z)) ?_ (fc _);simp only[Sem.run_bind,run_eqGuard_agg _ _ _ _ _ _ _ j,afg,run_neq_struct,hg]};{exact e.elim}};{cases h1}};{exact e.elim}
theorem VW[Tabs](M:Mem h S w m B M0)(d:Nat){xT:TypeId}{tb:Bool}(f:tb=true->dB P xT .bool=true){op:BinOp}{a b:aS}{x y:Value}{ox oy:Operand}{v:aY}{os:aP}(e:(OB tb op a b).gives v os)(g:bg h S w m a x)(i:bg h S w m b y):gC P h S w m B M0 d v os (do eqGuard op xT ox oy x y;binOp op xT x y):=by unfold OB at e;split at e;{rename_i j p t q;obtain⟨rfl,hp⟩:=dx g;obtain⟨rfl,hq⟩:=dx i;cases c:Cv op with|true=>simp only[c,ai]at e;obtain⟨hc,rfl,rfl⟩:=e;(have h0:0<=q:=by simpa using hc);have h1:¬(q<0):=Int.not_lt.mpr h0;refine gC.same M d (v':=.int j (uE op j p q)) ?_ (ij (Ng hp op q));simp only[Sem.run_bind,uU,afg];cases op<;>cases c;{simp[binOp,Op.shift,h1,uE]};{simp[binOp,Op.shift,h1,uE]}|false=>simp only[c,aj]at e;by_cases s:j=t;{subst s;simp only[decide_true,ai]at e;(have red:∀(r:Value),(binOp op xT (.int j p) (.int j q)).run P w=.ok r w->(do eqGuard op xT ox oy (.int j p) (.int j q);binOp op xT (.int j p) (.int j q)).run P w=.ok r w:=by intro r k;simp only[Sem.run_bind,uU,afg,k]);cases op<;>simp only[kH.gives,gJ]at e<;>(try exact e.elim);{obtain⟨rfl,rfl⟩:=e;exact gC.same M d (red _ (by simp[binOp,Op.intArith])) (ij (iq _ _))};{obtain⟨rfl,rfl⟩:=e;exact gC.same M d (red _ (by simp[binOp,Op.intArith])) (ij (iq _ _))};{obtain⟨rfl,rfl⟩:=e;exact gC.same M d (red _ (by simp[binOp,Op.intArith])) (ij (iq _ _))};{obtain⟨hc,rfl,rfl⟩:=e;(have h0:q≠0:=by simpa using hc);exact gC.same M d (red _ (by simp[binOp,Op.intDiv,h0])) (ij (iq _ _))};{obtain⟨hc,rfl,rfl⟩:=e;(have h0:q≠0:=by simpa using hc);exact gC.same M d (red _ (by simp[binOp,Op.intDiv,h0])) (ij (QB hp _))};{obtain⟨rfl,rfl⟩:=e;exact gC.same M d (red _ (by simp[binOp,Op.intBits,vC])) (ij (iq _ _))};{obtain⟨rfl,rfl⟩:=e;exact gC.same M d (red _ (by simp[binOp,Op.intBits,vC])) (ij (iq _ _))};{obtain⟨rfl,rfl⟩:=e;exact gC.same M d (red _ (by simp[binOp,Op.intBits,vC])) (ij (iq _ _))};{obtain⟨rfl,rfl⟩:=e;exact gC.same M d (red _ (by simp[binOp,Op.intBits,vC])) (ij (iq _ _))};{obtain⟨rfl,rfl⟩:=e;exact gC.same M d (red (.bool (ae (p=q))) (by simp[binOp,Op.intCmp];rfl)) (fc _)};{obtain⟨rfl,rfl⟩:=e;exact gC.same M d (red (.bool (!decide (p=q))) (by simp[binOp,Op.intCmp];rfl)) (fc _)};{obtain⟨rfl,rfl⟩:=e;exact gC.same M d (red _ (by simp[binOp,Op.intCmp])) (fc _)};{obtain⟨rfl,rfl⟩:=e;exact gC.same M d (red _ (by simp[binOp,Op.intCmp])) (fc _)};{obtain⟨rfl,rfl⟩:=e;exact gC.same M d (red _ (by simp[binOp,Op.intCmp])) (fc _)};{obtain⟨rfl,rfl⟩:=e;exact gC.same M d (red _ (by simp[binOp,Op.intCmp])) (fc _)}};{simp only[ar s,aj]at e;exact e.elim}};{rename_i p q;obtain rfl:=EX g;obtain rfl:=EX i;split at e;{obtain⟨rfl,rfl⟩:=e;obtain⟨l,n,ho⟩:=fG (f rfl);cases l<;>(try cases ho);exact gC.same M d (by simp only[Sem.run_bind,sF,afg,G6 n]) (fc _)};{obtain⟨rfl,rfl⟩:=e;obtain⟨l,n,ho⟩:=fG (f rfl);cases l<;>(try cases ho);exact gC.same M d (by simp only[Sem.run_bind,sF,afg,Ih n]) (fc _)};{exact e.elim}};{rename_i p q;obtain⟨rfl,hp⟩:=zR g;obtain⟨rfl,hq⟩:=zR i;(have red:∀(r:Value),(Op.stringOp op ⟨⟨p⟩⟩ ⟨⟨q⟩⟩).run P w=.ok r w->(do eqGuard op xT ox oy (.string ⟨⟨p⟩⟩) (.string ⟨⟨q⟩⟩);binOp op xT (.string ⟨⟨p⟩⟩) (.string ⟨⟨q⟩⟩)).run P w=.ok r w:=by intro r k;simp only[Sem.run_bind,xK,afg];(have:binOp op xT (.string ⟨⟨p⟩⟩) (.string ⟨⟨q⟩⟩)=Op.stringOp op ⟨⟨p⟩⟩ ⟨⟨q⟩⟩:=by cases op<;>rfl);rw[this,k]);cases op<;>simp only[kH.gives,gJ]at e<;>(try exact e.elim);{obtain⟨hc,rfl,rfl⟩:=e;(have hl:p.length+q.length<=lim:=by simpa using hc);(have o:¬(((ByteArray.mk ⟨p⟩).size+(ByteArray.mk ⟨q⟩).size:Nat):Int)>IntKind.i64.max:=by(have u:(ByteArray.mk ⟨p⟩).size=p.length:=by simp[ByteArray.size]);(have z:(ByteArray.mk ⟨q⟩).size=q.length:=by simp[ByteArray.size]);(have A:IntKind.i64.max=9223372036854775807:=by decide);rw[u,z,A];unfold lim at hl;omega);refine gC.same M d (v':=.string ⟨⟨p++q⟩⟩) (red _ ?_) (Eh (by unfold lim at hl;unfold maxLen;simp;omega));unfold Op.stringOp;simp only[o,if_false];rw[F8];rfl};{obtain⟨rfl,rfl⟩:=e;refine gC.same M d (v':=.bool (ae (p=q))) (red _ ?_) (fc _);simp only[Op.stringOp,toList_mk,zk,Sem.run_pure]};{obtain⟨rfl,rfl⟩:=e;refine gC.same M d (v':=.bool (!decide (p=q))) (red _ ?_) (fc _);simp only[Op.stringOp,toList_mk,zk,Sem.run_pure]};{obtain⟨rfl,rfl⟩:=e;refine gC.same M d (red _ ?_) (fc _);simp only[Op.stringOp,toList_mk,Sem.run_pure]};{obtain⟨rfl,rfl⟩:=e;refine gC.same M d (red _ ?_) (fc _);simp only[Op.stringOp,toList_mk,zk,Sem.run_pure]};{obtain⟨rfl,rfl⟩:=e;refine gC.same M d (red _ ?_) (fc _);simp only[Op.stringOp,toList_mk,zk,Sem.run_pure]};{obtain⟨rfl,rfl⟩:=e;refine gC.same M d (red _ ?_) (fc _);simp only[Op.stringOp,toList_mk,Sem.run_pure]}};{exact e.elim}
theorem acn[Tabs](M:Mem h S w m B M0)(d:Nat){op:UnOp}{a:aS}{x:Value}{v:aY}{os:aP}(e:(Xg op a).gives v os)(b:bg h S w m a x):gC P h S w m B M0 d v os (Op.unary op x):=by unfold Xg at e;split at e;{obtain⟨rfl,rfl⟩:=e;obtain rfl:=EX b;exact gC.same M d (by simp[Op.unary]) (fc _)};{obtain⟨rfl,rfl⟩:=e;obtain⟨rfl,hx⟩:=dx b;exact gC.same M d (by simp[Op.unary,Op.intArith]) (ij (iq _ _))};{exact e.elim}
end
section
variable {P:Program} {E:Env} {h get:bQ} {S:bu} {w:World} {m:bF} {B:Nat} {M0:bu}
theorem eN(b o n:Nat):(⟨b,o,U⟩:Addr).add n=⟨b,o+n,U⟩:=by unfold Addr.add;split;{rename_i hn;subst hn;rfl};{rfl}
theorem Et:∀{fs:List Field} {u:Ty} {g:Nat},qc P fs u g=true->∀{j off:Nat} {a:Ty},fieldAt u j=O (off,a)->∃f,fs[j]? =O f/\f.offset=g+off/\(∃i,P.info? f.type=O i/\i.size=a.size/\0<a.size)/\∃d,P.underlying f.type=O d/\uz d=a.isAgg
 |[],.unit,_,_,j,_,_,e=>by cases j<;>cases e
 |f::r,.pair a b,g,ok,j,off,c,e=>by simp only[qc,ak]at ok;obtain⟨⟨⟨h1,h⟩,k⟩,m⟩:=ok;cases j with|zero=>simp only[fieldAt,aw,Prod.mk.injEq]at e;obtain⟨rfl,rfl⟩:=e;refine⟨f,rfl,ax h1,?_,?_⟩;{cases hi:P.info? f.type with|none=>rw[hi]at h;cases h|some i=>rw[hi]at h;simp only[ak]at h;exact⟨i,rfl,ax h.1,ae6 h.2⟩};{cases l:P.underlying f.type with|none=>rw[l]at k;cases k|some d=>rw[l]at k;exact⟨d,rfl,by simpa using k⟩}|succ j=>simp only[fieldAt,ay,aw,Prod.mk.injEq]at e;obtain⟨⟨o',c'⟩,n,rfl,rfl⟩:=e;obtain⟨o,k1,k2,k3,p⟩:=Et m n;exact⟨o,by simpa using k1,by omega,k3,p⟩
 |[],.pair _ _,_,ok,_,_,_,_=>by cases ok
 |[],.bool,_,ok,_,_,_,_=>by cases ok
 |[],.int _,_,ok,_,_,_,_=>by cases ok
 |[],.str,_,ok,_,_,_,_=>by cases ok
 |[],.raw,_,ok,_,_,_,_=>by cases ok
 |[],.slice _,_,ok,_,_,_,_=>by cases ok
 |_::_,.unit,_,ok,_,_,_,_=>by cases ok
 |_::_,.bool,_,ok,_,_,_,_=>by cases ok
 |_::_,.int _,_,ok,_,_,_,_=>by cases ok
 |_::_,.str,_,ok,_,_,_,_=>by cases ok
 |_::_,.raw,_,ok,_,_,_,_=>by cases ok
 |_::_,.slice _,_,ok,_,_,_,_=>by cases ok
theorem uP[Tabs]{t:TypeId}{u:Ty}(ht:dB P t u=true)(ha:oG u=false){j:Nat}{p:Nat×Ty}(e:fieldAt u j=O p):∃fs f,P.underlying t=O (.struct fs)/\fs[j]? =O f/\f.offset=p.1/\(∃i,P.info? f.type=O i/\i.size=p.2.size/\0<p.2.size)/\∃d,P.underlying f.type=O d/\uz d=p.2.isAgg:=by obtain⟨d,c,ho⟩:=fG ht;cases u with|pair a b=>cases d<;>(try cases ho)<;>simp only[oB,ak,ha]at ho;{cases ho.2.1};{rename_i fs;obtain⟨f,k1,k2,k3,g⟩:=Et ho.2.2 e;exact⟨fs,f,c,by simpa using k1,by omega,k3,g⟩}|_=>cases j<;>cases e
theorem Eu:∀{u:Ty} {j:Nat} {p:Nat×Ty},fieldAt u j=O p->p.1+p.2.size<=u.size
 |.pair a b,0,p,e=>by simp only[fieldAt,aw]at e;subst e;simp[Ty.size]
 |.pair a b,j+1,p,e=>by simp only[fieldAt,ay,aw]at e;obtain⟨q,c,rfl⟩:=e;have:=Eu c;simp only[Ty.size];omega
 |.unit,j,_,e=>by cases j<;>cases e
 |.bool,j,_,e=>by cases j<;>cases e
 |.int _,j,_,e=>by cases j<;>cases e
 |.str,j,_,e=>by cases j<;>cases e
 |.raw,j,_,e=>by cases j<;>cases e
 |.slice _,j,_,e=>by cases j<;>cases e
theorem F0:∀{u:Ty} {g:List Value} {x:u.den} {j:Nat} {p:Nat×Ty},eY S w u g x->fieldAt u j=O p->∃z:p.2.den,zj u x j=O ⟨p.2,z⟩/\∃f:List Value,(∀(k:Nat) (v:Value),f[k]? =O v->g[p.1+k]? =O v)/\eY S w p.2 f z
 |.pair a b,g,x,0,p,r,e=>by simp only[fieldAt,aw]at e;subst e;obtain⟨c,d,rfl,h1,i⟩:=r;refine⟨x.1,rfl,c,λk v h=> ?_,h1⟩;simp only[afb];rw[aeH (aeK.1 h).1];exact h
 |.pair a b,g,x,j+1,p,r,e=>by simp only[fieldAt,ay,aw]at e;obtain⟨q,l,rfl⟩:=e;obtain⟨c,d,rfl,h1,i⟩:=r;obtain⟨z,k1,f,k2,k3⟩:=F0 i l;refine⟨z,k1,f,λk v h=> ?_,k3⟩;have:=h1.len;rw[aI (by simp;omega)];rw[this];have:=k2 k v h;rw[show a.size+q.1+k-a.size=q.1+k by omega];exact this
 |.unit,_,_,j,_,_,e=>by cases j<;>cases e
 |.bool,_,_,j,_,_,e=>by cases j<;>cases e
 |.int _,_,_,j,_,_,e=>by cases j<;>cases e
 |.str,_,_,j,_,_,e=>by cases j<;>cases e
 |.raw,_,_,j,_,_,e=>by cases j<;>cases e
 |.slice _,_,_,j,_,_,e=>by cases j<;>cases e
theorem jE[Tabs]{t:TypeId}{u:Ty}(ht:dB P t u=true)(a:oG u=false){j:Nat}{p:Nat×Ty}(e:fieldAt u j=O p)(b o:Nat):(Instr.fieldAt t (.pointer (O ⟨b,o,U⟩)) j).run P w=.ok (.pointer (O ⟨b,o+p.1,U⟩)) w:=by obtain⟨fs,f,h1,d,g,⟨i,hi,hs,hp⟩,_⟩:=uP ht a e;(have c:¬i.size=0:=by omega);simp only[Instr.fieldAt,Sem.run_bind,run_underlying h1,afg,d,Instr.sureAddr,Sem.run_pure,fieldPlace,sizeOf,typeInfo,run_program,hi,c,if_false,eN,g]
theorem Jj[Tabs](M:Mem h S w m B M0)(d:Nat){t:TypeId}{u:Ty}(ht:dB P t u=true)(a:oG u=false){j:Nat}{p:Nat×Ty}(e:fieldAt u j=O p){c:aS}{x:Value}(r:bg h S w m c x){v:aY}{os:aP}
    (g:(match c with
      |.op id off=>gJ (.op id (off+p.1))
      |.oe id i off=>gJ (.oe id i (off+p.1))
      |.pc _ x=>match cL u x with
       |some y=>match zj u y j with
        |some q=>gJ (.pc q.1 q.2)
        |none=>.fail
       |none=>.fail
      |_=>.fail:kH).gives v os):gC P h S w m B M0 d v os (Instr.fieldAt t x j):=by
  cases c with
  |op id off=>
   obtain⟨rfl,rfl⟩:=g;obtain⟨ho,c,b,h1,f,rfl⟩:=r;exact gC.same M d (jE ht a e b off) ⟨ho,c,b,h1,f,rfl⟩
  |oe id i off=>
   obtain⟨rfl,rfl⟩:=g;obtain⟨ho,c,q,n,cap,h1,f,rfl⟩:=r;exact gC.same M d (jE ht a e q _) ⟨ho,c,q,n,cap,h1,f,by rw[aeY]⟩
  |pc D y=>
   simp only at g
   cases hc:cL u y with
   |none=>rw[hc]at g;exact g.elim
   |some z=>
    rw[hc]at g;obtain⟨rfl,rfl⟩:=bw hc;obtain⟨b,o,E,rfl,h1,f,s,A⟩:=r;obtain⟨z,k1,l,k2,k3⟩:=F0 A e;simp only[k1]at g;obtain⟨rfl,rfl⟩:=g;refine gC.same M d (jE ht a e b o) ⟨b,o+p.1,l,rfl,h1,f,λk v C=> ?_,k3⟩;have:=s _ _ (k2 k v C);rw[aeY];exact this
  |_=>exact g.elim
theorem vx{t:TypeId}{d:TypeDesc}(a:P.underlying t=O d):(isAgg t).run P w=.ok (uz d) w:=by unfold isAgg;simp only[Sem.run_bind,run_underlying a,afg];cases d<;>rfl
theorem SS[Tabs](M:Mem h S w m B M0)(d:Nat){t:TypeId}{u:Ty}(ht:dB P t u=true)(c:oG u=false){j:Nat}{p:Nat×Ty}(e:fieldAt u j=O p){cs:List aS}{x:Value}(r:bU h S w m (.ag cs) x)(hl:p.1+p.2.size<=cs.length):gC P h S w m B M0 d (valOf p.2.isAgg ((cs.drop p.1).take p.2.size)) [] (Instr.field t x j):=by obtain⟨fs,f,h1,q,o,⟨i,hi,hs,hp⟩,v,s,ha⟩:=uP ht c e;obtain⟨vs,rfl,k⟩:=r;have hlen:=k.1;refine gC.same M d (v':=mN p.2.isAgg ((vs.toList.drop p.1).take p.2.size)) ?_ (mZ ((k.drop p.1).take p.2.size) (lT (n:=p.2.size) (by simp;omega) fq));simp only[Instr.field,Sem.run_bind,run_underlying h1,afg,q,asAgg,Sem.run_pure,part,vx s,ha];cases a:p.2.isAgg with|true=>simp only[if_true,sizeOf,typeInfo,Sem.run_bind,run_program,afg,hi,Sem.run_pure,o,hs,mN];congr 3;apply aej;simp[aem,aeD]|false=>have g:=fq a;(have b:p.1<vs.size:=by simp at hlen;omega);(have l:(vs.toList.drop p.1).take p.2.size=[vs[p.1]]:=by rw[g,aey (by simpa using b)];simp);rw[l];simp[o,b,mN]
theorem ru(k:IntKind)(n:Int):(asIntOf (.int k n)).run P w=.ok (k,n) w:=rfl
theorem fw[Tabs]{t:TypeId}{e:Ty}(ht:dB P t (.slice e)=true):∃te i z,P.underlying t=O (.slice te)/\P.info? te=O i/\i.size=e.size/\0<e.size/\i.zero=O z/\LG e z.cells.toList=O []/\i.bytes<=32768:=by obtain⟨d,c,ho⟩:=fG ht;cases d<;>(try cases ho);rename_i te;simp only[oB]at ho;cases hi:P.info? te with|none=>rw[hi]at ho;cases ho|some i=>rw[hi]at ho;simp only[ak]at ho;obtain⟨⟨⟨⟨h1,f⟩,a⟩,g⟩,_⟩:=ho;unfold Xu at a;cases b:i.zero with|none=>rw[b]at a;cases a|some z=>rw[b]at a;refine⟨te,i,z,c,hi,ax h1,ae6 f,b,?_,ae6 g⟩;simp only at a;split at a;{assumption};{cases a}
theorem D7{α:Type}{xs:List α}{n:Int}{x:α}(e:idx xs n=O x):0<=n/\n<xs.length/\xs[n.toNat]? =O x:=by unfold idx at e;split at e;{cases e};{have:=(aeK.1 e).1;exact⟨by omega,by omega,e⟩}
theorem oh[Tabs]{t:TypeId}{e:Ty}(ht:dB P t (.slice e)=true){b o len cap:Nat}{k:IntKind}{n:Int}(h0:0<=n)(h1:n<len):(Instr.indexAt t (.slice (O ⟨b,o,U⟩) len cap) (.int k n)).run P w=.ok (.pointer (O ⟨b,o+n.toNat*e.size,U⟩)) w:=by obtain⟨te,i,z,hu,hi,hs,_⟩:=fw ht;simp only[Instr.indexAt,Sem.run_bind,ru,afg,run_underlying hu,Sem.run_pure];simp[h0,h1,sizeOf,typeInfo,hi,hs,eN]
theorem L6[Tabs]{t:TypeId}{u:Ty}{p:Nat×Ty}(ht:dB P t u=true)(hp:qW u=O p):∃te i,P.underlying t=O (.array p.1 te)/\P.info? te=O i/\i.size=p.2.size/\∃d,P.underlying te=O d/\uz d=p.2.isAgg:=by obtain⟨d,a,ho⟩:=fG ht;(have hu:oG u=true:=by unfold qW at hp;split at hp;{rfl};{cases hp});cases d;(case array n te=>simp only[oB,ak,hu,hp]at ho;refine⟨te,?_⟩;cases hi:P.info? te with|none=>rw[hi]at ho;cases ho.2.2|some i=>rw[hi]at ho;simp only[ak]at ho;refine⟨i,by rw[a,ax ho.2.2.1],rfl,ax ho.2.2.2.1,?_⟩;have b:=ho.2.2.2.2;split at b;{rename_i d a;exact⟨d,a,of_decide_eq_true b⟩};{cases b});(case struct fs=>simp only[oB,ak,hu]at ho;cases ho.2.1);all_goals (cases u<;>first|cases hu|cases ho)
theorem yK[Tabs]{t:TypeId}{u:Ty}{p:Nat×Ty}(ht:dB P t u=true)(hp:qW u=O p){b o:Nat}{k:IntKind}{n:Int}(h0:0<=n)(h1:n<p.1):(Instr.indexAt t (.pointer (O ⟨b,o,U⟩)) (.int k n)).run P w=.ok (.pointer (O ⟨b,o+n.toNat*p.2.size,U⟩)) w:=by obtain⟨te,i,hu,hi,hs,_⟩:=L6 ht hp;simp only[Instr.indexAt,Sem.run_bind,ru,afg,run_underlying hu,Sem.run_pure,Instr.sureAddr];simp[h0,h1,sizeOf,typeInfo,hi,hs,eN]
theorem KD[Tabs]{t:TypeId}{u:Ty}{p:Nat×Ty}(ht:dB P t u=true)(hp:qW u=O p){vs:Array Value}{k:IntKind}{j:Nat}(g:j<p.1)(hl:j*p.2.size+p.2.size<=vs.size):(Instr.index t (.agg vs) (.int k (j:Int))).run P w=.ok (mN p.2.isAgg ((vs.toList.drop (j*p.2.size)).take p.2.size)) w:=by obtain⟨te,i,hu,hi,hs,d,f,ha⟩:=L6 ht hp;simp only[Instr.index,Sem.run_bind,ru,afg,run_underlying hu];have hc:(0:Int)<=(j:Int)/\(j:Int)<(p.1:Int):=⟨by omega,by omega⟩;rw[aN hc];simp only[aK,sizeOf,typeInfo,Sem.run_bind,run_program,afg,hi,Sem.run_pure,hs,part,vx f,ha];cases b:p.2.isAgg with|true=>simp only[if_true,Sem.run_bind,run_program,afg,hi,Sem.run_pure,hs,mN];congr 3;apply aej;simp[aem,aeD]|false=>have c:=fq b;rw[c]at hl⊢;(have a:j*1<vs.size:=by omega);(have e:(vs.toList.drop (j*1)).take 1=[vs[j*1]]:=by rw[aey (by simpa using a)];simp);rw[e];simp at a;simp[a,mN]
theorem JN[Tabs](M:Mem h S w m B M0)(d:Nat){a:TypeId}{u:Ty}{p:Nat×Ty}(ht:dB P a u=true)(hp:qW u=O p){id off:Nat}{x:Value}(r:bg h S w m (.op id off) x){k:IntKind}{n:Int}(h0:0<=n)(h1:n<p.1):gC P h S w m B M0 d (.one (.op id (off+n.toNat*p.2.size))) [] (Instr.indexAt a x (.int k n)):=by obtain⟨ho,c,b,e,f,rfl⟩:=r;exact gC.same M d (yK ht hp h0 h1) ⟨ho,c,b,e,f,rfl⟩
theorem KR[Tabs](M:Mem h S w m B M0)(d:Nat){l:TypeId}{t:Ty}(ht:dB P l (.slice t)=true){xs:List t.den}{x:Value}(r:bg h S w m (.pv (.slice t) xs) x){k:IntKind}{n:Int}{e:t.den}(he:idx xs n=O e):gC P h S w m B M0 d (.one (.pc t e)) [] (Instr.indexAt l x (.int k n)):=by obtain⟨h0,h1,j⟩:=D7 he;obtain⟨_,hl,p⟩:=r;rcases p with ⟨_,rfl⟩|⟨a,cap,hx,hc,q,c⟩;{simp at h1;omega};{simp only[List.cons.injEq,and_true]at hx;subst hx;(obtain⟨f,g,i⟩:=q.resolve_left λh=>by rw[h]at j;simp at j);obtain⟨b,o,sp⟩:=a;simp only at f g i c;subst f;obtain⟨s,k1,k2,k3⟩:=c _ _ j;exact gC.same M d (oh ht h0 h1) ⟨b,_,s,rfl,g,i,k2,k3⟩}
theorem Ln[Tabs](M:Mem h S w m B M0)(d:Nat){b:TypeId}{t:Ty}(ht:dB P b (.slice t)=true){id:Nat}{e:Bool}{xs:List t.den}{x:Value}(r:bg h S w m (.os id) x)(ho:h id=O (.arr e t xs)){k:IntKind}{n:Int}(h0:0<=n)(h1:n<xs.length):gC P h S w m B M0 d (.one (.oe id n.toNat 0)) [] (Instr.indexAt b x (.int k n)):=by obtain⟨_,c,hc,rfl⟩:=r;obtain⟨c',a,he,i⟩:=M.obj id _ ho;obtain rfl:c'=c:=aA (a.symm.trans hc);rcases i with ⟨_,rfl,_⟩|⟨g,cap,cur,te,Fs,f,_⟩;{simp at h1;omega};{rw[f];exact gC.same M d (oh ht h0 h1) ⟨⟨e,t,xs,ho,by omega⟩,c',g,xs.length,cap,hc,f,by rw[he];simp⟩}
theorem Io[Tabs](M:Mem h S w m B M0)(d:Nat){b:TypeId}{t:Ty}(ht:dB P b (.slice t)=true){id q:Nat}{xs:List t.den}{x:Value}(r:bg h S w m (.vw id .all) x)(ho:h id=O (.src t q xs)){k:IntKind}{n:Int}(h0:0<=n)(h1:n<xs.length):gC P h S w m B M0 d (.one (.vw id (.el n.toNat))) [] (Instr.indexAt b x (.int k n)):=by obtain⟨_,_,_,c,hc,_,rfl⟩:=r;obtain⟨c',a,he,f⟩:=M.obj id _ ho;obtain rfl:c'=c:=aA (a.symm.trans hc);rcases f with ⟨_,rfl,_⟩|⟨g,cap,cur,te,Fs,e,_⟩;{simp at h1;omega};{rw[e];exact gC.same M d (oh ht h0 h1) ⟨_,ho,rfl,c',hc,t,q,xs,rfl,by omega,g,xs.length,cap,e,by simp⟩}
theorem Lc[Tabs](M:Mem h S w m B M0)(d:Nat){f:TypeId}{t:Ty}(ht:dB P f (.slice t)=true){id i off:Nat}{e:Ty}{y:e.den}{z:List t.den}{x:Value}(r:bg h S w m (.sb id i off e y) x)(hf:(flat e y)[off]? =O (.pv (.slice t) z)){k:IntKind}{n:Int}(h0:0<=n)(h1:n<z.length):gC P h S w m B M0 d (.one (.vw id (.Kv i off e y n.toNat))) [] (Instr.indexAt f x (.int k n)):=by obtain⟨xs,u,E,c,g,cap,F,l,p,j,q,s,v,⟨v',A,C⟩,G⟩:=Mx M r;rw[hf]at j;cases j;cases A;rcases C with ⟨_,rfl,_⟩|⟨g2,a,cur,te,Fs,rfl,_⟩;{simp at h1;omega};{(have D:(Instr.indexAt f (.slice (O ⟨g2,0,U⟩) z.length a) (.int k n)).run P w=.ok (.pointer (O ⟨g2,n.toNat*t.size,U⟩)) w:=by have:=oh (P:=P) (w:=w) ht (b:=g2) (o:=0) (len:=z.length) (cap:=a) (k:=k) h0 h1;rwa [afb]at this);exact gC.same M d D ⟨_,l,rfl,c,q,xs,t,z,rfl,p,hf,by omega,g,xs.length,cap,g2,_,a,s,v,rfl⟩}
theorem I5[Tabs](M:Mem h S w m B M0)(d:Nat){e:TypeId}(ht:dB P e .str=true){xs:Bytes}{x:Value}(r:bg h S w m (.pv .str xs) x){k:IntKind}{n:Int}{b:UInt8}(he:idx xs n=O b):gC P h S w m B M0 d (.one (.pv (.int .u8) (b.toNat:Int))) [] (Instr.index e x (.int k n)):=by obtain⟨h0,h1,f⟩:=D7 he;obtain⟨rfl,_⟩:=zR r;obtain⟨g,i,ho⟩:=fG ht;cases g<;>(try cases ho);(have j:(ByteArray.mk ⟨xs⟩)[n.toNat]? =O b:=by have c:=(aeK.1 f).1;(have a:n.toNat<(ByteArray.mk ⟨xs⟩).size:=by simpa[ByteArray.size]using c);rw[getElem?_pos (ByteArray.mk ⟨xs⟩) n.toNat a];have:=(aeK.1 f).2;simp only[aw];rw[<-this];rfl);refine gC.same M d (v':=.int .u8 b.toNat) ?_ (ij ?_);{simp only[Instr.index,Sem.run_bind,ru,afg,run_underlying i,h0,if_true,j,Sem.run_pure]};{rw[zN];have:=b.toNat_lt;(have l:IntKind.u8.min=0:=by decide);(have o:IntKind.u8.max=255:=by decide);rw[l,o];omega}
theorem EA{α:Type}{xs ys:List α}{l r:Int}(e:sub xs l r=O ys):0<=l/\l<=r/\r<=xs.length/\ys=(xs.take r.toNat).drop l.toNat:=by unfold sub at e;split at e;{rename_i hc;simp only[aw]at e;exact⟨hc.1,hc.2.1,hc.2.2,e.symm⟩};{cases e}
theorem jA{k:IntKind}{n:Int}{y:Nat}{code:BoundsCode}(h0:0<=n)(h1:n<=y):(Instr.sliceBound (.int k n) y code).run P w=.ok n.toNat w:=by simp[Instr.sliceBound,asIntOf,h0,h1]
def kS(o:Option Value)(dflt n:Int):Prop:=
  match o with
  |none=>n=dflt
  |some v=>v=.int .i64 n
theorem fL[Tabs]{s:Bool}{len cap:Nat}{lo hi:Option Value}{l r:Int}(hl:kS lo 0 l)(a:kS hi len r)(h0:0<=l)(h1:l<=r)(d:r<=len)(hc:len<=cap):(Instr.sliceBounds s len cap lo hi U).run P w=.ok (l.toNat,r.toNat,cap) w:=by cases hi with|none=>have e:r=len:=a;subst e;(cases lo with|none=>have e:l=0:=hl;subst e;simp[Instr.sliceBounds]|some v=>have e:v=.int .i64 l:=hl;subst e;simp[Instr.sliceBounds,jA h0 h1])|some u=>have e:u=.int .i64 r:=a;subst e;(have b:r<=(cap:Int):=by omega);cases lo with|none=>have e:l=0:=hl;subst e;simp[Instr.sliceBounds,jA (aet h0 h1) b]|some v=>have e:v=.int .i64 l:=hl;subst e;(have c:l<=(r.toNat:Int):=by omega);simp[Instr.sliceBounds,jA (aet h0 h1) b,jA h0 c]
theorem LB[Tabs](M:Mem h S w m B M0)(d:Nat){s:TypeId}{t:Ty}(ht:dB P s (.slice t)=true){xs ys:List t.den}{x:Value}(r:bg h S w m (.pv (.slice t) xs) x){lo hi:Option Value}{l q:Int}(hl:kS lo 0 l)(hq:kS hi xs.length q)(hs:sub xs l q=O ys):gC P h S w m B M0 d (.one (.pv (.slice t) ys)) [] (Instr.sliceAt s x lo hi U):=by obtain⟨h0,h1,u,rfl⟩:=EA hs;obtain⟨te,i,z,hu,f,p,_⟩:=fw ht;obtain⟨_,hlen,y⟩:=r;rcases y with ⟨hx,rfl⟩|⟨a,cap,hx,hc,v,g⟩;{simp only[List.cons.injEq,and_true]at hx;subst hx;simp only[aeR]at u hq;(obtain rfl:q=0:=by omega);(obtain rfl:l=0:=by omega);refine gC.same M d (v':=.slice U 0 0) ?_ ⟨rfl,by simp,.inl ⟨rfl,by simp⟩⟩;simp only[Instr.sliceAt,Sem.run_bind,run_underlying hu,afg,Instr.slice,fL hl hq (aes _) (aes _) (by simp) (aB _),sizeOf,typeInfo,run_program,f,Sem.run_pure];rfl};{simp only[List.cons.injEq,and_true]at hx;subst hx;(have c:((xs.take q.toNat).drop l.toNat).length=q.toNat-l.toNat:=by simp;omega);refine gC.same M d (v':=.slice (if cap=l.toNat then O a else O (a.add (l.toNat*t.size))) (q.toNat-l.toNat) (cap-l.toNat)) ?_ ⟨rfl,by rw[c];omega,.inr ?_⟩;{simp only[Instr.sliceAt,Sem.run_bind,run_underlying hu,afg,Instr.slice,fL hl hq h0 h1 u hc.1,sizeOf,typeInfo,run_program,f,Sem.run_pure,p,aff]};{refine⟨if cap=l.toNat then a else a.add (l.toNat*t.size),cap-l.toNat,?_,⟨by rw[c];omega,by omega⟩,?_,λj e k=> ?_⟩;{rw[c];split<;>rfl};{refine v.imp (λh=>by rw[h];simp) λh=> ?_;obtain⟨b,o,sp⟩:=a;obtain⟨k1,k2⟩:=h;simp only at k1;subst k1;split;{exact⟨rfl,k2⟩};{rw[eN];exact⟨rfl,k2⟩}};{(have A:j<q.toNat-l.toNat:=by rw[<-c];exact(aeK.1 k).1);rw[aM (by omega)];rw[aeJ,aeM,aN (by omega)]at k;(obtain⟨n,_⟩:=v.resolve_left λh=>by rw[h]at k;simp at k);obtain⟨b,o,sp⟩:=a;simp only at n g;subst n;rw[eN];obtain⟨C,k1,k2,k3⟩:=g _ _ k;refine⟨C,k1,?_,k3⟩;simp only;rw[show o+l.toNat*t.size+j*t.size=o+(l.toNat+j)*t.size by rw[ae0];omega];exact k2}}}
theorem G5[Tabs](M:Mem h S w m B M0)(g:B<=w.heap.size){d:Nat}(b:∀id,d*16<=id->id<=d*16+15->h id=U){c:TypeId}{t:Ty}(ht:dB P c (.slice t)=true){xs:List t.den}{x:Value}(r:bg h S w m (.pv (.slice t) xs) x){lo:Option Value}(hl:kS lo 0 0):gC P h S w m B M0 d (.one (.os (d*16))) [(d*16,.arr true t [])] (Instr.sliceAt c x lo (O (.int .i64 0)) (O (.int .i64 0))):=by obtain⟨te,i,z,hu,f,j,_⟩:=fw ht;obtain⟨_,hlen,k⟩:=r;(have bounds:∀(len cap:Nat),(Instr.sliceBounds true len cap lo (O (.int .i64 0)) (O (.int .i64 0))).run P w=.ok (0,0,0) w:=λlen cap=>by cases lo with|none=>simp[Instr.sliceBounds,Instr.sliceBound,asIntOf]|some v=>have e:v=.int .i64 0:=hl;subst e;simp[Instr.sliceBounds,Instr.sliceBound,asIntOf]);(have fin:∀(o:Option Addr) (len cap:Nat),x=.slice o len cap->gC P h S w m B M0 d (.one (.os (d*16))) [(d*16,.arr true t [])] (Instr.sliceAt c x lo (O (.int .i64 0)) (O (.int .i64 0))):=λo len cap hx=>by subst hx;refine⟨_,w,S,_,?_,fP.empty M g b t o⟩;simp only[Instr.sliceAt,Sem.run_bind,run_underlying hu,afg,Instr.slice,bounds,sizeOf,typeInfo,run_program,f,Sem.run_pure];rfl);rcases k with ⟨hx,_⟩|⟨a,cap,hx,_⟩;{simp only[List.cons.injEq,and_true]at hx;exact fin _ _ _ hx};{simp only[List.cons.injEq,and_true]at hx;exact fin _ _ _ hx}
theorem extract_mk(xs:Bytes)(a b:Nat):(ByteArray.mk ⟨xs⟩).extract a b=ByteArray.mk ⟨(xs.take b).drop a⟩:=by apply ByteArray.ext;apply aej;simp[ByteArray.data_extract,aeD,aeA]
theorem IK[Tabs](M:Mem h S w m B M0)(d:Nat){b:TypeId}(ht:dB P b .str=true){xs ys:Bytes}{x:Value}(r:bg h S w m (.pv .str xs) x){lo hi:Option Value}{l q:Int}(hl:kS lo 0 l)(hq:kS hi xs.length q)(hs:sub xs l q=O ys):gC P h S w m B M0 d (.one (.pv .str ys)) [] (Instr.sliceAt b x lo hi U):=by obtain⟨h0,h1,c,rfl⟩:=EA hs;obtain⟨e,f,ho⟩:=fG ht;cases e<;>(try cases ho);obtain⟨rfl,hlen⟩:=zR r;(have a:(ByteArray.mk ⟨xs⟩).size=xs.length:=by simp[ByteArray.size]);refine gC.same M d (v':=.string ⟨⟨(xs.take q.toNat).drop l.toNat⟩⟩) ?_ (Eh (by simp;omega));simp only[Instr.sliceAt,Sem.run_bind,run_underlying f,afg,Instr.slice,afe,aen,if_false,a,fL hl hq h0 h1 c (aB _),Sem.run_pure,extract_mk]
theorem Gq[Tabs]{n:Nat}(hn:n<=maxLen):bU h S w m (.one (.pv (.int .i64) (n:Int))) (goInt n):=by refine ij ?_;rw[zN];(have a:IntKind.i64.min= -9223372036854775808:=by decide);(have b:IntKind.i64.max=9223372036854775807:=by decide);rw[a,b];unfold maxLen at hn;omega
theorem Si{d:Bool}{e:Ty}{xs:List e.den}{c:OC}(r:iP h S w m (.arr d e xs) c):xs.length<=maxLen/\∃a cap,c.v=.slice a xs.length cap:=by rcases r.2 with ⟨⟨a,b⟩,rfl,_⟩|⟨g,cap,cur,te,Fs,b,_,_,f,i,_⟩;{exact⟨afc _,a,0,b⟩};{exact⟨by omega,_,cap,b⟩}
theorem Oc{get:bQ}{id i off:Nat}{e:Ty}{y:e.den}{u:Ty}{z:List u.den}(hf:(flat e y)[off]? =O (.pv (.slice u) z)):cC get (.slice u) (.sb id i off e y)=O z:=by simp only[cC,hf];simp[cL]
theorem W5[Tabs](M:Mem h S w m B M0)(hg:∀id o,get id=O o->h id≠U->h id=O o)(d:Nat){t:TypeId}{ty:TypeId}{u:Ty}(ht:dB P t u=true){c:aS}{x:Value}(r:bg h S w m c x){n:Int}(e:TI get u c=O n):gC P h S w m B M0 d (.one (.pv (.int .i64) n)) [] (Builtin.len_ #[t] ty #[x]):=by obtain⟨C,D,ho⟩:=fG ht;(have slice:∀(q:Ty),u=.slice q->∀a k cap,x=.slice a k cap->(k:Int)=n->k<=maxLen->gC P h S w m B M0 d (.one (.pv (.int .i64) n)) [] (Builtin.len_ #[t] ty #[x]):=by intro q hu a k cap hx hk hm;subst hu;subst hx;subst hk;cases C<;>(try cases ho);exact gC.same M d (by simp[Builtin.len_,run_underlying D]) (Gq hm));unfold TI at e;split at e;{simp only[aw]at e;subst e;obtain⟨rfl,hl⟩:=zR r;cases C<;>(try cases ho);rename_i p;(have s:(ByteArray.mk ⟨p⟩).size=p.length:=by simp[ByteArray.size]);exact gC.same M d (v':=goInt p.length) (by simp[Builtin.len_,run_underlying D,s]) (Gq hl)};{simp only[aw]at e;obtain⟨_,hl,j⟩:=r;rcases j with ⟨hx,b⟩|⟨a,cap,hx,_⟩;{simp only[List.cons.injEq,and_true]at hx;exact slice _ rfl U 0 0 hx (by rw[<-e,b];rfl) (afc _)};{simp only[List.cons.injEq,and_true]at hx;exact slice _ rfl _ _ _ hx e hl}};{simp only[aw]at e;obtain⟨o,r⟩:∃o:Option Addr,x=.slice o 0 0:=r;exact slice _ rfl o 0 0 r (by rw[<-e];rfl) (afc _)};{rename_i id;obtain⟨⟨d',F,xs,f⟩,c,hc,rfl⟩:=r;cases g:get id with|none=>rw[g]at e;cases e|some o=>have:=hg id o g (bn f);rw[f]at this;cases this;rw[g]at e;simp only[aw]at e;obtain⟨c',A,j⟩:=M.obj id _ f;obtain rfl:c'=c:=aA (A.symm.trans hc);obtain⟨hl,a,cap,E⟩:=Si j;exact slice _ rfl _ _ _ E e hl};{rename_i id i off q y;split at e;{rename_i z hf;simp only[aw]at e;have l:=eP (get:=h) M (λ_ _ e _=>e) (v:=x) rfl (Oc hf) r;obtain⟨hl,j⟩:=l;rcases j with ⟨hx,b⟩|⟨a,cap,hx,_⟩;{simp only[List.cons.injEq,and_true]at hx;exact slice _ rfl U 0 0 hx (by rw[<-e,b];rfl) (afc _)};{simp only[List.cons.injEq,and_true]at hx;exact slice _ rfl _ _ _ hx e hl}};{cases e}};{cases e}
theorem WE[Tabs](M:Mem h S w m B M0)(d:Nat){ts:Array TypeId}{ty:TypeId}{j:IntKind}{x y:Int}(hx:CC j x)(a:CC j y):gC P h S w m B M0 d (.one (.pv (.int j) (bif ae (y<x)then y else x))) [] (Builtin.min_ ts ty #[.int j x,.int j y]):=by refine gC.same M d (v':=.int j (if y<x then y else x)) (by simp[Builtin.min_,Builtin.min2]) ?_;(have:(bif ae (y<x)then y else x)=if y<x then y else x:=by by_cases e:y<x<;>simp[e]);rw[this];exact ij (by split<;>assumption)
theorem Xk[Tabs](M:Mem h S w m B M0)(d:Nat){ts:Array TypeId}{ty:TypeId}{j:IntKind}{x y:Int}(hx:CC j x)(a:CC j y):gC P h S w m B M0 d (.one (.pv (.int j) (bif ae (x<y)then y else x))) [] (Builtin.max_ ts ty #[.int j x,.int j y]):=by refine gC.same M d (v':=.int j (if x<y then y else x)) (by simp[Builtin.max_,Builtin.max2]) ?_;(have:(bif ae (x<y)then y else x)=if x<y then y else x:=by by_cases e:x<y<;>simp[e]);rw[this];exact ij (by split<;>assumption)
theorem OO[Tabs](M:Mem h S w m B M0)(d:Nat){l:List (Bool×List aS)}{x:Value}(r:bU h S w m (.tu l) x){i:Nat}{p:Bool×List aS}(hi:l[i]? =O p):gC P h S w m B M0 d (valOf p.1 p.2) [] (Instr.extract x i):=by obtain⟨vs,rfl,hn,f⟩:=r;(have a:i<vs.size:=by rw[hn];exact(aeK.1 hi).1);have h1:=f i p vs[i] hi (by simp[a]);refine gC.same M d (v':=vs[i]) (by simp[Instr.extract,a]) ?_;obtain⟨b,cs⟩:=p;cases b with|true=>exact h1|false=>obtain⟨c,e,h1⟩:=h1;subst e;exact h1
theorem LY[Tabs](M:Mem h S w m B M0){p:TypeId}{t:Ty}(ht:dB P p (.slice t)=true){id:Nat}{d:Bool}{xs:List t.den}(ho:h id=O (.arr d t xs)){x:Value}(r:bg h S w m (.os id) x){lo hi:Option Value}{l q:Int}(hl:kS lo 0 l)(hq:kS hi xs.length q)(h0:0<=l)(h1:l<=q)(k:q<=(xs.length:Int)):∃v',(∀j,(Instr.sliceAt p x lo hi U).run P j=.ok v' j)/\bg h S w m (.vw id (.win l.toNat q.toNat)) v':=by obtain⟨te,i,z,hu,b,n,_⟩:=fw ht;obtain⟨_,c,hm,rfl⟩:=r;obtain⟨c1,o,_,s⟩:=M.obj id _ ho;obtain rfl:c1=c:=aA (o.symm.trans hm);rcases s with ⟨⟨a,e⟩,f,_⟩|⟨g,cap,cur,u,Fs,k1,_,_,v,_⟩;{rw[f]at hq k;simp only[aeR]at hq k;(obtain rfl:q=0:=by omega);(obtain rfl:l=0:=by omega);refine⟨.slice a 0 0,λj=> ?_,_,ho,rfl,c1,hm,d,t,xs,rfl,aB _,afc _,.inl ⟨a,e,rfl,f⟩⟩;rw[e];simp only[Instr.sliceAt,Sem.run_bind,run_underlying hu,afg,Instr.slice,fL hl hq (aes _) (aes _) (by simp) (aB _),sizeOf,typeInfo,run_program,b,Sem.run_pure];cases a<;>simp};{refine⟨.slice (if cap=l.toNat then O ⟨g,0,U⟩else O ((⟨g,0,U⟩:Addr).add (l.toNat*t.size))) (q.toNat-l.toNat) (cap-l.toNat),λj=> ?_,_,ho,rfl,c1,hm,d,t,xs,rfl,by omega,by omega,.inr ⟨g,cap,if cap=l.toNat then⟨g,0,U⟩else(⟨g,0,U⟩:Addr).add (l.toNat*t.size),k1,?_,λh=> ?_⟩⟩;{rw[k1];simp only[Instr.sliceAt,Sem.run_bind,run_underlying hu,afg,Instr.slice,fL hl hq h0 h1 k v,sizeOf,typeInfo,run_program,b,Sem.run_pure,n,aff]};{split<;>rfl};{rw[aM h,eN,afb]}}
end
section
variable {P:Program} {E:Env} {h get:bQ} {S:bu} {w:World} {m:bF} {B:Nat} {M0:bu}
theorem Gr:∀(l:List Value) (k:Nat) (arr:Array Value) (off:Nat),off+k+l.length<=arr.size->((l.zipIdx k).foldl (λcs p=>cs.setIfInBounds (off+p.2) p.1) arr).toList=arr.toList.take (off+k)++l++arr.toList.drop (off+k+l.length)
 |[],k,arr,off,_=>by simp
 |v::l,k,arr,off,hl=>by simp only[aeQ]at hl;simp only[List.zipIdx_cons,aeG];rw[Gr l (k+1) _ off (by simp;omega)];have e:=list_seg_step arr.toList (off+k) v l (by simp;omega);simp only[Array.toList_setIfInBounds,aeQ];simpa[aeY,aeZ 1]using e
theorem Bj[Tabs](vs:Array Value)(arr:Array Value)(off:Nat)(hl:off+vs.size<=arr.size):(vs.zipIdx.foldl (λcs (c,j)=>cs.setIfInBounds (off+j) c) arr).toList=arr.toList.take off++vs.toList++arr.toList.drop (off+vs.size):=by have:=Gr vs.toList 0 arr off (by simpa using hl);simp only[ae1,az]at this;rw[<-this,<-Array.foldl_toList,Array.toList_zipIdx]
theorem bl.splice[Tabs]{cs a:List aS}{vs us:List Value}(r:bl h S w m cs vs)(k:bl h S w m a us)(off:Nat):bl h S w m (Ab.splice cs off a) (vs.take off++us++vs.drop (off+us.length)):=by unfold Ab.splice;rw[k.1];exact((r.take off).append k).append (r.drop _)
theorem Fe{cs a:List aS}{off:Nat}(hl:off+a.length<=cs.length):(splice cs off a).length=cs.length:=by unfold splice;simp;omega
theorem E0[Tabs](M:Mem h S w m B M0){u:Ty}{place:Nat->Option (Nat×Nat)}(hp:∀i p,fieldAt u i=O p->place i=O (p.1,p.2.size)):∀(l:List (Nat×aY)) (vl:List (Nat×Value)) (cs d:List aS) (arr:Array Value),gL u cs l=O d->bl h S w m cs arr.toList->cs.length=u.size->l.length=vl.length->(∀(k i:Nat) (a:aY),l[k]? =O (i,a)->∃v,vl[k]? =O (i,v)/\bU h S w m a v)->∃b,Instr.fill place arr vl=O b/\bl h S w m d b.toList/\d.length=u.size
 |[],vl,cs,d,arr,e,r,hl,hn,_=>by cases vl with|cons _ _=>cases hn|nil=>simp only[gL,aw]at e;subst e;exact⟨arr,rfl,r,hl⟩
 |(i,a)::l,vl,cs,d,arr,e,r,hl,hn,s=>by cases vl with|nil=>cases hn|cons p vl=>obtain⟨v,g,x⟩:=s 0 i a rfl;simp only[aeI,aw]at g;subst g;simp only[gL]at e;cases hf:fieldAt u i with|none=>rw[hf]at e;cases e|some q=>obtain⟨off,c⟩:=q;rw[hf]at e;simp only at e;cases n:(a.iD&&ae2 a.cells.length c.size)with|false=>rw[n]at e;cases e|true=>rw[n]at e;simp only[ai]at e;rw[ak]at n;have y:=ax n.2;have hc:=x.cells n.1 M;have hle:=Eu hf;simp only at hle;(have o:v.cells.size=c.size:=by have:=hc.1;simp at this;omega);(have t:arr.size=u.size:=by have:=r.1;simp at this;omega);have f:=Bj v.cells arr off (by omega);(have r2:bl h S w m (splice cs off a.cells) (v.cells.zipIdx.foldl (λcs (c,j)=>cs.setIfInBounds (off+j) c) arr).toList:=by rw[f];have:=r.splice hc off;simpa using this);obtain⟨b,h1,z,A⟩:=E0 M hp l vl _ d _ e r2 (by rw[Fe (by omega)];exact hl) (by simpa using hn) (λk i a hk=>by have:=s (k+1) i a (by simpa using hk);simpa using this);refine⟨b,?_,z,A⟩;unfold Instr.fill;simp only[hp i _ hf,o];(have:¬(off+c.size>arr.size):=by omega);simp only[ne_eq,not_true_eq_false,decide_false,aeo,this];exact h1
theorem xD{α β:Type}{f:α->Sem β}{g:α->β}:∀(l:List α),(∀x∈l,(f x).run P w=.ok (g x) w)->(l.mapM f).run P w=.ok (l.map g) w
 |[],_=>by simp
 |x::l,hx=>by simp only[List.mapM_cons,Sem.run_bind,hx x (by simp),afg,xD l (λy a=>hx y (by simp[a])),Sem.run_pure,aeS]
theorem DF:∀{fs:List Field} {u:Ty} {c:Nat},qc P fs u c=true->∀f∈fs,∃i,P.info? f.type=O i
 |[],_,_,_,f,hf=>by cases hf
 |f::r,.pair a b,c,ok,g,hg=>by simp only[qc,ak]at ok;obtain⟨⟨⟨h1,d⟩,h⟩,e⟩:=ok;rcases aeT.1 hg with rfl|hg;{cases hi:P.info? g.type with|none=>rw[hi]at d;cases d|some i=>exact⟨i,rfl⟩};{exact DF e g hg}
 |_::_,.unit,_,ok,_,_=>by cases ok
 |_::_,.bool,_,ok,_,_=>by cases ok
 |_::_,.int _,_,ok,_,_=>by cases ok
 |_::_,.str,_,ok,_,_=>by cases ok
 |_::_,.raw,_,ok,_,_=>by cases ok
 |_::_,.slice _,_,ok,_,_=>by cases ok
theorem GK[Tabs](M:Mem h S w m B M0){t:TypeId}{u:Ty}(ht:dB P t u=true)(x:oG u=false)(ha:u.isAgg=true){l:List (Nat×aY)}{vl:Array (Nat×Value)}{cs:List aS}(e:gL u (fN u) l=O cs)(hn:l.length=vl.size)(G:∀(k i:Nat) (a:aY),l[k]? =O (i,a)->∃v,vl[k]? =O (i,v)/\bU h S w m a v):∃v',(∀y,(Instr.build t vl).run P y=.ok v' y)/\bU h S w m (.ag cs) v':=by obtain⟨z,H,j⟩:=Iu ht;obtain⟨E,I,ho⟩:=fG ht;(have A:∃fs,E=.struct fs/\qc P fs.toList u 0=true:=by cases u<;>(try cases ha)<;>cases E<;>(try cases ho)<;>(simp only[oB,ak,x]at ho;first|exact⟨_,rfl,ho.2.2⟩|cases ho.2.1));obtain⟨fs,rfl,n⟩:=A;obtain⟨p,hp,d,_⟩:=fp (S:=S) (w:=w) (h:=h) (m:=m) u _ _ j;rw[aew]at hp;rw[<-hp]at d;(have C:(fN u).length=u.size:=by have:=d.1;obtain⟨i,L,hi,hs,J,hc⟩:=AE ht;obtain⟨N,o,F,r,_⟩:=fp (S:=S) (w:=w) (h:=h) (m:=m) u _ _ j;rw[aew]at o;have s:=r.len;rw[<-o]at s;omega);(have b:∀w,(fs.mapM λf=>(do pure (f.offset,<-sizeOf f.type):Sem (Nat×Nat))).run P w=.ok (fs.map λf=>(f.offset,((P.info? f.type).map (·.size)).getD 0)) w:=λw=>by rw[Array.mapM_eq_mapM_toList];simp only[Sem.run_map];rw[xD (g:=λf=>(f.offset,((P.info? f.type).map (·.size)).getD 0)) fs.toList (λf hf=>by obtain⟨i,hi⟩:=DF n f hf;simp[sizeOf,typeInfo,hi])];simp only[afg];congr 1;apply aej;simp);obtain⟨c,h1,s,Q⟩:=E0 M (u:=u) (place:=λi=>(fs.map λf=>(f.offset,((P.info? f.type).map (·.size)).getD 0))[i]?) (λi q hq=>by obtain⟨f,k1,k2,⟨R,k3,K,_⟩,_⟩:=Et n hq;(have D:fs[i]? =O f:=by simpa using k1);simp[D,k2,k3,K]) l vl.toList (fN u) cs z.cells e d C (by simpa using hn) (λk i a hk=>by obtain⟨v,h1,s⟩:=G k i a hk;exact⟨v,by simpa using h1,s⟩);refine⟨.agg c,λy=> ?_,c,rfl,s⟩;simp only[Instr.build,Sem.run_bind,H,afg,run_underlying I,b,h1,Sem.run_pure]
theorem Sz[Tabs](M:Mem h S w m B M0)(d:Nat){t:TypeId}{u:Ty}(ht:dB P t u=true)(b:oG u=false)(ha:u.isAgg=true){l:List (Nat×aY)}{vl:Array (Nat×Value)}{cs:List aS}(e:gL u (fN u) l=O cs)(hn:l.length=vl.size)(c:∀(k i:Nat) (a:aY),l[k]? =O (i,a)->∃v,vl[k]? =O (i,v)/\bU h S w m a v):gC P h S w m B M0 d (.ag cs) [] (Instr.build t vl):=by obtain⟨v',h1,f⟩:=GK M ht b ha e hn c;exact gC.same M d (h1 w) f
theorem B0{e:Ty}:∀{r:Ty} {n i:Nat} {q:Nat×Ty},lenOf e r=O n->fieldAt r i=O q->q=(i*e.size,e)
 |.pair a b,n,i,q,h,hq=>by unfold lenOf at h;by_cases ha:a=e;{subst ha;rw[aq rfl]at h;simp only[ai,Option.map_eq_some_iff]at h;obtain⟨k,hk,_⟩:=h;cases i with|zero=>cases hq;simp|succ i=>simp only[fieldAt,ay,aw]at hq;obtain⟨p,hp,rfl⟩:=hq;have:=B0 hk hp;subst this;simp only[Nat.succ_mul];rw[aeZ]};{rw[ar ha]at h;cases h}
 |.unit,_,_,_,_,hq=>by cases hq
theorem QW[Tabs](M:Mem h S w m B M0)(d:Nat){t:TypeId}{e r:Ty}(ht:dB P t (.pair .unit (.pair e r))=true)(hl:(lenOf e r).isSome=true){l:List (Nat×aY)}{vl:Array (Nat×Value)}{cs:List aS}(C:gL (.pair e r) (fN (.pair e r)) l=O cs)(hn:l.length=vl.size)(D:∀(k i:Nat) (a:aY),l[k]? =O (i,a)->∃v,vl[k]? =O (i,v)/\bU h S w m a v):gC P h S w m B M0 d (.ag cs) [] (Instr.build t vl):=by obtain⟨z,E,g⟩:=B3 ht w;obtain⟨n,hlen⟩:=Option.isSome_iff_exists.1 hl;obtain⟨te,i,hu,hi,hs,_⟩:=L6 (p:=(n+1,e)) ht (by simp[qW,hlen]);obtain⟨p,hp,b,_⟩:=fp (S:=S) (w:=w) (h:=h) (m:=m) _ _ _ g;rw[aew]at hp;rw[<-hp]at b;have b:bl h S w m (fN (.pair e r)) z.cells.toList:=b;(have x:(fN (.pair e r)).length=(Ty.pair e r).size:=by obtain⟨F,o,y,s,_⟩:=fp (S:=S) (w:=w) (h:=h) (m:=m) _ _ _ g;rw[aew]at o;have f:=s.len;rw[<-o]at f;have A:=b.1;rw[A,f];simp[Ty.size]);(have hle:lenOf e (.pair e r)=O (n+1):=by simp[lenOf,hlen]);obtain⟨c,h1,f,A⟩:=E0 M (u:=.pair e r) (place:=λj=>O (j*e.size,e.size)) (λj q hq=>by have:=B0 hle hq;subst this;rfl) l vl.toList _ cs z.cells C b x (by simpa using hn) (λk i a hk=>by obtain⟨v,h1,f⟩:=D k i a hk;exact⟨v,by simpa using h1,f⟩);refine gC.same M d (v':=.agg c) ?_ ⟨c,rfl,f⟩;simp only[Instr.build,Sem.run_bind,E,afg,run_underlying hu,sizeOf,typeInfo,run_program,hi,Sem.run_pure,hs,h1]
theorem mK[Tabs]{get:bQ}:∀{t:Ty} {cs:List aS} {vs:List Value} {x:t.den},cQ cs=true->bP get t cs=O x->bl h S w m cs vs->cs.length=t.size->Own w t vs x (λ_=>False)
  |.unit,cs,vs,x,_,_,r,hl=>by
   have:vs=[]:=aH (by rw[<-r.1,hl];rfl);exact⟨this,λ_ h=>h⟩
  |.pair a b,cs,vs,x,hp,e,r,hl=>by
   simp only[bP,ay,aw]at e;obtain⟨y,g,z,i,rfl⟩:=e;have j:cs.length=a.size+b.size:=hl;have f:=plain_parts (cs.take a.size) (cs.drop a.size) (by rw[aeV];exact hp);exact⟨vs.take a.size,vs.drop a.size,_,_,by simp,mK f.1 g (r.take a.size) (by simp;omega),mK f.2 i (r.drop a.size) (by simp;omega),λ_ h=>h.elim,λ_=>by simp⟩
  |.bool,[c],vs,x,hp,e,r,_=>by
   obtain⟨v,us,rfl,d,_,hu⟩:=r.gU;have:us=[]:=aH hu.1.symm;subst this;rcases gS hp c (by simp)with rfl|⟨u,z,rfl,hs⟩
   ·cases e
   ·obtain⟨rfl,rfl⟩:=bw (e:cL .bool z=O x)
    exact⟨d.2,λ_ h=>h⟩
  |.int k,[c],vs,x,hp,e,r,_=>by
   obtain⟨v,us,rfl,d,_,hu⟩:=r.gU;have:us=[]:=aH hu.1.symm;subst this;rcases gS hp c (by simp)with rfl|⟨u,z,rfl,hs⟩
   ·cases e
   ·obtain⟨rfl,rfl⟩:=bw (e:cL (.int k) z=O x)
    exact⟨d.2,λ_ h=>h⟩
  |.str,[c],vs,x,hp,e,r,_=>by
   obtain⟨v,us,rfl,d,_,hu⟩:=r.gU;have:us=[]:=aH hu.1.symm;subst this;rcases gS hp c (by simp)with rfl|⟨u,z,rfl,hs⟩
   ·cases e
   ·obtain⟨rfl,rfl⟩:=bw (e:cL .str z=O x)
    exact⟨d.2,λ_ h=>h⟩
  |.raw,[c],vs,x,hp,e,r,_=>by
   obtain⟨v,us,rfl,d,_,hu⟩:=r.gU;have:us=[]:=aH hu.1.symm;subst this;rcases gS hp c (by simp)with rfl|⟨u,z,rfl,hs⟩
   ·cases e
   ·obtain⟨rfl,rfl⟩:=bw (e:cL .raw z=O x)
    exact⟨d.2,λ_ h=>h⟩
  |.slice t,[c],vs,x,hp,e,r,_=>by
   obtain⟨v,us,rfl,d,_,hu⟩:=r.gU;have:us=[]:=aH hu.1.symm;subst this;rcases gS hp c (by simp)with rfl|⟨u,z,rfl,hs⟩
   ·simp only[bP,cC,aw]at e
    subst e;obtain⟨o,rfl⟩:∃o:Option Addr,v=.slice o 0 0:=d;exact⟨_,rfl,.inl ⟨⟨_,rfl⟩,rfl,λ_ h=>h⟩⟩
   ·obtain⟨rfl,rfl⟩:=bw (e:cL (.slice t) z=O x)
    exact absurd rfl (hs t)
  where
  plain_parts:∀(a b:List aS),cQ (a++b)=true->cQ a=true/\cQ b=true
  |[],b,h=>⟨rfl,h⟩
  |c::a,b,h=>by
   cases c with
   |gV=>exact plain_parts a b h
   |pv t x=>
    cases t with
    |slice u=>cases h
    |_=>exact plain_parts a b h
   |_=>cases h
theorem yv{a b:List aS}(h:cQ (a++b)=true):cQ a=true/\cQ b=true:=mK.plain_parts a b h
theorem TD{α:Type}(A V D:List α):((A++V++D).take (A.length+V.length)).drop A.length=V:=by rw[List.take_left' (by simp),aez]
theorem yu[Tabs](M:Mem h S w m B M0)(hg:∀id o,get id=O o->h id≠U->h id=O o){t:Ty}(F:Bool):∀(l:List (Nat×aY)) (vl:List (Nat×Value)) (n:Nat) (xs:List t.den) (arr:Array Value),tN get t l n=O xs->(n+l.length)*t.size<=arr.size->l.length=vl.length->(∀(k i:Nat) (a:aY),l[k]? =O (i,a)->∃v,vl[k]? =O (i,v)/\bU h S w m a v)->dI (l.flatMap λp=>p.2.cells)=[]->(F=true->cQ (l.flatMap λp=>p.2.cells)=true)->∃b,Instr.fill (λi=>O (i*t.size,t.size)) arr vl=O b/\b.size=arr.size/\b.toList.take (n*t.size)=arr.toList.take (n*t.size)/\xs.length=l.length/\∀(k:Nat) (x:t.den),xs[k]? =O x->El S w F t ((b.toList.drop ((n+k)*t.size)).take t.size) x (λ_=>False)
 |[],vl,n,xs,arr,e,hl,hn,_,_,_=>by cases vl with|cons _ _=>cases hn|nil=>simp only[tN,aw]at e;subst e;exact⟨arr,rfl,rfl,rfl,rfl,λk x hk=>by simp at hk⟩
 |(i,a)::l,vl,n,xs,arr,e,hl,hn,I,f,A=>by cases vl with|nil=>cases hn|cons p vl=>obtain⟨v,C,L⟩:=I 0 i a rfl;simp only[aeI,aw]at C;subst C;simp only[tN]at e;cases G:(ae2 i n&&a.iD&&ae2 a.cells.length t.size)with|false=>rw[G]at e;cases e|true=>rw[G]at e;simp only[ai,ay,aw]at e;obtain⟨x,J,ys,N,rfl⟩:=e;simp only[ak]at G;obtain⟨⟨z,hs⟩,s⟩:=G;have z:=ax z;subst z;have s:=ax s;have hc:=L.cells hs M;simp only[List.flatMap_cons,ua,List.append_eq_nil_iff]at f;(have D:v.cells.size=t.size:=by have:=hc.1;simp at this;omega);simp only[aeQ]at hl;(have hmul:(i+(l.length+1))*t.size=i*t.size+t.size+l.length*t.size:=by rw[ae0,ae0,ae9];omega);(have hle:i*t.size+t.size<=arr.size:=by rw[hmul]at hl;omega);have d:=Bj v.cells arr (i*t.size) (by omega);obtain⟨u,g⟩:∃a2,v.cells.zipIdx.foldl (λcs (c,j)=>cs.setIfInBounds (i*t.size+j) c) arr=a2:=⟨_,rfl⟩;rw[g]at d;(have r:u.size=arr.size:=by rw[<-az,d];simp;omega);obtain⟨b,h1,P,K,Q,R⟩:=yu M hg F l vl (i+1) ys u N (by rw[r,show i+1+l.length=i+(l.length+1) by omega];exact hl) (by simpa using hn) (λk i a hk=>by have:=I (k+1) i a (by simpa using hk);simpa using this) f.2 (λe=>(yv (by simpa using A e)).2);(have E:(b.toList.drop (i*t.size)).take t.size=v.cells.toList:=by(have H:(b.toList.take ((i+1)*t.size)).drop (i*t.size)=v.cells.toList:=by rw[K,d,ae0,ae9];(have T:(arr.toList.take (i*t.size)).length=i*t.size:=by simp;omega);(have V:v.cells.toList.length=t.size:=by simpa using D);have:=TD (arr.toList.take (i*t.size)) v.cells.toList (arr.toList.drop (i*t.size+v.cells.size));rw[T,V]at this;exact this);rw[<-H,aeA];congr 1;rw[ae0,ae9];omega);refine⟨b,?_,by rw[P,r],?_,by simp[Q],λk W hk=> ?_⟩;{unfold Instr.fill;simp only[D];(have:¬(i*t.size+t.size>arr.size):=by omega);simp only[ne_eq,not_true_eq_false,decide_false,aeo,this,g];exact h1};{(have H:(b.toList.take ((i+1)*t.size)).take (i*t.size)=arr.toList.take (i*t.size):=by rw[K,d,ae0,ae9,aeX,ae7 (by omega),aev,List.take_append_of_le_length (by simp;omega),aeX,Nat.min_self]);rw[<-H,aeX,ae7 (by rw[ae0];omega)]};{cases k with|zero=>simp only[aeI,aw]at hk;subst hk;rw[ae1,E];(cases F with|true=>exact mK (yv (by simpa using A rfl)).1 J hc (by simpa using s)|false=>have y:=gZ M hg J hc s;rw[f.1]at y;exact⟨y.mono (λq hq=>hq.elim id λ⟨_,hi,_⟩=>by cases hi) (λ_ _=>rfl) (aB _),λ_ h=>h⟩)|succ k=>have:=R k W (by simpa using hk);rw[show i+(k+1)=i+1+k by omega];exact this}
theorem Ij[Tabs](M:Mem h S w m B M0)(N:B<=w.heap.size)(hg:∀id o,get id=O o->h id≠U->h id=O o){d:Nat}(G:∀id,d*16<=id->id<=d*16+15->h id=U){t:TypeId}{u:Ty}(ht:dB P t (.slice u)=true){l:List (Nat×aY)}{vl:Array (Nat×Value)}{xs:List u.den}{n:Nat}(e:tN get u l 0=O xs)(hn:l.length=n)(H:l.length=vl.size)(I:n*u.size<=16777216)(Q:∀(k i:Nat) (a:aY),l[k]? =O (i,a)->∃v,vl[k]? =O (i,v)/\bU h S w m a v)(s:dI (l.flatMap λp=>p.2.cells)=[]):gC P h S w m B M0 d (.one (.os (d*16))) [(d*16,.arr (cQ (l.flatMap λp=>p.2.cells)) u xs)] (Instr.buildSlice t n vl):=by obtain⟨te,i,z,hu,hi,hs,y,R,J,T⟩:=fw ht;(have V:z.cells.size=u.size:=by obtain⟨p',A,_,C,_⟩:=fp (S:=S) (w:=w) (h:=h) (m:=m) u _ _ J;rw[aew]at A;have:=C.len;rw[<-A]at this;simpa using this);(obtain⟨D,E,F⟩:∃D:Array Value,(n*u.size=0->D= #[])/\(¬n*u.size=0->D=z.cells):=by by_cases f:n*u.size=0;{exact⟨#[],λ_=>rfl,λe=>absurd f e⟩};{exact⟨z.cells,λe=>absurd e f,λ_=>rfl⟩});obtain⟨g,c⟩:∃g:Array Value,(aek (n*u.size)).map (D[· %D.size]!)=g:=⟨_,rfl⟩;(have j:g.size=n*u.size:=by rw[<-c];simp);obtain⟨r,h1,K,h3,X,Y⟩:=yu M hg (cQ (l.flatMap λp=>p.2.cells)) l vl.toList 0 xs g e (by rw[j,afb,hn];exact aB _) (by simpa using H) (λk i a hk=>by obtain⟨v,h1,K⟩:=Q k i a hk;exact⟨v,by simpa using h1,K⟩) s (λe=>e);have Z:n<=16777216:=aC (ae5 n y) I;refine⟨.slice (O ⟨w.heap.size,0,U⟩) n n,w.alloc (.cells r te),S,λi=>if i=d*16 then O ⟨.slice (O ⟨w.heap.size,0,U⟩) n n,λq=>q=w.heap.size,u⟩else m i,?_,?_⟩;{(have L:¬(n*u.size>2^24):=by omega);simp only[Instr.buildSlice,Sem.run_bind,run_underlying hu,afg,sizeOf,typeInfo,run_program,hi,Sem.run_pure,hs];rw[aM L];by_cases f:n*u.size=0;{rw[aN f];rw[E f]at c;simp only[Sem.run_bind,Sem.run_pure,afg,c,h1];rfl};{rw[aM f];rw[F f]at c;simp only[Sem.run_bind,zeroValue,typeInfo,run_program,hi,R,Sem.run_pure,afg,c,h1];rfl}};{refine fP.newObj M N G (.arr (cQ (l.flatMap λp=>p.2.cells)) u xs) r te ⟨.slice (O ⟨w.heap.size,0,U⟩) n n,λq=>q=w.heap.size,u⟩ (λq hq=>hq) (λW=>⟨rfl,.inr ?_⟩) (v':=.slice (O ⟨w.heap.size,0,U⟩) n n) ?_;{refine⟨w.heap.size,n,r,te,λ_ _=>False,by rw[X,hn],heap_alloc_new w _,by rw[K,j],by omega,by unfold maxLen;omega,λk x hk=> ?_,λ_ _ _ _ _ h=>h.elim,λ_ _ h=>h,λb=>by simp⟩;have:=Y k x hk;rw[afb]at this;exact this.mono W.sub W.stay (λ_ h=>h.elim) W.size};{exact⟨⟨cQ (l.flatMap λp=>p.2.cells),u,xs,by simp[dJ,dW]⟩,⟨.slice (O ⟨w.heap.size,0,U⟩) n n,λq=>q=w.heap.size,u⟩,by simp,rfl⟩}}
theorem N6[Tabs](M:Mem h S w m B M0)(_:B<=w.heap.size)(hg:∀id o,get id=O o->h id≠U->h id=O o){d:Nat}{t:TypeId}{u:Ty}(ht:dB P t (.slice u)=true){l:List (Nat×aY)}{vl:Array (Nat×Value)}{xs:List u.den}{n:Nat}(e:tN get u l 0=O xs)(hn:l.length=n)(J:l.length=vl.size)(K:n*u.size<=16777216)(T:∀(k i:Nat) (a:aY),l[k]? =O (i,a)->∃v,vl[k]? =O (i,v)/\bU h S w m a v)(A:dI (l.flatMap λp=>p.2.cells)=[]):gC P h S w m B M0 d (.one (.pv (.slice u) xs)) [] (Instr.buildSlice t n vl):=by obtain⟨te,i,z,hu,hi,hs,C,V,L,X⟩:=fw ht;(have Y:z.cells.size=u.size:=by obtain⟨p',D,_,E,_⟩:=fp (S:=S) (w:=w) (h:=h) (m:=m) u _ _ L;rw[aew]at D;have:=E.len;rw[<-D]at this;simpa using this);(obtain⟨F,G,H⟩:∃F:Array Value,(n*u.size=0->F= #[])/\(¬n*u.size=0->F=z.cells):=by by_cases g:n*u.size=0;{exact⟨#[],λ_=>rfl,λe=>absurd g e⟩};{exact⟨z.cells,λe=>absurd e g,λ_=>rfl⟩});obtain⟨r,f⟩:∃r:Array Value,(aek (n*u.size)).map (F[· %F.size]!)=r:=⟨_,rfl⟩;(have y:r.size=n*u.size:=by rw[<-f];simp);obtain⟨s,h1,I,h3,Z,h5⟩:=yu M hg (cQ (l.flatMap λp=>p.2.cells)) l vl.toList 0 xs r e (by rw[y,afb,hn];exact aB _) (by simpa using J) (λk i a hk=>by obtain⟨v,h1,I⟩:=T k i a hk;exact⟨v,by simpa using h1,I⟩) A (λe=>e);have aa:n<=16777216:=aC (ae5 n C) K;have W:dA h h S (λq=>S q\/q=w.heap.size) w (w.alloc (.cells s te)) m m:=⟨λ_ _ e=>e,λ_ _=>rfl,λ_ e=>.inl e,by simp,λq hq=>(Grow.alloc w _ _).block q (M.lt q hq),λid c' e hc q hq=>(Grow.alloc w _ _).block q (M.apart id c' e hc q hq).2.1⟩;refine⟨.slice (O ⟨w.heap.size,0,U⟩) n n,w.alloc (.cells s te),λq=>S q\/q=w.heap.size,m,?_,Grow.alloc w _ _,?_,by rw[ji];exact W,?_,?_,λid hid=>by simp[aP.get]at hid⟩;{(have N:¬(n*u.size>2^24):=by omega);simp only[Instr.buildSlice,Sem.run_bind,run_underlying hu,afg,sizeOf,typeInfo,run_program,hi,Sem.run_pure,hs];rw[aM N];by_cases g:n*u.size=0;{rw[aN g];rw[G g]at f;simp only[Sem.run_bind,Sem.run_pure,afg,f,h1];rfl};{rw[aM g];rw[H g]at f;simp only[Sem.run_bind,zeroValue,typeInfo,run_program,hi,V,Sem.run_pure,afg,f,h1];rfl}};{rw[ji];refine⟨λid o e=> ?_,λi j c d Q hi hj hc hd q hq R=>M.dis i j c d Q hi hj hc hd q hq R,λi c hi hc q hq=> ?_,λq hq=> ?_⟩;{obtain⟨c,h1,I⟩:=M.obj id o e;exact⟨c,h1,I.wider W M λq hq=>W.own id c (bn e) h1 q hq⟩};{have:=M.apart i c hi hc q hq;refine⟨λhs=> ?_,by simp;omega,this.2.2⟩;rcases hs with hs|hs;{exact this.1 hs};{omega}};{rcases hq with hq|hq;{have:=M.lt q hq;simp;omega};{subst hq;simp}}};{intro q hq;rcases hq with hq|hq;{exact .inl hq};{subst hq;exact .inr ⟨aB _,by simp⟩}};{rw[ji];(have hA:bL S (w.alloc (.cells s te)) (cQ (l.flatMap λp=>p.2.cells)) u (.slice (O ⟨w.heap.size,0,U⟩) n n) xs (λq=>q=w.heap.size):=by refine .inr ⟨w.heap.size,n,s,te,λ_ _=>False,by rw[Z,hn],heap_alloc_new w _,by rw[I,y],by omega,by unfold maxLen;omega,λk x hk=> ?_,λ_ _ _ _ _ h=>h.elim,λ_ _ h=>h,λb=>by simp⟩;have:=h5 k x hk;rw[afb]at this;exact this.mono (λ_ h=>h) W.stay (λ_ h=>h.elim) W.size);exact⟨rfl,bL.rep hA (λq hq=>.inl hq) λq hq=>.inr hq⟩}
theorem P7(z:Array Value)(c i a:Nat)(d:z.size=a)(hi:i<c):((madeCells z (c*a)).toList.drop (i*a)).take a=z.toList:=by apply aeC;intro j;rw[aeM];by_cases b:j<a;{(have h1:i*a+j<c*a:=by have:(i+1)*a<=c*a:=ae8 _ (by omega);rw[ae0,ae9]at this;omega);(have e:(i*a+j)%z.size=j:=by rw[d,Nat.mul_comm,Nat.mul_add_mod];exact Nat.mod_eq_of_lt b);(have f:j<z.size:=by omega);rw[aN b,aeJ];simp[madeCells,h1,e,f]};{rw[aM b,List.getElem?_eq_none (by simp;omega)]}
theorem Kf[Tabs](M:Mem h S w m B M0)(y:B<=w.heap.size){d:Nat}(g:∀id,d*16<=id->id<=d*16+15->h id=U){t:TypeId}{u:Ty}(ht:dB P t (.slice u)=true){n c:Int}(h0:0<=n)(h1:n<=c)(r:c<=lim):gC P h S w m B M0 d (.one (.os (d*16))) [(d*16,.arr true u (aeU n.toNat u.zero))] (Instr.makeSlice t (.int .i64 n) (.int .i64 c)):=by obtain⟨te,i,z,hu,hi,hs,s,A,j,C⟩:=fw ht;obtain⟨E,f,_,a,e⟩:=fp (S:=S) (w:=w) (h:=h) (m:=m) u _ _ j;rw[aew]at f;rw[<-f]at e a;(have l:z.cells.size=u.size:=by simpa using a.len);have hl:(lim:Int)=4294967296:=rfl;rw[hl]at r;(have D:(i.bytes:Int)*c<=281474976710656:=by have:(i.bytes:Int)*c<=32768*4294967296:=Int.mul_le_mul (by omega) r (by omega) (by omega);omega);have v:=run_make (P:=P) w t te i z hu hi A .i64 .i64 n c h0 h1 D (by omega);rw[hs]at v;refine⟨_,_,S,λi=>if i=d*16 then O ⟨.slice (O ⟨w.heap.size,0,U⟩) n.toNat c.toNat,λq=>q=w.heap.size,u⟩else m i,v,?_⟩;refine fP.newObj M y g (.arr true u (aeU n.toNat u.zero)) (madeCells z.cells (c.toNat*u.size)) te ⟨.slice (O ⟨w.heap.size,0,U⟩) n.toNat c.toNat,λq=>q=w.heap.size,u⟩ (λq hq=>hq) (λW=>⟨rfl,.inr ?_⟩) (v':=.slice (O ⟨w.heap.size,0,U⟩) n.toNat c.toNat) ?_;{refine⟨w.heap.size,c.toNat,_,te,λ_ _=>False,by simp,heap_alloc_new w _,by simp[madeCells],by simp;omega,by unfold maxLen;omega,λk x hk=> ?_,λ_ _ _ _ _ h=>h.elim,λ_ _ h=>h,λb=>by simp⟩;have o:=(aeK.1 hk);obtain⟨p,hx⟩:=o;simp at p hx;subst hx;rw[P7 z.cells c.toNat k u.size l (by omega)];exact Own.mono (λ_ h=>h.elim) e};{exact⟨⟨true,u,aeU n.toNat u.zero,by simp[dJ,dW]⟩,⟨.slice (O ⟨w.heap.size,0,U⟩) n.toNat c.toNat,λq=>q=w.heap.size,u⟩,by simp,rfl⟩}
end
theorem Hp{α:Type}{p:Nat->α->Prop}:∀(n:Nat),(∀i,i<n->∃y,p i y)->∃xs:List α,xs.length=n/\∀i y,xs[i]? =O y->p i y
 |0,_=>⟨[],rfl,λi y h=>by simp at h⟩
 |n+1,h=>by obtain⟨xs,h1,b⟩:=Hp n λi hi=>h i (by omega);obtain⟨y,c⟩:=h n (by omega);refine⟨xs++[y],by simp[h1],λi z a=> ?_⟩;by_cases hi:i<xs.length;{rw[aeH hi]at a;exact b i z a};{rw[aI (by omega)]at a;(have:i-xs.length=0:=by have:=(aeK.1 a).1;simp at this;omega);rw[this]at a;simp at a;subst a;(have:i=n:=by omega);subst this;exact c}
theorem BK{a:Nat}:∀{L:List (List Value)},(∀l∈L,l.length=a)->L.flatten.length=L.length*a
 |[],_=>by simp
 |l::L,h=>by have h1:=h l (by simp);have b:=BK (L:=L) λx hx=>h x (by simp[hx]);simp only[aeF,aG,aeQ,ae0,h1,b];omega
theorem Bx{a:Nat}:∀{L:List (List Value)} {i:Nat} {l:List Value},(∀l∈L,l.length=a)->L[i]? =O l->(L.flatten.drop (i*a)).take a=l
 |[],_,_,_,e=>by simp at e
 |b::L,0,l,h,e=>by simp at e;subst e;have:=h b (by simp);simp only[Nat.zero_mul,aeB,aeF];rw[<-this,aeW]
 |b::L,i+1,l,h,e=>by have h1:=h b (by simp);have:=Bx (L:=L) (i:=i) (λx hx=>h x (by simp[hx])) (by simpa using e);rw[aeF,ae0,ae9,aeZ,<-aex,<-h1,aez];rw[h1];exact this
theorem BX{b:Nat}:∀{L:List (List Value)} {j:Nat} {u:Value},(∀l∈L,l.length=b)->L.flatten[j]? =O u->∃i r l,j=i*b+r/\L[i]? =O l/\l[r]? =O u
 |[],_,_,_,e=>by simp at e
 |a::L,j,u,h,e=>by have h1:=h a (by simp);rw[aeF]at e;by_cases c:j<a.length;{rw[aeH c]at e;exact⟨0,j,a,by simp,rfl,e⟩};{rw[aI (by omega)]at e;obtain⟨i,r,l,g,d,f⟩:=BX (L:=L) (λx hx=>h x (by simp[hx])) e;exact⟨i+1,r,l,by rw[ae0,ae9];omega,by simpa using d,f⟩}
section
variable {P:Program} {E:Env} {h:bQ} {S:bu} {w w' w0:World} {m m':bF} {B:Nat} {M0:bu}
theorem fe{w:World}{b:Nat}{cs c:Array Value}{t:TypeId}{i:Nat×Nat}(h:w.heap[b]? =O (.cells cs t i))(a:Addr):(w.setRow b c).frozen? a=w.frozen? a:=by by_cases e:a.block=b;{simp only[World.frozen?,e,setRow_heap w b cs c t i h,h]};{simp only[World.frozen?,setRow_other w b a.block c e]}
theorem size_setRow(g:Nat)(cur:Array Value):(w.setRow g cur).heap.size=w.heap.size:=by simp[World.setRow]
theorem eY.rows[Tabs]{T:bu}{t:Ty}{v:Value}{ys:List t.den}(r:eY T w (.slice t) [v] ys):(v=.slice U 0 0/\ys=[])\/∃(a:Addr) (cap:Nat) (news:List Value),v=.slice (O a) ys.length cap/\news.length=ys.length*t.size/\(∀j u,news[j]? =O u->w.cell? (a.add j)=O u)/\(∀u∈news,u.oneCell'=true)/\∀i y,ys[i]? =O y->eY T w t ((news.drop (i*t.size)).take t.size) y:=by obtain⟨_,⟨e,rfl⟩|⟨a,cap,e,_,q,he⟩⟩:=r;{simp at e;exact .inl ⟨e,rfl⟩};{simp at e;right;(have g:∀i,i<ys.length->∃c:List Value,c.length=t.size/\jZ w a.block (a.off+i*t.size) c/\∀y,ys[i]? =O y->eY T w t c y:=λi hi=>by obtain⟨c,h1,s,x⟩:=he i ys[i] (by simp[hi]);exact⟨c,h1,s,λy d=>by simp[hi]at d;subst d;exact x⟩);obtain⟨L,z,hp⟩:=Hp (p:=λi (c:List Value)=>c.length=t.size/\jZ w a.block (a.off+i*t.size) c/\∀y,ys[i]? =O y->eY T w t c y) ys.length g;(have hlen:∀l∈L,l.length=t.size:=λl hl=>by obtain⟨i,hi,rfl⟩:=aeN hl;exact(hp i L[i] (by simp[hi])).1);(have each:∀j u,L.flatten[j]? =O u->w.cell? (a.add j)=O u/\u.oneCell'=true:=λj u hu=>by obtain⟨i,r,l,rfl,k,n⟩:=BX hlen hu;obtain⟨_,k2,k3⟩:=hp i l k;(have hi:i<ys.length:=by have:=(aeK.1 k).1;omega);have f:=(q.resolve_left λh0=>by rw[h0]at hi;simp at hi).1;obtain⟨b,o,sp⟩:=a;simp only at f;subst f;have A:=(gB (h:=λ_=>U) (m:=λ_=>U) (k3 ys[i] (by simp[hi]))).2.1 u (aF n);refine⟨?_,A⟩;rw[eN];have:=k2 r u n;rw[show o+(i*t.size+r)=o+i*t.size+r by omega];exact this);refine⟨a,cap,L.flatten,e,by rw[BK hlen,z],λj u hu=>(each j u hu).1,λu hu=> ?_,λi y d=> ?_⟩;{obtain⟨j,B,rfl⟩:=aeN hu;exact(each j _ (by simp)).2};{(have hi:i<L.length:=by have:=(aeK.1 d).1;omega);rw[Bx hlen (i:=i) (l:=L[i]) (by simp[hi])];exact(hp i L[i] (by simp[hi])).2.2 y d}}
theorem eY.kt{T:bu}:∀{t:Ty} {c:List Value} {x:t.den},t.leads=false->eY T w t c x->Own w t c x (λ_=>False)
 |.unit,_,_,_,r=>⟨r,λ_ h=>h⟩
 |.bool,_,_,_,r=>⟨r,λ_ h=>h⟩
 |.int _,_,_,_,r=>⟨r,λ_ h=>h⟩
 |.str,_,_,_,r=>⟨r,λ_ h=>h⟩
 |.raw,_,_,_,r=>⟨r,λ_ h=>h⟩
 |.slice _,_,_,h,_=>by cases h
 |.pair a b,_,_,h,r=>by simp only[Ty.leads,aeq]at h;obtain⟨p,q,e,r1,r2⟩:=r;exact⟨p,q,_,_,e,eY.kt h.1 r1,eY.kt h.2 r2,λ_ h=>h.elim,λ_=>by simp⟩
theorem eY.dU{S':bu}{w':World}:∀{t:Ty} {c:List Value} {x:t.den},t.leads=false->eY S w t c x->eY S' w' t c x
 |.unit,_,_,_,r=>r
 |.bool,_,_,_,r=>r
 |.int _,_,_,_,r=>r
 |.str,_,_,_,r=>r
 |.raw,_,_,_,r=>r
 |.slice _,_,_,h,_=>by cases h
 |.pair a b,c,x,h,r=>by simp only[Ty.leads,aeq]at h;obtain⟨p,q,e,r1,r2⟩:=r;exact⟨p,q,e,eY.dU h.1 r1,eY.dU h.2 r2⟩
theorem fA[Tabs]{L M:List Value}{n a k:Nat}(h:L.take (n*a)=M)(hk:k<n):(L.drop (k*a)).take a=(M.drop (k*a)).take a:=by subst h;have:(k+1)*a<=n*a:=ae8 _ (by omega);rw[ae0,ae9]at this;apply aeC;intro j;rw[iN,iN];split;{rw[List.getElem?_take_of_lt (by omega)]};{rfl}
theorem pJ[Tabs]{A N:List Value}{n a k:Nat}(hA:A.length=n*a):((A++N).drop (k*a)).take a=if k<n then(A.drop (k*a)).take a else(N.drop ((k-n)*a)).take a:=by apply aeC;intro j;rw[iN];by_cases hk:k<n;{have:(k+1)*a<=n*a:=ae8 _ (by omega);rw[ae0,ae9]at this;rw[aN hk,iN];split;{rw[aeH (by omega)]};{rfl}};{have:n*a<=k*a:=ae8 _ (by omega);rw[aM hk,iN];split;{rw[aI (by omega)];congr 1;rw[Nat.sub_mul];omega};{rfl}}
theorem AP[Tabs]{D:Bool}{t:Ty}{xs ys:List t.den}{cur:Array Value}{te:TypeId}{g cap:Nat}{A N:List Value}{Fs Gs:Nat->bu}(hg:w.heap[g]? =O (.cells cur te (0,0)))(hc:cur.size=cap*t.size)(d:xs.length+ys.length<=cap)(hm:cap<=maxLen)(hA:A.length=xs.length*t.size)(f:cur.toList.take ((xs.length+ys.length)*t.size)=A++N)(hx:∀i x,xs[i]? =O x->El S w D t ((A.drop (i*t.size)).take t.size) x (Fs i))(o:∀i y,ys[i]? =O y->El S w D t ((N.drop (i*t.size)).take t.size) y (Gs i))(p:∀i j b,i<xs.length->j<xs.length->Fs i b->Fs j b->i=j)(hn:∀i,i<xs.length->¬Fs i g)(l:∀i j b,i<ys.length->j<ys.length->Gs i b->Gs j b->i=j)(m:∀i,i<ys.length->¬Gs i g)(k:∀i j b,i<xs.length->j<ys.length->Fs i b->Gs j b->False):bL S w D t (.slice (O ⟨g,0,U⟩) (xs.length+ys.length) cap) (xs++ys) (λb=>b=g\/(∃i,i<xs.length/\Fs i b)\/∃i,i<ys.length/\Gs i b):=by refine .inr ⟨g,cap,cur,te,λi b=>if i<xs.length then Fs i b else Gs (i-xs.length) b,by simp,hg,hc,by simpa using d,hm,λi x hi=> ?_,λi j b hi q h1 a=> ?_,λi hi h=> ?_,λb=> ?_⟩;{(have n:i<xs.length+ys.length:=by have:=(aeK.1 hi).1;simpa using this);rw[fA f n,pJ hA];by_cases h:i<xs.length;{rw[aeH h]at hi;rw[aN h];(have e:(λb=>if i<xs.length then Fs i b else Gs (i-xs.length) b)=Fs i:=by funext b;simp[h]);show El S w D t _ x (λb=>if i<xs.length then Fs i b else Gs (i-xs.length) b);rw[e];exact hx i x hi};{rw[aI (by omega)]at hi;rw[aM h];(have e:(λb=>if i<xs.length then Fs i b else Gs (i-xs.length) b)=Gs (i-xs.length):=by funext b;simp[h]);show El S w D t _ x (λb=>if i<xs.length then Fs i b else Gs (i-xs.length) b);rw[e];exact o _ x hi}};{simp only[aG]at hi q;by_cases c1:i<xs.length;{by_cases c2:j<xs.length;{simp only[aN c1]at h1;simp only[aN c2]at a;exact p i j b c1 c2 h1 a};{simp only[aN c1]at h1;simp only[aM c2]at a;exact(k i _ b c1 (by omega) h1 a).elim}};{by_cases c2:j<xs.length;{simp only[aM c1]at h1;simp only[aN c2]at a;exact(k j _ b c2 (by omega) a h1).elim};{simp only[aM c1]at h1;simp only[aM c2]at a;have:=l _ _ b (by omega) (by omega) h1 a;omega}}};{simp only[aG]at hi;by_cases c1:i<xs.length;{simp only[aN c1]at h;exact hn i c1 h};{simp only[aM c1]at h;exact m _ (by omega) h}};{simp only[aG];refine⟨λh=>h.imp (λh=>h) λh=> ?_,λh=>h.imp (λh=>h) λ⟨i,hi,c⟩=> ?_⟩;{rcases h with ⟨i,hi,c⟩|⟨i,hi,c⟩;{exact⟨i,by omega,by rw[aN hi];exact c⟩};{exact⟨xs.length+i,by omega,by rw[aM (by omega),Nat.add_sub_cancel_left];exact c⟩}};{by_cases c1:i<xs.length;{rw[aN c1]at c;exact .inl ⟨i,c1,c⟩};{rw[aM c1]at c;exact .inr ⟨i-xs.length,by omega,c⟩}}}
theorem Bu{t ty te e:TypeId}{i:TypeInfo}(ht:P.underlying t=O (.slice e))(hi:P.info? e=O i){g sLen sCap:Nat}{cur:Array Value}(hg:w.heap[g]? =O (.cells cur te (0,0))){x:Value}{m:Nat}{news:List Value}(hlen:Builtin.lenOf x=pure m)(hf:(Builtin.firstCells i.size m x).run P w=.ok news.toArray w)(h1:∀u∈news,u.oneCell'=true)(a:sLen+m<=sCap)(b:sLen*i.size+news.length<=cur.size):(Builtin.append_ #[t,t] ty #[.slice (O ⟨g,0,U⟩) sLen sCap,x]).run P w=.ok (.slice (O ⟨g,0,U⟩) (sLen+m) sCap) (w.setRow g (cur.toList.take (sLen*i.size)++news++cur.toList.drop (sLen*i.size+news.length)).toArray):=by have c:=run_storeCells_at P g (sLen*i.size) te news 0 cur w hg (by simpa using b) h1;simp only[ae1]at c;simp[Builtin.append_,run_underlying ht,sizeOf,typeInfo,hi,hlen,a,hf,Addr.add_lit,c]
theorem El.lt{d:Bool}{t:Ty}{cs:List Value}{x:t.den}{F:bu}(e:El S w d t cs x F):∀q,F q->q<w.heap.size:=by cases d with|true=>exact Own.lt e|false=>exact λq hq=>(e.2 q hq).elim
theorem I0(w:World)(c:Array Value)(t:TypeId):(w.drew.alloc (.cells c t)).heap[w.heap.size]? =O (.cells c t (0,0)):=heap_alloc_new w.drew _
theorem Df(w:World)(c:Array Value)(t:TypeId)(a:Addr):(w.drew.alloc (.cells c t)).frozen? a=w.frozen? a:=frozen?_alloc_cells w.drew c t a
theorem sB(w:World)(c:Array Value)(t:TypeId):(w.drew.alloc (.cells c t)).heap.size=w.heap.size+1:=by simp
theorem rE[Tabs]{X:bu}{Gs:Nat->bu}{s te:TypeId}{i:TypeInfo}{z:Value}{t:Ty}{ty:TypeId}(ht:P.underlying s=O (.slice te))(hi:P.info? te=O i)(hs:i.size=t.size)(hz:i.zero=O z)(aa:z.cells.size=t.size)(ab:i.bytes<=32768){D:Bool}{v x:Value}{xs ys:List t.den}{F:bu}(hr:bL S w D t v xs F)(hx:(x=.slice U 0 0/\ys=[])\/∃(a:Addr) (cap:Nat) (news:List Value),x=.slice (O a) ys.length cap/\news.length=ys.length*t.size/\(∀j u,news[j]? =O u->w.cell? (a.add j)=O u)/\(∀u∈news,u.oneCell'=true)/\∀i y,ys[i]? =O y->El S w D t ((news.drop (i*t.size)).take t.size) y (Gs i))(R:∀i j q,i<ys.length->j<ys.length->Gs i q->Gs j q->i=j)(B:∀i q,i<ys.length->Gs i q->X q)(J:∀q,X q->¬F q)(ac:∀q,X q->q<w.heap.size)(hl:xs.length+ys.length<=lim)(hS:∀q,S q->q<w.heap.size/\¬F q):∃v' w' F',(Builtin.append_ #[s,s] ty #[v,x]).run P w=.ok v' w'/\w.heap.size<=w'.heap.size/\(∀q,q<w.heap.size->¬F q->w'.heap[q]? =w.heap[q]?)/\w'.os=w.os/\w'.tape=w.tape/\w'.output=w.output/\(∀a,w'.frozen? a=w.frozen? a)/\bL S w' D t v' (xs++ys) F'/\∀q,F' q->F q\/X q\/(w.heap.size<=q/\q<w'.heap.size):=by
 have av:(lim:Int)=4294967296:=rfl;have ad:(lim:Nat)=4294967296:=rfl;(have H:xs.length+ys.length<=maxLen:=by unfold maxLen;omega);(have n:(xs.length+ys.length)*i.bytes<=140737488355328:=by have:(xs.length+ys.length)*i.bytes<=4294967296*32768:=Nat.mul_le_mul (by omega) ab;omega);(have fresh:∀(A news:List Value) (old:Nat) (Fs:Nat->bu),A.length=xs.length*t.size->news.length=ys.length*t.size->(∀i x,xs[i]? =O x->El S w D t ((A.drop (i*t.size)).take t.size) x (Fs i))->(∀i y,ys[i]? =O y->El S w D t ((news.drop (i*t.size)).take t.size) y (Gs i))->(∀i j b,i<xs.length->j<xs.length->Fs i b->Fs j b->i=j)->(∀i q,i<xs.length->Fs i q->F q)->(Builtin.append_ #[s,s] ty #[v,x]).run P w=.ok (.slice (O ⟨w.heap.size,0,U⟩) (xs.length+ys.length) (grownCap w (xs.length+ys.length) old te)) (w.drew.alloc (.cells (A.toArray++news.toArray++Builtin.zeroCells z.cells (grownCap w (xs.length+ys.length) old te-(xs.length+ys.length))) te))->∃v' w' F',(Builtin.append_ #[s,s] ty #[v,x]).run P w=.ok v' w'/\w.heap.size<=w'.heap.size/\(∀q,q<w.heap.size->¬F q->w'.heap[q]? =w.heap[q]?)/\w'.os=w.os/\w'.tape=w.tape/\w'.output=w.output/\(∀a,w'.frozen? a=w.frozen? a)/\bL S w' D t v' (xs++ys) F'/\∀q,F' q->F q\/X q\/(w.heap.size<=q/\q<w'.heap.size):=by intro A news old Fs hA hN ho hn hd C d;have af:=grownCap_ge w (xs.length+ys.length) old te;have ag:=grownCap_le_maxLen w (xs.length+ys.length) old te H;generalize grownCap w (xs.length+ys.length) old te=nc at*;have f:∀c q,q<w.heap.size->(w.drew.alloc (.cells c te)).heap[q]? =w.heap[q]? :=λc q hq=>(Grow.alloc w.drew c te).block q hq;refine⟨_,_,_,d,by rw[sB];omega,λq hq _=>f _ q hq,rfl,rfl,rfl,λa=>Df w _ te a,AP (S:=S) (A:=A) (N:=news) (Fs:=Fs) (Gs:=Gs) (I0 w _ te) ?_ af ag hA ?_ (λk y hk=> ?_) (λk y hk=> ?_) hd (λk hk I=> ?_) R (λk hk h=>by have:=ac _ (B k _ hk h);omega) (λi j b hi L h1 h2=>J b (B j b L h2) (C i b hi h1)),λq hq=> ?_⟩;{simp only[Array.size_append,List.size_toArray,size_zeroCells,aa,hA,hN];rw[<-ae0,<-ae0];congr 1;omega};{simp only[Array.toList_append,aev];rw[<-aev];(have:(A++news).length=(xs.length+ys.length)*t.size:=by rw[aG,hA,hN,ae0]);rw[<-this];exact aeW};{have:=ho k y hk;exact this.mono (λ_ h=>h) (λq hq=>f _ q (hS q hq).1) (λq hq=>f _ q (this.lt q hq)) (by rw[sB];omega)};{have:=hn k y hk;exact this.mono (λ_ h=>h) (λq hq=>f _ q (hS q hq).1) (λq hq=>f _ q (this.lt q hq)) (by rw[sB];omega)};{(have al:xs[k]? =O xs[k]:=by simp[hk]);have:=(ho k _ al).lt _ I;omega};{rcases hq with rfl|⟨k,hk,I⟩|⟨k,hk,I⟩;{exact .inr (.inr ⟨aB _,by rw[sB];omega⟩)};{exact .inl (C k q hk I)};{exact .inr (.inl (B k q hk I))}});rcases hr with ⟨⟨o,rfl⟩,rfl,I⟩|⟨g,cap,cur,T,Fs,rfl,k2,k3,k4,k5,k6,k7,k8,k9⟩
 ·have keep:ys=[]->(Builtin.append_ #[s,s] ty #[.slice o 0 0,x]).run P w=.ok (.slice o 0 0) w->_:=λhy d=>(⟨.slice o 0 0,w,F,d,aB _,λ_ _ _=>rfl,rfl,rfl,rfl,λ_=>rfl,.inl ⟨⟨o,rfl⟩,by rw[hy];rfl,I⟩,λq hq=>.inl hq⟩:∃v' w' F',(Builtin.append_ #[s,s] ty #[.slice o 0 0,x]).run P w=.ok v' w'/\w.heap.size<=w'.heap.size/\(∀q,q<w.heap.size->¬F q->w'.heap[q]? =w.heap[q]?)/\w'.os=w.os/\w'.tape=w.tape/\w'.output=w.output/\(∀a,w'.frozen? a=w.frozen? a)/\bL S w' D t v' ([]++ys) F'/\∀q,F' q->F q\/X q\/(w.heap.size<=q/\q<w'.heap.size));rcases hx with ⟨rfl,rfl⟩|⟨a,c,news,rfl,E,Q,n3,n4⟩;{refine keep rfl ?_;cases o<;>simp[Builtin.append_,run_underlying ht,sizeOf,typeInfo,hi,Builtin.lenOf,Builtin.firstCells,storeCells]}
  ·by_cases h0:ys=[];{subst h0;refine keep rfl ?_;cases o<;>simp[Builtin.append_,run_underlying ht,sizeOf,typeInfo,hi,Builtin.lenOf,Builtin.firstCells,loadCells,loadCellsFrom,storeCells]}
   ·have V:0<ys.length:=by cases ys with
      | nil=>exact absurd rfl h0
      | cons _ _=>simp
    simp only[aeR,afb]at H n hl;cases o with|none=>have d:=run_append_nil (P:=P) w s ty te i z ht hi hz a ys.length c news (by rw[E,hs]) Q V (by unfold maxLen at H;omega) (by omega);refine fresh [] news 0 (λ_ _=>False) (by simp) E (λi x h=>by simp at h) n4 (λ_ _ _ _ _ h=>h.elim) (λ_ _ _ h=>h.elim) ?_;simp only[aeR,afb,aeh]at d⊢;exact d|some b=>have d:=run_append_grow (P:=P) w s ty te i z ht hi hz b 0 0 [] (by simp) (λj v h=>by simp at h) a ys.length c news (by rw[E,hs]) Q (by omega) (by unfold maxLen at H;omega) (growslice_fits (by omega) (by simpa using n));refine fresh [] news 0 (λ_ _=>False) (by simp) E (λi x h=>by simp at h) n4 (λ_ _ _ _ _ h=>h.elim) (λ_ _ _ h=>h.elim) ?_;simp only[aeR,afb,aeh]at d⊢;exact d
 {(have l:(cur.toList.take (xs.length*t.size)).length=xs.length*t.size:=by(have hc:cur.toList.length=cap*t.size:=by rw[<-k3];exact az);rw[List.length_take,hc];exact ae7 (ae8 _ k4));(have hold:∀i x,xs[i]? =O x->El S w D t (((cur.toList.take (xs.length*t.size)).drop (i*t.size)).take t.size) x (Fs i):=λi x W=>by rw[<-fA rfl (aeK.1 W).1];exact k6 i x W);have C:∀i q,i<xs.length->Fs i q->F q:=λi q hi hq=>(k9 q).2 (.inr ⟨i,hi,hq⟩);have G:F g:=(k9 g).2 (.inl rfl);by_cases p:xs.length+ys.length<=cap;{(have r:∀(news:List Value),news.length=ys.length*t.size->(∀u∈news,u.oneCell'=true)->(∀i y,ys[i]? =O y->El S w D t ((news.drop (i*t.size)).take t.size) y (Gs i))->Builtin.lenOf x=pure ys.length->(Builtin.firstCells i.size ys.length x).run P w=.ok news.toArray w->∃v' w' F',(Builtin.append_ #[s,s] ty #[.slice (O ⟨g,0,U⟩) xs.length cap,x]).run P w=.ok v' w'/\w.heap.size<=w'.heap.size/\(∀q,q<w.heap.size->¬F q->w'.heap[q]? =w.heap[q]?)/\w'.os=w.os/\w'.tape=w.tape/\w'.output=w.output/\(∀a,w'.frozen? a=w.frozen? a)/\bL S w' D t v' (xs++ys) F'/\∀q,F' q->F q\/X q\/(w.heap.size<=q/\q<w'.heap.size):=λnews E n3 n4 hlen hf=>by(have M:xs.length*i.size+news.length<=cur.size:=by rw[E,hs,k3,<-ae0];exact ae8 _ p);have d:=Bu (P:=P) (ty:=ty) ht hi k2 (sLen:=xs.length) (sCap:=cap) hlen hf n3 p M;rw[hs]at d M;refine⟨_,_,λb=>b=g\/(∃i,i<xs.length/\Fs i b)\/∃i,i<ys.length/\Gs i b,d,by rw[size_setRow];exact aB _,λq _ hq=>setRow_other w g q _ λe=>hq (e▸G),rfl,rfl,rfl,fe k2,?_⟩;generalize Y:(cur.toList.take (xs.length*t.size)++news++cur.toList.drop (xs.length*t.size+news.length)).toArray=m;(have Z:m.toList=cur.toList.take (xs.length*t.size)++news++cur.toList.drop (xs.length*t.size+news.length):=by rw[<-Y]);have f:∀q,q≠g->(w.setRow g m).heap[q]? =w.heap[q]? :=λq hq=>setRow_other w g q m hq;refine⟨AP (S:=S) (A:=cur.toList.take (xs.length*t.size)) (N:=news) (Fs:=Fs) (Gs:=Gs) (setRow_heap w g cur m T _ k2) ?_ p k5 l ?_ (λk y hk=> ?_) (λk y hk=> ?_) k7 (λk hk=>k8 k hk) R (λk hk h=>J _ (B k _ hk h) G) (λi j b hi L h1 h2=>J b (B j b L h2) (C i b hi h1)),λq hq=> ?_⟩;{have am:cur.toList.length=cur.size:=az;have an:m.size=m.toList.length:=Array.length_toList.symm;rw[an,Z,aG,aG,l,List.length_drop,am,<-k3];omega};{rw[Z];(have:(cur.toList.take (xs.length*t.size)++news).length=(xs.length+ys.length)*t.size:=by rw[aG,l,E,ae0]);rw[<-this];exact aeW};{have ao:=(aeK.1 hk).1;exact(hold k y hk).mono (λ_ h=>h) (λq hq=>f q λe=>(hS q hq).2 (e▸G)) (λq hq=>f q λe=>k8 k ao (e▸hq)) (by rw[size_setRow];exact aB _)};{have ap:=(aeK.1 hk).1;exact(n4 k y hk).mono (λ_ h=>h) (λq hq=>f q λe=>(hS q hq).2 (e▸G)) (λq hq=>f q λe=>J q (B k q ap hq) (e▸G)) (by rw[size_setRow];exact aB _)};{rcases hq with rfl|⟨k,hk,I⟩|⟨k,hk,I⟩;{exact .inl G};{exact .inl (C k q hk I)};{exact .inr (.inl (B k q hk I))}});rcases hx with ⟨rfl,rfl⟩|⟨a,c,news,rfl,E,Q,n3,n4⟩;{exact r [] (by simp) (λ_ h=>by cases h) (λ_ _ h=>by simp at h) rfl (by simp[Builtin.firstCells])};{exact r news E n3 n4 rfl (run_firstCells_some (P:=P) w i.size ys.length a ys.length c news (by rw[E,hs]) Q)}};{rcases hx with ⟨rfl,rfl⟩|⟨a,c,news,rfl,E,Q,n3,n4⟩;{exact absurd k4 (by simpa using p)};{(have K:∀j v,(cur.toList.take (xs.length*t.size))[j]? =O v->w.cell? ((⟨g,0,U⟩:Addr).add j)=O v:=λj v L=>by rw[eN,afb,cell_of_row w g j cur T (0,0) k2];rw[aeM]at L;split at L;{simpa using L};{cases L});have d:=run_append_grow (P:=P) w s ty te i z ht hi hz ⟨g,0,U⟩ xs.length cap (cur.toList.take (xs.length*t.size)) (by rw[l,hs]) K a ys.length c news (by rw[E,hs]) Q (by omega) (by unfold maxLen at H;omega) (growslice_fits (by omega) n);exact fresh _ news cap Fs l E hold n4 k7 C d}}}
theorem x6[Tabs]{b te:TypeId}{i:TypeInfo}{z:Value}{t:Ty}{ty:TypeId}(ht:P.underlying b=O (.slice te))(hi:P.info? te=O i)(hs:i.size=t.size)(f:i.zero=O z)(c:z.cells.size=t.size)(d:i.bytes<=32768){D:Bool}{v x:Value}{xs ys:List t.den}{F T:bu}(g:bL S w D t v xs F)(hx:(x=.slice U 0 0/\ys=[])\/∃(a:Addr) (cap:Nat) (news:List Value),x=.slice (O a) ys.length cap/\news.length=ys.length*t.size/\(∀j u,news[j]? =O u->w.cell? (a.add j)=O u)/\(∀u∈news,u.oneCell'=true)/\∀i y,ys[i]? =O y->eY T w t ((news.drop (i*t.size)).take t.size) y)(k:∀(i:Nat) y e,ys[i]? =O y->eY T w t e y->El S w D t e y (λ_=>False))(hl:xs.length+ys.length<=lim)(l:∀q,S q->q<w.heap.size/\¬F q):∃v' w' F',(Builtin.append_ #[b,b] ty #[v,x]).run P w=.ok v' w'/\w.heap.size<=w'.heap.size/\(∀q,q<w.heap.size->¬F q->w'.heap[q]? =w.heap[q]?)/\w'.os=w.os/\w'.tape=w.tape/\w'.output=w.output/\(∀a,w'.frozen? a=w.frozen? a)/\bL S w' D t v' (xs++ys) F'/\∀q,F' q->F q\/(w.heap.size<=q/\q<w'.heap.size):=by obtain⟨v',w',F',h1,m,n,o,p,r,s,A,B⟩:=rE (P:=P) (ty:=ty) (X:=λ_=>False) (Gs:=λ_ _=>False) ht hi hs f c d g (hx.imp (λh=>h) λ⟨a,cap,news,C,E,G,H,I⟩=>⟨a,cap,news,C,E,G,H,λi y hi=>k i y _ hi (I i y hi)⟩) (λ_ _ _ _ _ h=>h.elim) (λ_ _ _ h=>h) (λ_ h=>h.elim) (λ_ h=>h.elim) hl l;exact⟨v',w',F',h1,m,n,o,p,r,s,A,λq hq=>(B q hq).imp (λh=>h) λh=>h.resolve_left λh=>h⟩
end
section
variable {P:Program} {E:Env} {h get:bQ} {S:bu} {w:World} {m:bF} {B:Nat} {M0:bu}
def PZ(P:Program)(h:bQ)(S:bu)(w:World)(m:bF)(B:Nat)(M0:bu)(d:Nat)(v:aY)(os:aP)(x:Sem Next):Prop:=∃v' w' S' m',x.run P w=.ok (.value v') w'/\fP h S w m B M0 d v os v' w' S' m'
theorem gC.runs{d:Nat}{v:aY}{os:aP}{x:Sem Value}(q:gC P h S w m B M0 d v os x):PZ P h S w m B M0 d v os (do pure (.value (<-x))):=by obtain⟨v',w',S',m',hx,hp⟩:=q;exact⟨v',w',S',m',by simp[hx],hp⟩
theorem jG[Tabs]{ev:Operand->aY}{ρ:Operand->Value}{dflt n:Int}{o:Option Operand}(a:∀x,o=O x->bU h S w m (ev x) (ρ x))(e:bound ev dflt o=O n):kS (o.map ρ) dflt n:=by cases o with|none=>simp only[bound,aw]at e;exact e.symm|some x=>have b:=a x rfl;simp only[bound,MC]at e;split at e;{rename_i k hk;simp only[aw]at e;subst e;rw[hk]at b;exact(dx (h:=h) (m:=m) b).1};{cases e}
theorem sN{ev:Operand->aY}{ρ:Operand->Value}{ps:Array (Nat×Operand)}(b:∀p∈ps.toList,bU h S w m (ev p.2) (ρ p.2)):∀(k i:Nat) (a:aY),(ps.toList.map λp=>(p.1,ev p.2))[k]? =O (i,a)->∃v,(ps.map λ(i,x)=>(i,ρ x))[k]? =O (i,v)/\bU h S w m a v:=by intro k i a hk;rw[aeL]at hk;cases hp:ps.toList[k]? with|none=>rw[hp]at hk;cases hk|some p=>rw[hp]at hk;simp only[aff,aw,Prod.mk.injEq]at hk;obtain⟨rfl,rfl⟩:=hk;refine⟨ρ p.2,?_,b p (aF hp)⟩;(have:ps[k]? =O p:=by simpa using hp);simp[this]
theorem SC{α β:Type}{f:α->β}{l:List α}{x:β}(e:l.map f=[x]):∃a,l=[a]/\f a=x:=by match l,e with|[a],e=>exact⟨a,rfl,by simpa using e⟩
theorem wD{α β:Type}{f:α->β}{l:List α}{x y:β}(e:l.map f=[x,y]):∃a b,l=[a,b]/\f a=x/\f b=y:=by match l,e with|[a,b],e=>exact⟨a,b,rfl,by simpa using e⟩
theorem foldl_push:∀(l:List Int) (b:Bytes),l.foldl (λ(r:ByteArray) n=>r.push (UInt8.ofNat n.toNat)) ⟨⟨b⟩⟩=⟨⟨b++toStr l⟩⟩
 |[],b=>by simp[toStr]
 |n::l,b=>by(have e:(ByteArray.mk ⟨b⟩).push (UInt8.ofNat n.toNat)=⟨⟨b++[UInt8.ofNat n.toNat]⟩⟩:=by simp[ByteArray.push]);rw[aeG,e,foldl_push l];simp[toStr]
theorem SR[Tabs](M:Mem h S w m B M0)(hg:∀id o,get id=O o->h id≠U->h id=O o)(d:Nat){src dst:TypeId}(hs:dB P src (.slice (.int .u8))=true)(H:dB P dst .str=true){c:aS}{x:Value}{xs:List Int}(e:cC get (.slice (.int .u8)) c=O xs)(r:bg h S w m c x):gC P h S w m B M0 d (.one (.pv .str (toStr xs))) [] (convert src dst x):=by obtain⟨te,i,z,k,hi,_⟩:=fw hs;obtain⟨d2,p,E⟩:=fG H;(have I:d2=.string:=by cases d2<;>(try cases E);rfl);subst I;obtain⟨F,q,f⟩:=fG hs;have J:F=.slice te:=aA (q.symm.trans k);subst J;have s:=eP M hg (t:=.slice (.int .u8)) rfl e r;obtain⟨hl,K⟩:=s;(have u:P.underlying te=O (.int .u8):=by simp only[oB]at f;cases y:P.info? te with|none=>rw[y]at f;cases f|some T=>rw[y]at f;simp only[ak]at f;have A:=f.2;unfold Qd at A;simp only at A;split at A;{rename_i V hk;rw[hk,<-of_decide_eq_true A]};{cases A});refine gC.same M d (v':=.string ⟨⟨toStr xs⟩⟩) ?_ (Eh (by simpa[toStr]using hl));rcases K with ⟨hx,C⟩|⟨a,cap,hx,hc,D,he⟩;{simp only[List.cons.injEq,and_true]at hx;subst hx;subst C;rw[run_convert_bytes_string w src dst te U 0 0 k u p];simp[Conv.bytesToString,toStr];rfl};{simp only[List.cons.injEq,and_true]at hx;subst hx;rw[run_convert_bytes_string w src dst te _ _ _ k u p];rw[run_bytesToString w a _ cap xs ?_];{rw[show ByteArray.empty=⟨⟨[]⟩⟩ from rfl,foldl_push];simp};{have:=run_loadCells_list (P:=P) (w:=w) a (xs.map (Value.int .u8)) ?_;{simpa using this};{intro j v l;rw[aeL]at l;cases g:xs[j]? with|none=>rw[g]at l;cases l|some n=>rw[g]at l;simp only[aff,aw]at l;subst l;obtain⟨L,h1,N,Q⟩:=he j n g;have G:L=[.int .u8 n]:=Q.1;subst G;have:=N 0 _ rfl;rcases D with D|D;{rw[D]at g;simp at g};{(have R:a.add j=⟨a.block,a.off+j*1+0,U⟩:=by obtain⟨b,o,sp⟩:=a;have:sp=U:=D.1;subst this;rw[eN];simp);rw[R];exact this}}}}
theorem Fc[Tabs](M:Mem h S w m B M0)(c:B<=w.heap.size)(d:Nat){t:TypeId}{u:Ty}(ht:dB P t (.slice u)=true){vl:Array (Nat×Value)}(a:vl.size=0):gC P h S w m B M0 d (.one .gV) [] (Instr.buildSlice t 0 vl):=by have a:vl= #[]:=aei a;subst a;obtain⟨te,i,z,hu,hi,hs,b,g,e,f⟩:=fw ht;refine⟨.slice (O ⟨w.heap.size,0,U⟩) 0 0,w.alloc (.cells #[] te),S,m,?_,fP.grown M c d (Grow.alloc w #[] te) ⟨_,rfl⟩⟩;simp[Instr.buildSlice,run_underlying hu,sizeOf,typeInfo,hi,Instr.fill,newRow,newObj];have h0:Array.map (λ_=>(default:Value)) (aek 0)= #[]:=aei (by simp);rw[h0];rfl
theorem JC[Tabs](M:Mem h S w m B M0)(J:B<=w.heap.size)(hg:∀id o,get id=O o->h id≠U->h id=O o){d:Nat}(k:∀id,d*16<=id->id<=d*16+15->h id=U){l oty:TypeId}{t:Ty}(ht:dB P l (.slice t)=true){c:aS}{ys:List t.den}(hs:I6 get t c=O ys)(hle:ys.length<=lim)(hi:t.leads=true->dI [c]=[]){x y:Value}(hx:bg h S w m .gV x)(K:bg h S w m c y):gC P h S w m B M0 d (.one (.os (d*16))) [(d*16,.arr (!t.leads||c.Ba) t ys)] (Builtin.append_ #[l,l] oty #[x,y]):=by obtain⟨te,i,z,hu,e,n,I,L,p,s⟩:=fw ht;(have A:z.cells.size=t.size:=by obtain⟨N,f,_,b,_⟩:=fp (S:=S) (w:=w) (h:=h) (m:=m) t _ _ p;rw[aew]at f;rw[<-f]at b;simpa using b.len);obtain⟨o,rfl⟩:∃o:Option Addr,x=.slice o 0 0:=hx;have b:eY (qu m h S (dI [c])) w (.slice t) [y] ys:=eP M hg rfl hs K;have rows:=b.rows;generalize C:(!t.leads||c.Ba)=j;(have own:j=true->∀(i:Nat) u,ys[i]? =O u->t.leads=false:=λh i u hi=>by subst C;cases hl:t.leads with|false=>rfl|true=>rw[hl]at h;cases c with|gV=>cases (aA hs:([]:List t.den)=ys);simp at hi|_=>cases h);(have E:∀(i:Nat) u G,ys[i]? =O u->eY (qu m h S (dI [c])) w t G u->El S w j t G u (λ_=>False):=λi u G H r=>by cases j with|true=>exact eY.kt (own rfl i u H) r|false=>refine⟨?_,λ_ h=>h⟩;cases hl:t.leads with|false=>exact eY.dU hl r|true=>have:=hi hl;rw[this]at r;exact r.mono (λq hq=>hq.elim (λh=>h) λ⟨_,h,_⟩=>by cases h) (λ_ _=>rfl) (aB _));obtain⟨v',w',F',g,g1,g2,g3,g4,g5,g6,g7,g8⟩:=x6 (P:=P) (ty:=oty) hu e n L A s (S:=S) (D:=j) (v:=.slice o 0 0) (x:=y) (xs:=[]) (F:=λ_=>False) (.inl ⟨⟨_,rfl⟩,rfl,λ_ h=>h⟩) rows E (by simpa using hle) (λq hq=>⟨M.lt q hq,λh=>h⟩);rw[List.nil_append]at g7;exact⟨v',w',S,_,g,fP.Qt M J k ⟨g3,g4,g5,g1,λq hq=>g2 q hq λh=>h,λa _=>g6 a⟩ g7 λq hq=>(g8 q hq).resolve_left λh=>h⟩
theorem Dg[Tabs](hT:∀p∈E.T,dB P p.1 p.2=true)(hq:∀p∈E.eqs,Nr P p.1 p.2=true)(M:Mem h S w m B M0)(Y:B<=w.heap.size)(hg:∀id o,get id=O o->h id≠U->h id=O o){d:Nat}(V:∀id,d*16<=id->id<=d*16+15->h id=U){o:Oper}{ρ:Operand->Value}{ev:Operand->aY}(s:∀x∈o.op.operands,bU h S w m (ev x) (ρ x)){v:aY}{os:aP}(e:(aQ E ev get d o.op).gives v os):PZ P h S w m B M0 d v os (execOp ρ o):=by have ty:∀{t:TypeId} {u:Ty},look E.T t=O u->dB P t u=true:=λhl=>hT _ (cU hl);obtain⟨ag,op,oty,al,Z,aa⟩:=o;simp only at e s;unfold execOp;cases op with|move x=>obtain⟨rfl,rfl⟩:=e;exact⟨ρ x,w,S,m,rfl,fP.same M d (s x (by simp[Op.operands]))⟩|assign x=>obtain⟨rfl,rfl⟩:=e;exact⟨ρ x,w,S,m,rfl,fP.same M d (s x (by simp[Op.operands]))⟩|alloc t=>simp only[aQ]at e;(cases hl:look E.T t with|none=>rw[hl]at e;exact e.elim|some u=>rw[hl]at e;obtain⟨rfl,rfl⟩:=e;exact(Sk M Y V (ty hl)).runs)|box t x=>simp only[aQ]at e;have hx:=s x (by simp[Op.operands]);(cases hl:look E.T t with|none=>rw[hl]at e;exact e.elim|some u=>rw[hl]at e;cases hs:((ev x).iD&&ae2 (ev x).cells.length u.size)with|false=>simp only[hs]at e;exact e.elim|true=>simp only[hs,ai]at e;rw[ak]at hs;cases hr:E.ro.any (ae2 d)with|false=>simp only[hr,aj]at e;obtain⟨rfl,rfl⟩:=e;exact(V3 M Y V hx hs.1).runs|true=>simp only[hr,ai]at e;split at e;{rename_i y hi D;obtain⟨rfl,rfl⟩:=e;exact(Tj M Y hg hx hs.1 (ax hs.2) hi D).runs};{exact e.elim})|build t ps=>simp only[aQ]at e;(cases hl:BQ E.T t with|none=>rw[hl]at e;simp only at e;split at e;{rename_i K r1 ap;cases I:(lenOf K r1).isSome with|false=>simp only[I]at e;exact e.elim|true=>simp only[I,ai]at e;cases hf:gL (.pair K r1) (fN (.pair K r1)) (ps.toList.map λp=>(p.1,ev p.2))with|none=>rw[hf]at e;exact e.elim|some cs=>rw[hf]at e;obtain⟨rfl,rfl⟩:=e;exact(QW M d (ty ap) I hf (by simp) (sN λp hp=>s p.2 (by simp only[Op.operands];simp;exact⟨p.1,by simpa using hp⟩))).runs};{exact e.elim}|some u=>rw[hl]at e;simp only at e;cases hf:gL u (fN u) (ps.toList.map λp=>(p.1,ev p.2))with|none=>rw[hf]at e;exact e.elim|some cs=>rw[hf]at e;cases ha:u.isAgg with|false=>simp only[ha]at e;exact e.elim|true=>simp only[ha,ai]at e;obtain⟨rfl,rfl⟩:=e;exact(Sz M d (ty (ep hl).1) (ep hl).2 ha hf (by simp) (sN λp hp=>s p.2 (by simp only[Op.operands];simp;exact⟨p.1,by simpa using hp⟩))).runs)|buildSlice t n ps=>simp only[aQ]at e;split at e;{rename_i u hl;cases C:(ae2 ps.size n&&ae3 (n*u.size) 16777216)with|false=>simp only[C]at e;exact e.elim|true=>simp only[C,ai]at e;rw[ak]at C;cases ac:ae2 n 0 with|true=>simp only[ac,ai]at e;obtain⟨rfl,rfl⟩:=e;have:=ax ac;subst this;have:=Fc M Y d (ty hl) (vl:=ps.map λ(i,x)=>(i,ρ x)) (by rw[Array.size_map];exact ax C.1);exact this.runs|false=>simp only[ac,aj]at e;split at e;{rename_i xs hi hx;cases am:E.ro.any (ae2 d)with|true=>rw[am]at e;obtain⟨rfl,rfl⟩:=e;have:=N6 (n:=n) M Y hg (ty hl) hx (by simp;exact ax C.1) (vl:=ps.map λ(i,x)=>(i,ρ x)) (by simp) (ae6 C.2) (sN λp hp=>s p.2 (by simp only[Op.operands];simp;exact⟨p.1,by simpa using hp⟩)) (by simpa[aeE]using hi) (d:=d);exact this.runs|false=>rw[am]at e;obtain⟨rfl,rfl⟩:=e;have:=Ij (n:=n) M Y hg V (ty hl) hx (by simp;exact ax C.1) (vl:=ps.map λ(i,x)=>(i,ρ x)) (by simp) (ae6 C.2) (sN λp hp=>s p.2 (by simp only[Op.operands];simp;exact⟨p.1,by simpa using hp⟩)) (by simpa[aeE]using hi);simp only[aeE]at this;exact this.runs};{exact e.elim}};{exact e.elim}|load t a=>simp only[aQ]at e;have ha:=s a (by simp[Op.operands]);split at e;{rename_i u c hl hc;rw[hc]at ha;unfold IG at e;split at e;{rename_i u' x;split at e;{rename_i y D;obtain⟨rfl,rfl⟩:=bw D;obtain⟨rfl,rfl⟩:=e;exact(OA M d (ty hl) ha).runs};{exact e.elim}};{rename_i id off;split at e;{rename_i cs ho;cases C:ae3 (off+u.size) cs.length with|false=>simp only[C]at e;exact e.elim|true=>simp only[C,ai]at e;obtain⟨rfl,rfl⟩:=e;(have J:h id≠U:=by obtain⟨⟨a8,hh⟩,_⟩:=ha;exact bn hh);exact(Om M d (ty hl) ha (hg id _ ho J) (ae6 C)).runs};{exact e.elim}};{rename_i id i off;split at e;{rename_i dp el xs ho;(have J:h id≠U:=by obtain⟨⟨_,_,_,hh,_⟩,_⟩:=ha;exact bn hh);have ab:=hg id _ ho J;cases C:ae3 (off+u.size) el.size with|false=>simp only[C]at e;exact e.elim|true=>simp only[C,ai]at e;cases hp:(!dp||cQ (((flat el el.zero).drop off).take u.size))with|true=>simp only[hp,ai]at e;obtain⟨y,D,H⟩:=e;simp only[Prod.mk.injEq]at H;obtain⟨rfl,rfl⟩:=H;exact(OD M d (ty hl) ha ab (ae6 C) D hp).runs|false=>simp only[hp,aj]at e;(have av:dp=true:=by cases dp<;>simp_all);subst av;split at e;{rename_i u1 z u2 hz;cases hu:ae (u1=u2)with|false=>simp only[hu]at e;exact e.elim|true=>simp only[hu,ai]at e;have hu:=of_decide_eq_true hu;subst hu;obtain⟨y,D,H⟩:=e;simp only[Prod.mk.injEq]at H;obtain⟨rfl,rfl⟩:=H;exact(Ou M d (ty hl) ha ab (ae6 C) D hz).runs};{exact e.elim}};{exact e.elim}};{exact e.elim}};{exact e.elim}|binOp a9 t x y Q=>simp only[aQ]at e;have hx:=s x (by simp[Op.operands]);have D:=s y (by simp[Op.operands]);split at e;{rename_i a b ha C;rw[ha]at hx;rw[C]at D;have:=VW (ox:=x) (oy:=y) M d (xT:=t) (λan=>by split at an;{rename_i hl;exact ty hl};{cases an}) e hx D;exact this.runs};{rename_i a b ha C;rw[ha]at hx;rw[C]at D;split at e;{rename_i u hl;exact(abW (ox:=x) (oy:=y) M d (hq _ (cU hl)) e hx D).runs};{exact e.elim}};{exact e.elim}|unOp bc t x=>simp only[aQ]at e;have hx:=s x (by simp[Op.operands]);split at e;{rename_i a ha;rw[ha]at hx;exact(acn M d e hx).runs};{exact e.elim}|makeSlice t l c=>simp only[aQ]at e;have h1:=s l (by simp[Op.operands]);have F:=s c (by simp[Op.operands]);split at e;{rename_i u n k hl hn hk;rw[hn]at h1;rw[hk]at F;obtain⟨hc,rfl,rfl⟩:=e;simp only[ak,au]at hc;obtain⟨K,_⟩:=dx (h:=h) (S:=S) (w:=w) (m:=m) h1;obtain⟨e2,_⟩:=dx (h:=h) (S:=S) (w:=w) (m:=m) F;simp only[K,e2];exact(Kf M Y V (ty hl) hc.1.1 hc.1.2 hc.2).runs};{exact e.elim}|slice t x lo hi mx=>(cases mx with|some mx=>(cases hi with|none=>simp only[aQ]at e;exact e.elim|some hi=>simp only[aQ]at e;have hx:=s x (by simp[Op.operands]);have I:∀y,lo=O y->bU h S w m (ev y) (ρ y):=λy D=>s y (by simp[Op.operands,D]);have W:bU h S w m (ev hi) (ρ hi):=s hi (by simp[Op.operands]);have aE:bU h S w m (ev mx) (ρ mx):=s mx (by simp[Op.operands]);split at e;{rename_i Q t1 xs l r n hl A L N a0;rw[A]at hx;cases hu:(ae (t1=Q)&& (ae (l=0)&&ae (r=0)&&ae (n=0)))with|false=>simp only[hu]at e;exact e.elim|true=>simp only[hu,ai]at e;simp only[ak,au]at hu;obtain⟨rfl,⟨rfl,rfl⟩,rfl⟩:=hu;obtain⟨rfl,rfl⟩:=e;have K:ρ hi=.int .i64 0:=jG (dflt:=0) (o:=O hi) (λy D=>by cases D;exact W) (by simpa[bound]using N);have e2:ρ mx=.int .i64 0:=jG (dflt:=0) (o:=O mx) (λy D=>by cases D;exact aE) (by simpa[bound]using a0);have q:=G5 M Y V (ty hl) hx (jG I L);simp only[aff,K,e2];exact q.runs};{exact e.elim})|none=>simp only[aQ]at e;have hx:=s x (by simp[Op.operands]);have I:∀y,lo=O y->bU h S w m (ev y) (ρ y):=λy D=>s y (by simp[Op.operands,D]);have W:∀y,hi=O y->bU h S w m (ev y) (ρ y):=λy D=>s y (by simp[Op.operands,D]);split at e;{rename_i Q t1 xs hl A;rw[A]at hx;cases hu:ae (t1=Q)with|false=>simp only[hu]at e;exact e.elim|true=>simp only[hu,ai]at e;have hu:=of_decide_eq_true hu;subst hu;split at e;{rename_i l r L N;obtain⟨ys,ad,H⟩:=e;simp only[Prod.mk.injEq]at H;obtain⟨rfl,rfl⟩:=H;exact(LB M d (ty hl) hx (jG I L) (jG W N) ad).runs};{exact e.elim}};{rename_i xs hl A;rw[A]at hx;split at e;{rename_i l r L N;obtain⟨ys,ad,H⟩:=e;simp only[Prod.mk.injEq]at H;obtain⟨rfl,rfl⟩:=H;exact(IK M d (ty hl) hx (jG I L) (jG W N) ad).runs};{exact e.elim}};{rename_i Q id hl A;rw[A]at hx;split at e;{rename_i dp t xs ho;(have J:h id≠U:=by obtain⟨⟨_,_,_,hh⟩,_⟩:=hx;rw[hh];simp);have ab:=hg id _ ho J;cases hu:(ae (t=Q)&&E.win.any (ae2 d))with|false=>simp only[hu]at e;exact e.elim|true=>simp only[hu,ai]at e;simp only[ak,au]at hu;obtain⟨rfl,_⟩:=hu;split at e;{rename_i l r L N;obtain⟨hc,rfl,rfl⟩:=e;simp only[ak,au]at hc;obtain⟨v',q1,q2⟩:=LY (P:=P) M (ty hl) ab hx (jG I L) (jG W N) hc.1 hc.2.1 hc.2.2;exact(gC.same (v:=.one (.vw id (.win l.toNat r.toNat))) M d (q1 w) q2).runs};{exact e.elim}};{exact e.elim}};{exact e.elim})|fieldAddr t a f=>simp only[aQ]at e;have ha:=s a (by simp[Op.operands]);split at e;{rename_i u c hl hc;rw[hc]at ha;cases hf:fieldAt u f with|none=>rw[hf]at e;exact e.elim|some p=>rw[hf]at e;refine(Jj M d (ty (ep hl).1) (ep hl).2 hf ha ?_).runs;cases c<;>exact e};{exact e.elim}|field t x f=>simp only[aQ]at e;have hx:=s x (by simp[Op.operands]);split at e;{rename_i u cs hl hc;rw[hc]at hx;split at e;{rename_i p hf;cases C:ae3 (p.1+p.2.size) cs.length with|false=>simp only[C]at e;exact e.elim|true=>simp only[C,ai]at e;obtain⟨rfl,rfl⟩:=e;exact(SS M d (ty (ep hl).1) (ep hl).2 hf hx (ae6 C)).runs};{exact e.elim}};{exact e.elim}|indexAddr t x i=>simp only[aQ]at e;have hx:=s x (by simp[Op.operands]);have hi:=s i (by simp[Op.operands]);split at e;{rename_i Q t1 xs k n hl A hn;rw[A]at hx;rw[hn]at hi;cases hu:ae (t1=Q)with|false=>simp only[hu]at e;exact e.elim|true=>simp only[hu,ai]at e;have hu:=of_decide_eq_true hu;subst hu;obtain⟨y,D,H⟩:=e;simp only[Prod.mk.injEq]at H;obtain⟨rfl,rfl⟩:=H;have:=(KR (P:=P) (k:=k) M d (ty hl) hx D).runs;rw[<-(dx (h:=h) (S:=S) (w:=w) (m:=m) hi).1]at this;exact this};{rename_i Q id k n hl A hn;rw[A]at hx;rw[hn]at hi;split at e;{rename_i dp t1 xs ho;cases hu:ae (t1=Q)with|false=>simp only[hu]at e;exact e.elim|true=>simp only[hu,ai]at e;have hu:=of_decide_eq_true hu;subst hu;obtain⟨hc,rfl,rfl⟩:=e;simp only[ak,au]at hc;(have J:h id≠U:=by obtain⟨⟨_,_,_,hh⟩,_⟩:=hx;exact bn hh);have:=(Ln (P:=P) (k:=k) M d (ty hl) hx (hg id _ ho J) hc.1 hc.2).runs;rw[<-(dx (h:=h) (S:=S) (w:=w) (m:=m) hi).1]at this;exact this};{exact e.elim}};{rename_i Q id k n hl A hn;rw[A]at hx;rw[hn]at hi;split at e;{rename_i t1 q xs ho;cases hu:ae (t1=Q)with|false=>simp only[hu]at e;exact e.elim|true=>simp only[hu,ai]at e;have hu:=of_decide_eq_true hu;subst hu;obtain⟨hc,rfl,rfl⟩:=e;simp only[ak,au]at hc;(have J:h id≠U:=by obtain⟨_,hh,_⟩:=hx;exact bn hh);have:=(Io (P:=P) (k:=k) M d (ty hl) hx (hg id _ ho J) hc.1 hc.2).runs;rw[<-(dx (h:=h) (S:=S) (w:=w) (m:=m) hi).1]at this;exact this};{exact e.elim}};{rename_i Q id i1 off K y1 k n hl A hn;rw[A]at hx;rw[hn]at hi;split at e;{rename_i u z hf;cases hu:ae (u=Q)with|false=>simp only[hu]at e;exact e.elim|true=>simp only[hu,ai]at e;have hu:=of_decide_eq_true hu;subst hu;obtain⟨hc,rfl,rfl⟩:=e;simp only[ak,au]at hc;have:=(Lc (P:=P) (k:=k) M d (ty hl) hx hf hc.1 hc.2).runs;rw[<-(dx (h:=h) (S:=S) (w:=w) (m:=m) hi).1]at this;exact this};{exact e.elim}};{rename_i u id off k n hl A hn;rw[A]at hx;rw[hn]at hi;split at e;{rename_i p hp;cases C:ae (0<=n)&&ae (n<p.1)with|false=>rw[C]at e;exact e.elim|true=>rw[C]at e;simp only[ai]at e;obtain⟨rfl,rfl⟩:=e;simp only[ak,au]at C;have:=(JN (P:=P) (k:=k) M d (ty hl) hp hx C.1 C.2).runs;rw[<-(dx (h:=h) (S:=S) (w:=w) (m:=m) hi).1]at this;exact this};{exact e.elim}};{exact e.elim}|index t x i=>simp only[aQ]at e;have hx:=s x (by simp[Op.operands]);have hi:=s i (by simp[Op.operands]);split at e;{rename_i xs k n hl A hn;rw[A]at hx;rw[hn]at hi;obtain⟨y,D,H⟩:=e;simp only[Prod.mk.injEq]at H;obtain⟨rfl,rfl⟩:=H;have:=(I5 (P:=P) (k:=k) M d (ty hl) hx D).runs;rw[<-(dx (h:=h) (S:=S) (w:=w) (m:=m) hi).1]at this;exact this};{exact e.elim}|extract x i=>simp only[aQ]at e;have hx:=s x (by simp[Op.operands]);split at e;{rename_i l hl;rw[hl]at hx;split at e;{rename_i p hp;obtain⟨rfl,rfl⟩:=e;exact(OO M d hx hp).runs};{exact e.elim}};{exact e.elim}|makeFunc fn first captured=>simp only[aQ]at e;split at e;{rename_i g caps h1 F;obtain⟨rfl,rfl⟩:=e;refine⟨.func (.func g) #[] (captured.map ρ),w,S,m,?_,fP.same M d ⟨_,rfl,?_⟩⟩;{(have hf:first= #[]:=by rw[<-Array.toArray_toList (xs:=first),h1]);subst hf;simp[Instr.makeFunc]};{rw[Array.toList_map];(have:∀(l:List Operand) (caps:List yH),Mn (l.map ev)=O caps->(∀x∈l,bU h S w m (ev x) (ρ x))->mh S w caps (l.map ρ):=by intro l;induction l with|nil=>intro caps e _;cases e;rfl|cons x l ih=>intro caps e hx;simp only[aeS]at e;cases hc:ev x with|one c=>rw[hc]at e;(cases c with|pc t y=>simp only[Mn,ay,aw]at e;obtain⟨l',K,rfl⟩:=e;have h0:=hx x (by simp);rw[hc]at h0;exact⟨ρ x,l.map ρ,rfl,h0,ih l' K λy D=>hx y (by simp[D])⟩|_=>cases e)|_=>rw[hc]at e;cases e);exact this captured.toList caps F λx hx=>s x (by simp[Op.operands];exact .inr (Array.mem_toList_iff.1 hx))}};{exact e.elim}|convert src dst x=>simp only[aQ]at e;split at e;{rename_i k0 k k1 n h1 F h3;obtain⟨rfl,rfl⟩:=e;have hx:=s x (by simp[Op.operands]);rw[h3]at hx;obtain⟨_,H,hw⟩:=hx;(have H:ρ x=.int k1 n:=by simpa using H);obtain⟨d1,a1,a2⟩:=fG (ty h1);obtain⟨d2,a3,a4⟩:=fG (ty F);(have R:∀{dd:TypeDesc} {kk:IntKind},oB P dd (.int kk)=true->dd=.int kk:=λ{dd kk} h=>by cases dd<;>simp[oB,Ty.isAgg]at h;subst h;rfl);have e2:d2=.int k:=R a4;have K:∃kk,d1=.int kk:=⟨_,R a2⟩;obtain⟨kk,rfl⟩:=K;subst e2;refine⟨.int k (k.wrap n),w,S,m,?_,fP.same M d (ij (iq k n))⟩;simp only[H];simp[convert,run_underlying a1,run_underlying a3,Conv.intToInt]};{rename_i c h1 F h3;split at e;{rename_i xs A;obtain⟨rfl,rfl⟩:=e;have hx:=s x (by simp[Op.operands]);rw[h3]at hx;exact(SR M hg d (ty h1) (ty F) A hx).runs};{exact e.elim}};{exact e.elim}|nilCheck x=>simp only[aQ]at e;have hx:=s x (by simp[Op.operands]);(have keep:∀(c:aS),bU h S w m (.one c) (ρ x)->(∃a,ρ x=.pointer (O a))->PZ P h S w m B M0 d (.one c) [] (execOp ρ ⟨ag,.nilCheck x,oty,al,Z,aa⟩):=by intro c hc ⟨a,ha⟩;refine⟨.pointer (O a),w,S,m,?_,fP.same M d (ha▸hc)⟩;simp only[execOp,ha];rfl);split at e;{rename_i id off hc;obtain⟨rfl,rfl⟩:=e;rw[hc]at hx;exact keep _ hx (by obtain⟨_,_,b,_,_,h3⟩:=hx;exact⟨_,h3⟩)};{rename_i id i off hc;obtain⟨rfl,rfl⟩:=e;rw[hc]at hx;exact keep _ hx (by obtain⟨_,_,_,_,_,_,_,h3⟩:=hx;exact⟨_,h3⟩)};{rename_i t y hc;obtain⟨rfl,rfl⟩:=e;rw[hc]at hx;exact keep _ hx (by obtain⟨_,_,_,h3,_⟩:=hx;exact⟨_,h3⟩)};{exact e.elim}|call c=>simp only[aQ]at e;obtain⟨callee,args,argTypes⟩:=c;have G:∀x∈args,bU h S w m (ev x) (ρ x):=λx hx=>s x (by simp[Op.operands,Call.operands,hx]);(cases callee with|value f=>exact e.elim|invoke r n=>exact e.elim|builtin b=>obtain⟨args⟩:=args;cases b<;>simp only at e<;>(try exact e.elim);{split at e;{rename_i st ao cx af has;obtain rfl:argTypes= #[st,ao]:=aej af;obtain⟨a,b,rfl,ha,C⟩:=wD has;have h1:=G a (by simp);have F:=G b (by simp);rw[ha]at h1;rw[C]at F;split at e;{rename_i t hl;cases hc:(ae2 st ao&&!(t.leads&&!(dI [cx]).isEmpty))with|false=>rw[hc]at e;exact e.elim|true=>rw[hc]at e;simp only[ai]at e;simp only[ak,aep]at hc;have:=ax hc.1;subst this;cases hs:I6 get t cx with|none=>rw[hs]at e;exact e.elim|some ys=>rw[hs]at e;obtain⟨hle,rfl,rfl⟩:=e;obtain⟨v',w',S',m',q1,q2⟩:=JC (oty:=oty) M Y hg V (ty hl) hs (of_decide_eq_true hle) (by intro a5;have:=hc.2;rw[a5]at this;simpa using this) h1 F;refine⟨v',w',S',m',?_,q2⟩;simp[resolve,invoke,builtin,q1]};{exact e.elim}};{exact e.elim}};{split at e;{rename_i t a af has;obtain rfl:argTypes= #[t]:=aej af;obtain⟨x,rfl,a6⟩:=SC has;{have hx:=G x (by simp);rw[a6]at hx;cases hl:look E.T t with|none=>rw[hl]at e;exact e.elim|some u=>rw[hl]at e;simp only at e;cases hn:TI get u a with|none=>rw[hn]at e;exact e.elim|some n=>rw[hn]at e;obtain⟨rfl,rfl⟩:=e;obtain⟨v',w',S',m',h1,F⟩:=W5 (ty:=oty) M hg d (ty hl) hx hn;refine⟨v',w',S',m',?_,F⟩;simp[resolve,invoke,builtin,h1]}};{exact e.elim}};{split at e;{rename_i j x j' y has;obtain⟨a,b,rfl,ha,C⟩:=wD has;{have h1:=G a (by simp);have F:=G b (by simp);rw[ha]at h1;rw[C]at F;obtain⟨K,w1⟩:=dx (h:=h) (S:=S) (w:=w) (m:=m) h1;obtain⟨e2,w2⟩:=dx (h:=h) (S:=S) (w:=w) (m:=m) F;cases X:ae (j=j')with|false=>simp only[X]at e;exact e.elim|true=>simp only[X,ai]at e;have X:=of_decide_eq_true X;subst X;obtain⟨rfl,rfl⟩:=e;obtain⟨v',w',S',m',h1,F⟩:=Xk (P:=P) (ts:=argTypes) (ty:=oty) M d w1 w2;refine⟨v',w',S',m',?_,F⟩;simp[resolve,invoke,builtin,K,e2,h1]}};{exact e.elim}};{split at e;{rename_i j x j' y has;obtain⟨a,b,rfl,ha,C⟩:=wD has;{have h1:=G a (by simp);have F:=G b (by simp);rw[ha]at h1;rw[C]at F;obtain⟨K,w1⟩:=dx (h:=h) (S:=S) (w:=w) (m:=m) h1;obtain⟨e2,w2⟩:=dx (h:=h) (S:=S) (w:=w) (m:=m) F;cases X:ae (j=j')with|false=>simp only[X]at e;exact e.elim|true=>simp only[X,ai]at e;have X:=of_decide_eq_true X;subst X;obtain⟨rfl,rfl⟩:=e;obtain⟨v',w',S',m',h1,F⟩:=WE (P:=P) (ts:=argTypes) (ty:=oty) M d w1 w2;refine⟨v',w',S',m',?_,F⟩;simp[resolve,invoke,builtin,K,e2,h1]}};{exact e.elim}})|_=>simp only[aQ]at e;exact e.elim
end
end Go.Ab
