/-
  A number put into a rising list: the list itself, or a new one.
-/
import Derived.Test.YtkemmodgpafkmaaGreatDoorXStr
import Derived.Test.YtkemmodgpafkmaaGreatDoorSIT
import Derived.Test.YtkemmodgpafkmaaGreatDoorSIL
import Derived.Test.YtkemmodgpafkmaaGreatDoorSIP
import Derived.Test.YtkemmodgpafkmaaGreatDoorChecked
import Derived.KernelRfl
open Array renaming getD_eq_getD_getElem?->afY,getElem?_append_left->afZ,replicate->ael
open Decidable renaming decide->ae
open Int renaming tdiv->agA,tmod->agB,toNat->agC
open List renaming getD_eq_getElem?_getD->afp,isEmpty->aeO,length->aeP,replicate->aeU
open Nat renaming beq->ae2,le_succ->afR,zero_le->afc
open Option renaming none->U,some->O
namespace Sh
open Go Go.Ab Go.Proofs
set_option maxRecDepth 100000
theorem Va:Tryz.prog.follows .mixedOrders=true:=by kernel_rfl
noncomputable def putAt(a:List Int)(b:Int):Option Int:=aX (λ(st2:Int)=>((bif(ae (st2<(a.length:Int)))then(idx a st2).bind λc=>O (ae (c<b))else O false).bind λc4=>bif c4 then O (.inl (aW (st2+1)))else O (.inr st2):Option ((Int)⊕(Int)))) 0
noncomputable def ko(a:List Int)(b:Int):Option Bool:=(putAt a b).bind λc=>(bif(ae (c<(a.length:Int)))then(idx a c).bind λd=>O (ae (d=b))else O false).bind λe=>O e
noncomputable def nj(a:List Int)(b:Int):Option (List Int):=(putAt a b).bind λc=>(bif(ae (c<(a.length:Int)))then(idx a c).bind λf=>O (ae (f=b))else O false).bind λg=>bif g then U else(sub a 0 c).bind λd=>bif ae (aeP d<=lim)then bif ae (aeP d+aeP [b]<=lim)then(sub a c (a.length:Int)).bind λe=>bif ae (aeP (d++[b])+aeP e<=lim)then O ((d++[b])++e)else U else U else U
noncomputable def vp:sP:=⟨{ps:=[.val (.slice (.int .i64)),.val (.int .i64)],rs:=[.own (.slice (.int .i64))],fn:=λx=>nj x.1 x.2},λx=>ko x.1 x.2⟩
noncomputable def LH:Env:={T:=[(3,(.int .i64)),(26,(.slice (.int .i64)))],G:=[],ro:=[],loops:=[(2,{keep:=[0,1,26,27,28,29,30,31],live:=[.tv 5 (.int .i64)],outs:=[(.exit 0,[.tv 5 (.int .i64)])]})],joins:=[]}
theorem put_eq:∀x,uW LH Tryz.f51 vp.C.ps vp.C.rs x=vp.C.fn x:=λx=>by kernel_rfl
theorem vN:Go.Ab.Good Tryz.prog LH:=⟨Hv (by kernel_rfl),I3,Va,kQ⟩
theorem GV:Sound Tryz.prog 51 vp.C:=AA (E:=LH) vN Tryz.func51 rfl put_eq
noncomputable def uo:Code->Code×Code
 |.seq a b=>(a,b)
 |c=>(c,.skip)
noncomputable def Qa(fn:Func):Code:=fn.body.getD .skip
noncomputable def c0:Code:=(uo (Qa Tryz.f51)).1
noncomputable def r0:Code:=(uo (Qa Tryz.f51)).2
noncomputable def c1:Code:=(uo r0).1
noncomputable def r1:Code:=(uo r0).2
noncomputable def c2:Code:=(uo r1).1
noncomputable def r2:Code:=(uo r1).2
noncomputable def c3:Code:=(uo (uo r2).1).1
noncomputable def r3:Code:=(uo r2).2
noncomputable def Xv:Oper:={dst:=O 33,op:=.move (.tmp 0),type:=26,pos:= "l1_signal.go:148",after:= #[],guard:=U}
noncomputable def o4:Oper:={dst:=O 4,op:=.assign (.tmp 33),type:=26,pos:= "l1_signal.go:148",after:= #[⟨0,.data⟩,⟨0,.phase⟩],guard:=U}
theorem PE:Tryz.f51.body=O (.seq c0 (.seq c1 (.seq c2 (.seq (.seq c3 (.cond (.tmp 32) (.seq (.region 5 #[Xv,o4] false) .ret) .skip)) r3)))):=by kernel_rfl
noncomputable def k3:dV->AS->Option Bool:=λe s=>match e with
  |.normal=>aY.uO (s.ev (.tmp 32))
  |_=>U
noncomputable def k2:dV->AS->Option Bool:=λe s=>match e with
  |.normal=>lz LH c3 s k3
  |_=>U
noncomputable def k1:dV->AS->Option Bool:=λe s=>match e with
  |.normal=>lz LH c2 s k2
  |_=>U
noncomputable def k0:dV->AS->Option Bool:=λe s=>match e with
  |.normal=>lz LH c1 s k1
  |_=>U
theorem Tp(x:bS (PK.dw vp.C.ps)):lz LH c0 {ρ:=(bY vp.C.ps x 0).1++aeU (Tryz.f51.ntmps-(bY vp.C.ps x 0).1.length) (.one .und),h:=[],t:=0} k0=ko x.1 x.2:=by kernel_rfl
theorem O9:(!(Go.Ab.dstsOf c0).any (ae2 0)&& (!(Go.Ab.dstsOf c1).any (ae2 0)&& (!(Go.Ab.dstsOf c2).any (ae2 0)&&!(Go.Ab.dstsOf c3).any (ae2 0))))=true:=by kernel_rfl
theorem HZ{l:List Nat}(h:l.any (ae2 0)=false):0∉l:=λhm=>by
  have:=List.any_eq_false.1 h 0 hm;simp at this
theorem RR(w:World)(v:Value)(us:List Value)(x:bS (PK.dw vp.C.ps))(S:bu)(hT:lU w w.heap.size (λ_=>False))(F:∀q,S q->q<w.heap.size)(b:cN S w vp.C.ps (v::us) x (λ_=>False))(n:vp.same x=O true):Calls Tryz.prog 51 (v::us).toArray w λe w'=>e=.returned v/\Grow w w':=by have n:ko x.1 x.2=O true:=n;rw[<-Tp]at n;obtain⟨i1,i2,i3,i4⟩:=nQ (ps:=vp.C.ps) (x:=x) 0 rfl b;generalize s:bY vp.C.ps x 0=G at*;obtain⟨vs,h⟩:=G;simp only at i1 i2 i4 n;subst i1;obtain⟨a,f⟩:∃l,l=v::us:=⟨_,rfl⟩;rw[<-f]at i2 i4⊢;let a0:Act:={tmps:=a.toArray++ael (Tryz.f51.ntmps-a.toArray.size) undef,defers:=[]};(have H:Rel w w.heap.size (λ_=>False) S (λ_=>U) {ρ:=vs++aeU (Tryz.f51.ntmps-vs.length) (.one .und),h:=[],t:=0} a0 w:=by refine⟨{obj:=λid o (e:U=O o)=>(nomatch e),dis:=λi j c d _ hi=>absurd rfl hi,apart:=λi c hi=>absurd rfl hi,lt:=F},⟨rfl,rfl,rfl,aB _,λ_ _ _=>rfl,λ_ _=>rfl,λp hp=>⟨(hT p hp).1,λh=>h,(hT p hp).2.2⟩⟩,λi=> ?_,by simp[a0,i2],rfl⟩;by_cases hi:i<vs.length;{(have h1:(vs++aeU (Tryz.f51.ntmps-vs.length) (aY.one .und)).getD i (.one .und)=vs[i]:=by rw[afp,List.getElem?_append_left hi];simp[hi]);(have g:a0.tmps.getD i undef=a[i]'(by omega):=by show(a.toArray++ael _ undef).getD i undef=_;rw[afY,afZ (by simp;omega)];simp[show i<a.length by omega]);show bU _ _ _ _ ((vs++aeU (Tryz.f51.ntmps-vs.length) (aY.one .und)).getD i (.one .und)) _;rw[h1,g];exact i4 i _ _ (by simp[hi]) (by simp[show i<a.length by omega])};{(have h1:(vs++aeU (Tryz.f51.ntmps-vs.length) (aY.one .und)).getD i (.one .und)=.one .und:=by rw[afp,aI (by omega),List.getElem?_replicate];split<;>rfl);show bU _ _ _ _ ((vs++aeU (Tryz.f51.ntmps-vs.length) (aY.one .und)).getD i (.one .und)) _;rw[h1];exact trivial});have hk:=O9;simp only[ak,Bool.not_eq_true']at hk;obtain⟨I,J,L,n3⟩:=hk;(have t0:a0.tmps.getD 0 undef=v:=by show(a.toArray++ael _ undef).getD 0 undef=v;rw[afY,afZ (by rw[f];simp),f];simp);(have hlen:a0.tmps.size=48:=by show(a.toArray++ael (Tryz.f51.ntmps-a.toArray.size) undef).size=48;(have u:Tryz.f51.ntmps=48:=by kernel_rfl);(have g:a.length=2:=by rw[<-i2];(have:vs=(bY vp.C.ps x 0).1:=by rw[s]);rw[this];rfl);simp only[Array.size_append,List.size_toArray,Array.size_replicate,u,g]);refine calls_of_wp Tryz.func51 PE (wp_seq (df vN (aB _) c0 H n λe s1 N P Q m1 h1 G1=> ?_));cases e with|exit i=>cases h1|ret=>cases h1|normal=>refine wp_seq (df vN (aB _) c1 G1.rel (k:=k1) h1 λe s2 a2 R T m2 g y=> ?_);cases e with|exit i=>cases g|ret=>cases g|normal=>refine wp_seq (df vN (aB _) c2 y.rel (k:=k2) g λe V a3 W S3 m3 z G3=> ?_);cases e with|exit i=>cases z|ret=>cases z|normal=>refine wp_seq (wp_seq (df vN (aB _) c3 G3.rel (k:=k3) z λe X a4 D S4 m4 A r=> ?_));cases e with|exit i=>cases A|ret=>cases A|normal=>have M:=lY r.rel A;(have t4:a4.tmps.getD 0 undef=v:=by rw[r.keep 0 (HZ n3),G3.keep 0 (HZ L),y.keep 0 (HZ J),G1.keep 0 (HZ I),t0]);(have E:a4.tmps.size=48:=by rw[r.len,G3.len,y.len,G1.len,hlen]);have m:=r.rel.fF;refine wp_cond_true M (wp_seq (wp_region_list ?_));refine wpList_plain rfl λK B=>lV (v':=v) (w':=D) ?_ (B _ _ ?_);{simp[Xv,execOp,Act.eval,t4]};refine wpList_plain rfl λK B=>lV (v':=v) (w':=D) ?_ (B _ _ (wpList_nil ?_));{simp[Xv,o4,execOp,Act.eval,Act.put,E]};refine wp_ret ⟨r.rel.defers,v,?_,rfl,⟨m.os,m.tape,m.output,m.size,λq hq=>m.block q hq λh=>h,m.fz⟩⟩;simp[results,Xv,o4,Act.put,E]
theorem Ds:MT Tryz.prog 51 vp:=⟨GV,RR⟩
end Sh
namespace Sh
open Go Go.Ab Go.Proofs
abbrev WY:Ty:=.pair (.int .i64) (.pair (.int .i64) (.pair (.slice (.int .i64)) (.pair (.int .i64) .unit)))
theorem QF:xz Tryz.prog 212 T3:=IL.Kg
theorem PW:xz Tryz.prog 197 WC:=IP.Kg
theorem Po:xz Tryz.prog 270 WY:=IT.Kg
theorem cz{R:Type}(a:Option R):bN a a=a:=by unfold bN;simp
theorem zt:Tryz.prog.follows .mixedOrders=true:=by kernel_rfl
def SF(f:FuncId)(C:aR):Prop:=Sound Tryz.prog f C/\lK Tryz.prog f
abbrev vI:PK:=.val (.int .i64)
abbrev vS:PK:=.val .str
abbrev vB:PK:=.val .bool
abbrev rI:RK:=.val (.int .i64)
abbrev rS:RK:=.val .str
abbrev rB:RK:=.val .bool
theorem qN{f:FuncId}{fn:Func}(hf:Tryz.prog.funcs[f]? =O fn)(h:((fn.name== "runtime.NumGoroutine")||fn.body.isNone)=false):lK Tryz.prog f:=by rw[Bool.or_eq_false_iff]at h;exact⟨fn,hf,h.1,h.2⟩
abbrev PF:={p:Nat×aR // Sound Tryz.prog p.1 p.2/\lK Tryz.prog p.1}
instance {f:FuncId} {C:aR}:CoeOut (SF f C) PF:=⟨λh=>⟨(f,C),h⟩⟩
def gl:List PF->List (Nat×aR)
 |[]=>[]
 |a::r=>a.1::gl r
theorem Ww:(l:List PF)->∀p∈gl l,Sound Tryz.prog p.1 p.2/\lK Tryz.prog p.1
 |[],_,h=>nomatch h
 |a::r,p,h=>(List.mem_cons.1 h).elim (λe=>e▸a.2) (Ww r p)
section
variable {E:Env} (hT:∀p∈E.T,dB Tryz.prog p.1 p.2=true) (hG:∀p∈E.G,Sound Tryz.prog p.1 p.2/\lK Tryz.prog p.1) (hI:yV Tryz.prog E.ins E.del E.sel E.eqs E.keepc) {f:FuncId} {fn:Func} (hf:Tryz.prog.funcs[f]? =O fn) (ho:((fn.name== "runtime.NumGoroutine")||fn.body.isNone)=false)
include hT hG hI hf ho
theorem fV{C:aR}(a:ct C.ps=true)(he:∀x,uW E fn C.ps C.rs x=C.fn x):SF f C:=⟨AA ⟨hT,hG,zt,hI⟩ hf a he,qN hf ho⟩
variable {t:Ty} {ps:List PK} {rs:List RK}
theorem fO{gf:bS (PK.dw (.own t::ps))->Option (bS (PK.dY (.own t::ps) (RK.dw rs)))}(hav:ct ps=true)(a:fW rs=true)(he:∀x,uW E fn (.own t::ps) rs x=gf x):SF f ⟨.own t::ps,rs,gf⟩:=⟨Fu ⟨hT,hG,zt,hI⟩ hf hav a he,qN hf ho⟩
theorem fB{gf:bS (PK.dw (.dt t::ps))->Option (bS (PK.dY (.dt t::ps) (RK.dw rs)))}(hav:ct ps=true)(he:∀x,uW E fn (.dt t::ps) rs x=gf x):SF f ⟨.dt t::ps,rs,gf⟩:=⟨FA ⟨hT,hG,zt,hI⟩ hf hav he,qN hf ho⟩
theorem fX{gf:bS (PK.dw (.cK t::ps))->Option (bS (PK.dY (.cK t::ps) (RK.dw rs)))}(hav:ct ps=true)(a:fW rs=true)(he:∀x,uW E fn (.cK t::ps) rs x=gf x):SF f ⟨.cK t::ps,rs,gf⟩:=⟨DR ⟨hT,hG,zt,hI⟩ hf hav a he,qN hf ho⟩
end
set_option maxRecDepth 100000
noncomputable section
abbrev tI:Ty:=.int .i64
abbrev w7:Ty:=.pair (.slice (.int .u8)) (.pair tI (.pair (.int .u64) .unit))
abbrev cF:Type:=(List Int)×Int×Int×Unit
abbrev aU:Ty:=.pair tI (.pair tI (.pair tI .unit))
abbrev aO:Type:=Int×Int×Int×Unit
abbrev bJ:Ty:=.pair .str (.pair (.slice tI) .unit)
abbrev aV:Type:=Bytes×(List Int)×Unit
abbrev rV:Ty:=.pair (.slice tI) (.pair (.slice tI) .unit)
abbrev wm:Type:=(List Int)×(List Int)×Unit
abbrev cE:Ty:=.pair tI (.pair tI (.pair (.slice tI) .unit))
abbrev bM:Type:=Int×Int×(List Int)×Unit
abbrev bt:Ty:=.pair tI (.pair tI (.pair (.slice tI) (.pair tI .unit)))
abbrev aT:Type:=Int×Int×(List Int)×Int×Unit
abbrev cO:Ty:=.pair (.slice bJ) .unit
abbrev bE:Type:=(List aV)×Unit
abbrev dH:Ty:=.pair (.slice aU) (.pair (.slice aU) .unit)
abbrev b9:Type:=(List aO)×(List aO)×Unit
abbrev xn:Ty:=.pair dH (.pair (.slice aU) (.pair cO (.pair cE (.pair (.slice bt) (.pair (.slice aU) (.pair (.slice .str) .unit))))))
abbrev Hq:Type:=b9×(List aO)×bE×bM×(List aT)×(List aO)×(List Bytes)×Unit
abbrev jH:Ty:=.pair dH (.pair (.slice aU) (.pair cO (.pair cE (.pair (.slice bt) (.pair (.slice aU) (.pair .raw .unit))))))
abbrev bp:Type:=b9×(List aO)×bE×bM×(List aT)×(List aO)×Value×Unit
abbrev Eb:Ty:=.pair dH (.pair (.slice aU) (.pair cO (.pair cE (.pair (.slice bt) (.pair (.slice aU) .unit)))))
abbrev bT:Type:=b9×(List aO)×bE×bM×(List aT)×(List aO)×Unit
abbrev gM:Ty:=.pair dH (.pair (.slice aU) (.pair cO (.pair cE (.pair (.slice bt) (.pair (.slice aU) (.pair (.slice tI) (.pair (.slice tI) (.pair tI .unit))))))))
abbrev cB:Type:=b9×(List aO)×bE×bM×(List aT)×(List aO)×(List Int)×(List Int)×Int×Unit
def TT:List (Nat×Ty):=[(3,tI),(4,.bool),(5,(.int .u8)),(9,.str),(26,(.slice tI)),(31,(.slice bt)),(36,(.slice bJ)),(38,cO),(43,(.slice aU)),(44,(.slice aU)),(46,dH),(51,(.slice (.int .u8))),(65,(.slice aU)),(67,cE),(68,(.slice aU)),(69,(.slice .str)),(71,xn),(83,gM),(88,bt),(96,(.int .u64)),(98,w7),(104,aU),(106,aU),(108,bJ),(155,aU),(159,aU),(165,rV),(192,aU),(227,(.slice .bool)),(248,(.pair .unit (.pair tI (.pair tI .unit)))),(249,(.pair .unit (.pair (.pair .unit (.pair tI (.pair tI .unit))) (.pair (.pair .unit (.pair tI (.pair tI .unit))) .unit))))]
theorem tOk:∀p∈TT,dB Tryz.prog p.1 p.2=true:=Hv (by kernel_rfl)
def TR:List (Nat×Ty):=(71,jH)::TT
theorem tR:∀p∈TR,dB Tryz.prog p.1 p.2=true:=Hv (by kernel_rfl)
def eG(G:List PF)(ro:List Nat:=[]):Env:={T:=TT,G:=gl G,ro:=ro}
section
variable (E:Env) {f:FuncId} {fn:Func} (hf:Tryz.prog.funcs[f]? =O fn) (hT:∀p∈E.T,dB Tryz.prog p.1 p.2=true:=by exact tOk) (hI:yV Tryz.prog E.ins E.del E.sel E.eqs E.keepc:=by exact kQ) (hG:∀p∈E.G,Sound Tryz.prog p.1 p.2/\lK Tryz.prog p.1:=by exact Ww _) (ho:((fn.name== "runtime.NumGoroutine")||fn.body.isNone)=false:=by kernel_rfl)
include hf hT hG hI ho
theorem qV{C:aR}(a:ct C.ps=true:=by rfl)(he:∀x,uW E fn C.ps C.rs x=C.fn x:=by intro x;kernel_rfl):SF f C:=fV hT hG hI hf ho a he
variable {t:Ty} {ps:List PK} {rs:List RK} (hav:ct ps=true:=by rfl)
include hav
theorem qO{gf:bS (PK.dw (.own t::ps))->Option (bS (PK.dY (.own t::ps) (RK.dw rs)))}(a:fW rs=true:=by rfl)(he:∀x,uW E fn (.own t::ps) rs x=gf x:=by intro x;kernel_rfl):SF f ⟨.own t::ps,rs,gf⟩:=fO hT hG hI hf ho hav a he
theorem qB{gf:bS (PK.dw (.dt t::ps))->Option (bS (PK.dY (.dt t::ps) (RK.dw rs)))}(he:∀x,uW E fn (.dt t::ps) rs x=gf x:=by intro x;kernel_rfl):SF f ⟨.dt t::ps,rs,gf⟩:=fB hT hG hI hf ho hav he
theorem qX{gf:bS (PK.dw (.cK t::ps))->Option (bS (PK.dY (.cK t::ps) (RK.dw rs)))}(a:fW rs=true:=by rfl)(he:∀x,uW E fn (.cK t::ps) rs x=gf x:=by intro x;kernel_rfl):SF f ⟨.cK t::ps,rs,gf⟩:=fX hT hG hI hf ho hav a he
end
def Cb:Bytes:=[97,98,99,100,101,102,103,104,105,106,107,108,109]
def ft:Bytes:=[97,99,99,101,112,116]
def eV:Bytes:=[97,114,114,105,118,101,100]
def Vz:Bytes:=[98,97,97,98]
def QC:Bytes:=[98,111,97,116]
def dR:Bytes:=[99,111,100,101]
def qj:Bytes:=[100,117,116,121]
def jJ:Bytes:=[102,97,105,108]
def kT:Bytes:=[102,105,114,115,116]
def T9:Bytes:=[102,108,121]
def oM:Bytes:=[102,111,103]
def jq:Bytes:=[104,105,100,101]
def kx:Bytes:=[108,105,110,107]
def EG:Bytes:=[110,111,110,101]
def cu:Bytes:=[112,104,114,97,115,101]
def gY:Bytes:=[114,101,97,100]
def jC:Bytes:=[115,104,105,102,116]
def ig:Bytes:=[116,111,119,101,114]
def cd:Bytes:=[116,111,119,101,114,115]
def sY:Bytes:=[119,97,121]
def eE:Bytes:=[119,104,97,116]
def iT:Bytes:=[119,104,101,114,101]
def cT(c:Int)(b:Int)(a:Int):Option (Bool):=(bif(ae (b<=c))then O (ae (c<=a))else O false).bind λc1=>O c1
def C67:aR:=⟨[vI,vI,vI],[rB],λx=>cT x.1 x.2.1 x.2.2⟩
theorem Mp:SF 67 C67:=qV (eG []) Tryz.func67
def YP:aR:=⟨[vS,vS],[.own (.slice .str)],λx=>tC x.1 x.2⟩
theorem WR:SF 105 YP:=⟨K4,qN Tryz.func105 (by kernel_rfl)⟩
def pH(a:Bytes):Option (Bool):=
 (aX (λ(st2:Int)=>(
 bif(ae (st2<(a.length:Int)))then
 (idx a st2).bind λb=>
 (bif(ae ((b.toNat:Int)<97))then
 O true
 else
 (idx a st2).bind λc=>
 O (ae (122<(c.toNat:Int)))).bind λc5=>
 bif c5 then
 O (.inr (.inr false))
 else
 O (.inl (aW (st2+1)))
 else
 O (.inr (.inl ())):Option ((Int)⊕(Unit⊕Bool)))) 0).bind λd=>
 match d with
 |.inl _=>
  O true
 |.inr e=>
  O e
def Yh:aR:=⟨[vS],[rB],λx=>pH x⟩
theorem UJ:SF 116 Yh:=qV {eG []with loops:=[(2,⟨[0],[.tv 3 tI],[(.exit 0,[]),(.ret,[.tv 2 .bool])]⟩)]} Tryz.func116
def mq(a:Bytes):Option (Bool):=(bif(ae (1<=(a.length:Int)))then O (ae ((a.length:Int)<=40))else O false).bind λc1=>(bif c1 then(pH a).bind λr2=>O r2 else O false).bind λc3=>O c3
def aa3:aR:=⟨[vS],[rB],λx=>mq x⟩
theorem Zm:SF 106 aa3:=qV (eG [UJ]) Tryz.func106
def YU:aR:=⟨[vS],[rI,rB],λx=>BV x⟩
theorem YH:SF 107 YU:=⟨NW,qN Tryz.func107 (by kernel_rfl)⟩
def jT(a:Bytes):Option (Int):=
 (((bif(ae (a=cd))then
 O (ae (a=cd))
 else
 O (ae (a=dR))).bind λb=>
 bif b then
 O (.inr 0)
 else
 (bif(ae (a=cu))then
 O (ae (a=cu))
 else
 bif(ae (a=gY))then
 O (ae (a=gY))
 else
 bif(ae (a=jq))then
 O (ae (a=jq))
 else
 bif(ae (a=jJ))then
 O (ae (a=jJ))
 else
 bif(ae (a=iT))then
 O (ae (a=iT))
 else
 O (ae (a=qj))).bind λc=>
 bif c then
 O (.inr 1)
 else
 (bif(ae (a=ft))then
 O (ae (a=ft))
 else
 O (ae (a=eV))).bind λd=>
 bif d then
 O (.inr 2)
 else
 (bif(ae (a=ig))then
 O (ae (a=ig))
 else
 bif(ae (a=kx))then
 O (ae (a=kx))
 else
 bif(ae (a=oM))then
 O (ae (a=oM))
 else
 bif(ae (a=kT))then
 O (ae (a=kT))
 else
 bif(ae (a=sY))then
 O (ae (a=sY))
 else
 O (ae (a=jC))).bind λe=>
 bif e then
 O (.inr 3)
 else
 O (.inl ()):Option (Unit⊕Int))).bind λf=>
 match f with
 |.inl _=>
  O 1073741824
 |.inr g=>
  O g
def abw:aR:=⟨[vS],[rI],λx=>jT x⟩
theorem Xh:SF 108 abw:=qV {eG []with joins:=[(4,⟨[3],[],[(.normal,[.tv 4 .bool])]⟩),(11,⟨[3],[],[(.normal,[.tv 7 .bool])]⟩),(14,⟨[3],[],[(.normal,[.tv 14 .bool])]⟩),(21,⟨[],[],[(.normal,[.tv 17 .bool])]⟩),(22,⟨[],[],[(.normal,[]),(.ret,[.tv 2 tI])]⟩)]} Tryz.func108
def nC(a:Bytes):Option (Int):=
 ((bif(ae (a=cu))then
 O (.inr 3)
 else
 (bif(ae (a=gY))then
 O (ae (a=gY))
 else
 O (ae (a=jq))).bind λb=>
 bif b then
 O (.inr 20)
 else
 O (.inl ()):Option (Unit⊕Int))).bind λc=>
 match c with
 |.inl _=>
  (jT a).bind λd=>
  O d
 |.inr y4=>
  O y4
def Yt:aR:=⟨[vS],[rI],λx=>nC x⟩
theorem Yq:SF 109 Yt:=qV {eG [Xh]with joins:=[(6,⟨[0],[],[(.normal,[.tv 6 .bool])]⟩),(7,⟨[0],[],[(.normal,[]),(.ret,[.tv 2 tI])]⟩)]} Tryz.func109
def eK(c:List Int)(b:Int)(a:Int):Option (Bool):=
 (aX (λ(st2:Int)=>(
 bif(ae (st2<(c.length:Int)))then
 (idx c st2).bind λd=>
 (cT d b a).bind λe=>
 bif(!e)then
 O (.inr (.inr false))
 else
 O (.inl (aW (st2+1)))
 else
 O (.inr (.inl ())):Option ((Int)⊕(Unit⊕Bool)))) 0).bind λf=>
 match f with
 |.inl _=>
  O true
 |.inr g=>
  O g
def C71:aR:=⟨[.val (.slice tI),vI,vI],[rB],λx=>eK x.1 x.2.1 x.2.2⟩
theorem VC:SF 71 C71:=qV {eG [Mp]with loops:=[(2,⟨[1,2,9,10],[.tv 11 tI],[(.exit 0,[]),(.ret,[.tv 6 .bool])]⟩)]} Tryz.func71
def lM(a:Bytes):Option (Bool):=(bif(ae (1<=(a.length:Int)))then O (ae ((a.length:Int)<=12))else O false).bind λc1=>(bif c1 then(pH a).bind λr2=>O r2 else O false).bind λc3=>O c3
def C88:aR:=⟨[vS],[rB],λx=>lM x⟩
theorem S88:SF 88 C88:=qV (eG [UJ]) Tryz.func88
def qi(a:aV):Option (Bool):=(lM a.1).bind λr1=>(bif r1 then(cT (a.2.1.length:Int) 1 3).bind λr2=>O r2 else O false).bind λc3=>(bif c3 then(eK a.2.1 1 60).bind λb=>O b else O false).bind λc5=>O c5
def C69:aR:=⟨[.val bJ],[rB],λx=>qi x⟩
theorem x8:SF 69 C69:=qV (eG [Mp,VC,S88] [1]) Tryz.func69
def eW(a:List Int)(b:List Int):Option (Bool):=
 bif(!decide ((a.length:Int)=(b.length:Int)))then
 O false
 else
 (aX (λ(st2:Int)=>(
 bif(ae (st2<(a.length:Int)))then
 (idx a st2).bind λc=>
 (idx b st2).bind λd=>
 bif(!decide (c=d))then
 O (.inr (.inr false))
 else
 O (.inl (aW (st2+1)))
 else
 O (.inr (.inl ())):Option ((Int)⊕(Unit⊕Bool)))) 0).bind λe=>
 match e with
 |.inl _=>
  O true
 |.inr f=>
  O f
def C91:aR:=⟨[.val (.slice tI),.val (.slice tI)],[rB],λx=>eW x.1 x.2⟩
theorem S91:SF 91 C91:=qV {eG []with loops:=[(4,⟨[0,1,12],[.tv 13 tI],[(.exit 0,[]),(.ret,[.tv 4 .bool])]⟩)]} Tryz.func91
def oz(b:aV)(a:List Int):Option (Bool):=(eW b.2.1 a).bind λr1=>O r1
def C90:aR:=⟨[.val bJ,.rp (.slice tI)],[rB],λx=>oz x.1 x.2⟩
theorem S90:SF 90 C90:=qV (eG [S91] [2]) Tryz.func90
def gp(a:List aV)(b:(List Int)×Unit):Option (Int):=
 (aX (λ(st2:Int)=>(
 bif(ae (st2<(a.length:Int)))then
 (idx a st2).bind λc=>
 (oz c b.1).bind λd=>
 bif d then
 O (.inr (.inr st2))
 else
 O (.inl (aW (st2+1)))
 else
 O (.inr (.inl ())):Option ((Int)⊕(Unit⊕Int)))) 0).bind λe=>
 match e with
 |.inl _=>
  O (-1)
 |.inr f=>
  O f
def Vw:aR:=⟨[.val (.slice bJ),.fn 90 [(.slice tI)]],[rI],λx=>gp x.1 x.2⟩
theorem UH:SF 89 Vw:=qV {eG [S90]with loops:=[(2,⟨[0,1,7],[.tv 8 tI],[(.exit 0,[]),(.ret,[.tv 4 tI])]⟩)]} Tryz.func89
def nG(b:bE)(a:List Int):Option (Int):=(gp b.1 (a,())).bind λr1=>O r1
def C70:aR:=⟨[.val cO,.val (.slice tI)],[rI],λx=>nG x.1 x.2⟩
theorem S70:SF 70 C70:=qV (eG [UH] [2,3]) Tryz.func70
def nO(b:bE):Option (Bool):=
 (cT (b.1.length:Int) 1 40).bind λr1=>
 bif(!r1)then
 O false
 else
 (aX (λ(a:Int)=>(
 bif(ae (a<(b.1.length:Int)))then
 (idx b.1 a).bind λc=>
 (qi c).bind λh=>
 (bif(!h)then
 O true
 else
 (bif(ae (0<a))then
 (idx b.1 (aW (a-1))).bind λi=>
 O (!Op.bytesLess i.1 c.1)
 else
 O false).bind λj=>
 O j).bind λk=>
 (bif k then
 O true
 else
 (sub b.1 0 a).bind λl=>
 (nG (l,()) c.2.1).bind λd=>
 O (ae (0<=d))).bind λe=>
 bif e then
 O (.inr (.inr false))
 else
 O (.inl (aW (a+1)))
 else
 O (.inr (.inl ())):Option ((Int)⊕(Unit⊕Bool)))) 0).bind λf=>
 match f with
 |.inl _=>
  O true
 |.inr g=>
  O g
def C44:aR:=⟨[.val cO],[rB],λx=>nO x⟩
theorem Xt:SF 44 C44:=qV {eG [Mp,x8,S70] [1]with loops:=[(4,⟨[1,11,12],[.tv 13 tI],[(.exit 0,[]),(.ret,[.tv 2 .bool])]⟩)]} Tryz.func44
def cZ(a:List Int):Option ((List Int)):=bif aeO a then bN (bif true then O []else bif ae (aeP a<=lim)then O a else U) (bif false then O []else bif ae (aeP a<=lim)then O a else U)else bif false then O []else bif ae (aeP a<=lim)then O a else U
def abC:aR:=⟨[.val (.slice tI)],[.own (.slice tI)],λx=>cZ x⟩
theorem Mf:SF 196 abC:=qV (eG []) Tryz.func196
def qZ(a:bE):Option (bE):=bif ae (0<=(a.1.length:Int))&&ae ((a.1.length:Int)<=(a.1.length:Int))&&ae ((a.1.length:Int)<=lim)then(aX (λ(st2:(List aV)×(List aV)×Int)=>(bif(ae (st2.2.2<(a.1.length:Int)))then(idx a.1 st2.2.2).bind λb=>(cZ b.2.1).bind λc=>bif ae (0<=st2.2.2)&&ae (st2.2.2<(st2.2.1.length:Int))then O (.inl (st2.1,(st2.2.1.set (agC st2.2.2) (b.1,c,())),(aW (st2.2.2+1))))else U else O (.inr (st2.1,st2.2.1)):Option (((List aV)×(List aV)×Int)⊕(((List aV)×(List aV)))))) ([],(aeU (agC (a.1.length:Int)) (([],([],())):aV)),0)).bind λd=>O (d.2,())else U
def Yi:aR:=⟨[.val cO],[.own cO],λx=>qZ x⟩
theorem aaR:SF 195 Yi:=qV {eG [Mf] [1]with loops:=[(3,⟨[12,13],[.bx 2 32 [.own 300032 bJ true],.bx 3 48 [.own 144 bJ true],.tv 14 tI],[(.exit 0,[.bx 2 32 [.own 300032 bJ true],.bx 3 48 [.own 144 bJ true]])]⟩)],mv:=true} Tryz.func195
def lI(d:bE)(c:aV):Option (bE×Bool):=(nO d).bind λr1=>(bif(!r1)then O true else(qi c).bind λr2=>O (!r2)).bind λc3=>bif c3 then O (([],()),false)else(qZ d).bind λg=>(aX (λ(a:Bytes×(List Int)×(List aV)×(List aV)×Int)=>((bif(ae (a.2.2.2.2<(a.2.2.2.1.length:Int)))then bif ae (0<=a.2.2.2.2)&&ae (a.2.2.2.2<(a.2.2.2.1.length:Int))then(a.2.2.2.1[(agC a.2.2.2.2)]?).bind λh=>O (Op.bytesLess h.1 a.1)else U else O false).bind λi=>bif i then O (.inl (a.1,a.2.1,a.2.2.1,a.2.2.2.1,(aW (a.2.2.2.2+1))))else O (.inr (a.1,a.2.1,a.2.2.1,a.2.2.2.1,a.2.2.2.2)):Option ((Bytes×(List Int)×(List aV)×(List aV)×Int)⊕((Bytes×(List Int)×(List aV)×(List aV)×Int))))) (c.1,c.2.1,[],g.1,0)).bind λb=>(cZ b.2.1).bind λe=>bif ae (0<=b.2.2.2.2)&&ae (b.2.2.2.2<=(b.2.2.2.1.length:Int))&&ae (aeP b.2.2.2.1<=999999)then(nO ((xe b.2.2.2.1 b.2.2.2.2 (b.1,e,())),())).bind λf=>bif(!f)then O (([],()),false)else O (((xe b.2.2.2.1 b.2.2.2.2 (b.1,e,())),()),true)else U
def ZI:aR:=⟨[.val cO,.val bJ],[.own cO,rB],λx=>lI x.1 x.2⟩
theorem aa7:SF 144 ZI:=qV {eG [Xt,x8,aaR,Mf]with ro:=[2],loops:=[(5,⟨[],[.bx 3 48 [.pv .str,.pv (.slice tI)],.bx 4 64 [.own 300064 bJ true],.bx 6 96 [.own 288 bJ true],.tv 7 tI],[(.exit 0,[.bx 3 48 [.pv .str,.pv (.slice tI)],.bx 4 64 [.own 300064 bJ true],.bx 6 96 [.own 288 bJ true],.tv 7 tI])]⟩)],mv:=true,ins:=[(197,bJ)]} Tryz.func144 (hI:=CE PW ⟨_,Tryz.func197,by kernel_rfl,by kernel_rfl⟩ kQ)
def ri(a:Bytes):Option (Bool):=(bif(ae ((a.length:Int)<=40))then(pH a).bind λr1=>O r1 else O false).bind λc2=>O c2
def Yk:aR:=⟨[vS],[rB],λx=>ri x⟩
theorem acb:SF 260 Yk:=qV (eG [UJ]) Tryz.func260
def eO(b:Bytes)(a:Bytes):Option (Bool):=(bif(ae ((a.length:Int)<=(b.length:Int)))then(sub b 0 (a.length:Int)).bind λc=>O (ae (c=a))else O false).bind λc2=>O c2
def X3:aR:=⟨[vS,vS],[rB],λx=>eO x.1 x.2⟩
theorem XN:SF 350 X3:=qV (eG []) Tryz.func350
def jB(b:Bytes)(a:Bytes):Option (Bool):=(eO b a).bind λr1=>O r1
def acs:aR:=⟨[vS,vS],[rB],λx=>jB x.1 x.2⟩
theorem X6:SF 305 acs:=qV (eG [XN]) Tryz.func305
def yL(d:bE)(c:Bytes):Option ((List Int)×Bool):=bif ae (0<=(aW ((c.length:Int)+1)))&&ae ((aW ((c.length:Int)+1))<=(aW ((c.length:Int)+1)))&&ae ((aW ((c.length:Int)+1))<=lim)then bif ae (0<=(aW ((c.length:Int)+1)))&&ae ((aW ((c.length:Int)+1))<=(aW ((c.length:Int)+1)))&&ae ((aW ((c.length:Int)+1))<=lim)then(aX (λ(st2:(List Int)×(List Int)×Int)=>(bif(ae (0<=st2.2.2))then bif ae (0<=st2.2.2)&&ae (st2.2.2<(st2.1.length:Int))then(aX (λ(b:(List Int)×(List Int)×Int)=>(bif(ae (b.2.2<(d.1.length:Int)))then(idx d.1 b.2.2).bind λf=>(sub c st2.2.2 (c.length:Int)).bind λn=>(jB n f.1).bind λo=>bif(!o)then O (.inl (b.1,b.2.1,(aW (b.2.2+1))))else bif ae (0<=(aW (st2.2.2+(f.1.length:Int))))&&ae ((aW (st2.2.2+(f.1.length:Int)))<(b.1.length:Int))then(b.1[(agC (aW (st2.2.2+(f.1.length:Int))))]?).bind λm=>bif ae (0<=st2.2.2)&&ae (st2.2.2<(b.1.length:Int))then(b.1[(agC st2.2.2)]?).bind λp=>bif(ae ((aW (m+(f.2.1.length:Int)))<p))then bif ae (0<=st2.2.2)&&ae (st2.2.2<(b.1.length:Int))then bif ae (0<=st2.2.2)&&ae (st2.2.2<(b.2.1.length:Int))then O (.inl ((b.1.set (agC st2.2.2) (aW (m+(f.2.1.length:Int)))),(b.2.1.set (agC st2.2.2) b.2.2),(aW (b.2.2+1))))else U else U else O (.inl (b.1,b.2.1,(aW (b.2.2+1))))else U else U else O (.inr (b.1,b.2.1)):Option (((List Int)×(List Int)×Int)⊕(((List Int)×(List Int)))))) ((st2.1.set (agC st2.2.2) 1073741824),st2.2.1,0)).bind λg=>O (.inl (g.1,g.2,(aW (st2.2.2-1))))else U else O (.inr (st2.1,st2.2.1)):Option (((List Int)×(List Int)×Int)⊕(((List Int)×(List Int)))))) ((aeU (agC (aW ((c.length:Int)+1))) (0:Int)),(aeU (agC (aW ((c.length:Int)+1))) (0:Int)),(aW ((c.length:Int)-1)))).bind λe=>bif ae (0<=0)&&ae (0<(e.1.length:Int))then(e.1[(agC 0)]?).bind λi=>bif(ae (1073741824<=i))then O ([],false)else(aX (λ(a:(List Int)×(List Int)×Int)=>(bif(ae (a.2.2<(c.length:Int)))then bif ae (0<=a.2.2)&&ae (a.2.2<(a.1.length:Int))then(a.1[(agC a.2.2)]?).bind λh=>bif ae (aeP a.2.1+aeP [h]<=lim)then bif ae (0<=a.2.2)&&ae (a.2.2<(a.1.length:Int))then(a.1[(agC a.2.2)]?).bind λj=>(idx d.1 j).bind λk=>O (.inl (a.1,(a.2.1++[h]),(aW (a.2.2+(k.1.length:Int)))))else U else U else U else O (.inr a.2.1):Option (((List Int)×(List Int)×Int)⊕((List Int))))) (e.2,[],0)).bind λl=>O (l,true)else U else U else U
def ZK:aR:=⟨[.val cO,vS],[.own (.slice tI),rB],λx=>yL x.1 x.2⟩
theorem XB:SF 261 ZK:=qV {eG [X6] [2]with loops:=[(4,⟨[1,2],[.own 6 [] 272 tI true,.own 7 [] 336 tI true,.tv 8 tI],[(.exit 0,[.own 6 [] 272 tI true,.own 7 [] 336 tI true])]⟩),(8,⟨[1,2,8,33,34],[.own 6 [] 272 tI true,.own 7 [] 336 tI true,.tv 35 tI],[(.exit 2,[.own 6 [] 272 tI true,.own 7 [] 336 tI true])]⟩),(19,⟨[1,2],[.own 7 [] 336 tI true,.own 12 [] 200012 tI true,.tv 13 tI],[(.exit 4,[.own 12 [] 200012 tI true])]⟩)]} Tryz.func261
def pQ(a:bE)(b:Bytes):Option ((List Int)×Bool):=(nO a).bind λr1=>(bif(!r1)then O true else(ri b).bind λr2=>O (!r2)).bind λc3=>bif c3 then O ([],false)else(yL a b).bind λc=>O (c.1,c.2)
def Z3:aR:=⟨[.val cO,vS],[.own (.slice tI),rB],λx=>pQ x.1 x.2⟩
theorem abN:SF 198 Z3:=qV (eG [Xt,acb,XB] [2]) Tryz.func198
def iY(b:bE)(c:Bytes):Option ((List Int)×Bool):=(pQ b c).bind λr1=>(aX (λ(a:(List Int)×(List Int)×Int)=>(bif(ae (a.2.2<(r1.1.length:Int)))then bif ae (0<=a.2.2)&&ae (a.2.2<(a.2.1.length:Int))then(a.2.1[(agC a.2.2)]?).bind λe=>(idx b.1 e).bind λd=>bif ae (aeP a.1+aeP d.2.1<=lim)then O (.inl ((a.1++d.2.1),a.2.1,(aW (a.2.2+1))))else U else U else O (.inr a.1):Option (((List Int)×(List Int)×Int)⊕((List Int))))) ([],r1.1,0)).bind λf=>O (f,r1.2)
def YC:aR:=⟨[.val cO,vS],[.own (.slice tI),rB],λx=>iY x.1 x.2⟩
theorem ZA:SF 145 YC:=qV {eG [abN] [2]with loops:=[(4,⟨[2,7,18],[.own 8 [] 200008 tI true,.own 17 [] 224 tI true,.tv 19 tI],[(.exit 0,[.own 8 [] 200008 tI true])]⟩)]} Tryz.func145
def abH:aR:=⟨[vI],[rS],λx=>wl x⟩
theorem UU:SF 143 abH:=⟨Nx,qN Tryz.func143 (by kernel_rfl)⟩
def aaF:aR:=⟨[.val (.slice .str),vS],[rS],λx=>uK x.1 x.2⟩
theorem abS:SF 199 aaF:=⟨Np,qN Tryz.func199 (by kernel_rfl)⟩
def cA(a:List Int)(b:Bytes):Option (Bytes):=bif ae (0<=(a.length:Int))&&ae ((a.length:Int)<=(a.length:Int))&&ae ((a.length:Int)<=lim)then(aX (λ(st2:(List Bytes)×Int)=>(bif(ae (st2.2<(a.length:Int)))then(idx a st2.2).bind λc=>(wl c).bind λd=>bif ae (0<=st2.2)&&ae (st2.2<(st2.1.length:Int))then O (.inl ((st2.1.set (agC st2.2) d),(aW (st2.2+1))))else U else O (.inr st2.1):Option (((List Bytes)×Int)⊕((List Bytes))))) ((aeU (agC (a.length:Int)) ([]:Bytes)),0)).bind λe=>(uK e b).bind λf=>O f else U
def Zo:aR:=⟨[.val (.slice tI),vS],[rS],λx=>cA x.1 x.2⟩
theorem TN:SF 146 Zo:=qV {eG [UU,abS]with loops:=[(3,⟨[1,11,12],[.own 5 [] 160 .str true,.tv 13 tI],[(.exit 0,[.own 5 [] 160 .str true])]⟩)]} Tryz.func146
def A1(a:List Int):Option (Bool):=(bif(ae ((a.length:Int)<=60))then(eK a 1 60).bind λr1=>O r1 else O false).bind λc2=>O c2
def XT:aR:=⟨[.val (.slice tI)],[rB],λx=>A1 x⟩
theorem abX:SF 200 XT:=qV (eG [VC]) Tryz.func200
def qy(a:List Int)(b:List Int):Option (Bool):=(bif(ae ((a.length:Int)<=(b.length:Int)))then(sub b 0 (a.length:Int)).bind λc=>(eW a c).bind λr2=>O r2 else O false).bind λc3=>O c3
def abq:aR:=⟨[.val (.slice tI),.val (.slice tI)],[rB],λx=>qy x.1 x.2⟩
theorem VX:SF 263 abq:=qV (eG [S91]) Tryz.func263
def pN(c:bE)(a:List Int):Option ((List Int)):=bif ae (0<=(aW ((a.length:Int)+1)))&&ae ((aW ((a.length:Int)+1))<=(aW ((a.length:Int)+1)))&&ae ((aW ((a.length:Int)+1))<=lim)then bif ae (0<=(a.length:Int))&&ae ((a.length:Int)<((aeU (agC (aW ((a.length:Int)+1))) (0:Int)).length:Int))then(aX (λ(st2:(List Int)×Int)=>(bif(ae (0<=st2.2))then(aX (λ(b:(List Int)×Int)=>(bif(ae (b.2<(c.1.length:Int)))then(idx c.1 b.2).bind λd=>(sub a st2.2 (a.length:Int)).bind λg=>(qy d.2.1 g).bind λh=>bif h then bif ae (0<=st2.2)&&ae (st2.2<(b.1.length:Int))then(b.1[(agC st2.2)]?).bind λi=>bif ae (0<=(aW (st2.2+(d.2.1.length:Int))))&&ae ((aW (st2.2+(d.2.1.length:Int)))<(b.1.length:Int))then(b.1[(agC (aW (st2.2+(d.2.1.length:Int))))]?).bind λj=>bif ae (0<=st2.2)&&ae (st2.2<(b.1.length:Int))then O (.inl ((b.1.set (agC st2.2) (aW (i+j))),(aW (b.2+1))))else U else U else U else O (.inl (b.1,(aW (b.2+1))))else O (.inr b.1):Option (((List Int)×Int)⊕((List Int))))) (st2.1,0)).bind λe=>O (.inl (e,(aW (st2.2-1))))else O (.inr st2.1):Option (((List Int)×Int)⊕((List Int))))) (((aeU (agC (aW ((a.length:Int)+1))) (0:Int)).set (agC (a.length:Int)) 1),(aW ((a.length:Int)-1)))).bind λf=>O f else U else U
def abY:aR:=⟨[.val cO,.val (.slice tI)],[.own (.slice tI)],λx=>pN x.1 x.2⟩
theorem WJ:SF 201 abY:=qV {eG [VX] [2]with loops:=[(4,⟨[1,2],[.own 5 [] 192 tI true,.tv 6 tI],[(.exit 0,[.own 5 [] 192 tI true])]⟩),(7,⟨[1,2,6,25,26],[.own 5 [] 192 tI true,.tv 27 tI],[(.exit 2,[.own 5 [] 192 tI true])]⟩)]} Tryz.func201
def mU(c:aV)(a:List Int)(b:Int)(d:List Int):Option (Bool):=(sub a b (a.length:Int)).bind λe=>(qy c.2.1 e).bind λr2=>(bif r2 then(idx d (aW (b+(c.2.1.length:Int)))).bind λf=>O (ae (0<f))else O false).bind λc4=>O c4
def aar:aR:=⟨[.val bJ,.rp (.slice tI),.rp tI,.rp (.slice tI)],[rB],λx=>mU x.1 x.2.1 x.2.2.1 x.2.2.2⟩
theorem ab8:SF 264 aar:=qV (eG [VX] [4]) Tryz.func264
def dh(b:List aV)(a:(List Int)×Int×(List Int)×Unit):Option (Int):=
 (aX (λ(st2:Int)=>(
 bif(ae (st2<(b.length:Int)))then
 (idx b st2).bind λc=>
 (mU c a.1 a.2.1 a.2.2.1).bind λd=>
 bif d then
 O (.inr (.inr st2))
 else
 O (.inl (aW (st2+1)))
 else
 O (.inr (.inl ())):Option ((Int)⊕(Unit⊕Int)))) 0).bind λe=>
 match e with
 |.inl _=>
  O (-1)
 |.inr f=>
  O f
def TA:aR:=⟨[.val (.slice bJ),.fn 264 [(.slice tI),tI,(.slice tI)]],[rI],λx=>dh x.1 x.2⟩
theorem RV:SF 89 TA:=qV {eG [ab8]with loops:=[(2,⟨[0,1,7],[.tv 8 tI],[(.exit 0,[]),(.ret,[.tv 4 tI])]⟩)]} Tryz.func89
def qE(c:bE)(a:List Int):Option ((List Int)×Bool):=(pN c a).bind λr1=>bif ae (0<=0)&&ae (0<(r1.length:Int))then(r1[(agC 0)]?).bind λe=>bif(ae (e=0))then O ([],false)else(aX (λ(b:(List Int)×Int)=>(bif(ae (b.2<(a.length:Int)))then(dh c.1 (a,b.2,r1,())).bind λd=>bif ae (aeP b.1+aeP [d]<=lim)then(idx c.1 d).bind λf=>O (.inl ((b.1++[d]),(aW (b.2+(f.2.1.length:Int)))))else U else O (.inr b.1):Option (((List Int)×Int)⊕((List Int))))) ([],0)).bind λg=>O (g,true)else U
def Xx:aR:=⟨[.val cO,.val (.slice tI)],[.own (.slice tI),rB],λx=>qE x.1 x.2⟩
theorem ab4:SF 202 Xx:=qV {eG [RV,WJ] [2,3]with loops:=[(6,⟨[2,3,6],[.own 7 [] 200007 tI true,.bx 8 128 [.pv tI]],[(.exit 0,[.own 7 [] 200007 tI true])]⟩)],pre:=[(4,[192])],preb:=[(4,[(96,(.slice tI))])],lend:=[(7,[(128,tI)])]} Tryz.func202
def Y8:aR:=⟨[.val cO,.val (.slice tI)],[rS],λx=>Dd x.1 x.2⟩
theorem YQ:SF 203 Y8:=⟨Ns,qN Tryz.func203 (by kernel_rfl)⟩
def kF(b:bE)(a:List Int):Option (Bytes×Bool):=(nO b).bind λr1=>(bif(!r1)then O true else(A1 a).bind λr2=>O (!r2)).bind λc3=>(bif c3 then O true else(pN b a).bind λc=>bif ae (0<=0)&&ae (0<(c.length:Int))then(c[(agC 0)]?).bind λd=>O (!decide (d=1))else U).bind λe=>bif e then O ([],false)else(qE b a).bind λf=>(Dd b f.1).bind λg=>O (g,true)
def Y4:aR:=⟨[.val cO,.val (.slice tI)],[rS,rB],λx=>kF x.1 x.2⟩
theorem aaT:SF 147 Y4:=qV (eG [Xt,abX,WJ,ab4,YQ] [2]) Tryz.func147
def kp(a:List Int):Option (Bool):=
 (aX (λ(st2:Int)=>(
 bif(ae (st2<(a.length:Int)))then
 (idx a (aW (st2-1))).bind λb=>
 (idx a st2).bind λc=>
 bif(ae (c<=b))then
 O (.inr (.inr false))
 else
 O (.inl (aW (st2+1)))
 else
 O (.inr (.inl ())):Option ((Int)⊕(Unit⊕Bool)))) 1).bind λd=>
 match d with
 |.inl _=>
  O true
 |.inr e=>
  O e
def C72:aR:=⟨[.val (.slice tI)],[rB],λx=>kp x⟩
theorem YN:SF 72 C72:=qV {eG []with loops:=[(2,⟨[0],[.tv 3 tI],[(.exit 0,[]),(.ret,[.tv 2 .bool])]⟩)]} Tryz.func72
def nZ(a:bM):Option (Bool):=(cT a.1 0 1000000000).bind λr1=>(bif r1 then(cT a.2.1 1 60).bind λr2=>O r2 else O false).bind λc3=>(bif c3 then(eK a.2.2.1 0 (aW (a.2.1-1))).bind λb=>O b else O false).bind λc5=>(bif c5 then(kp a.2.2.1).bind λc=>O c else O false).bind λd=>O d
def Yd:aR:=⟨[.val cE],[rB],λx=>nZ x⟩
theorem WL:SF 265 Yd:=qV (eG [Mp,VC,YN] [1]) Tryz.func265
def Y1:aR:=⟨[.own (.slice tI)],[],λx=>gR x⟩
theorem Sc:SF 225 Y1:=⟨Hd,qN Tryz.func225 (by kernel_rfl)⟩
def wK(b:bM)(a:Int):Option (bM):=(cZ b.2.2.1).bind λr1=>bif ae (aeP r1+aeP [a]<=lim)then(gR (r1++[a])).bind λr2=>O (b.1,b.2.1,r2,())else U
def aci:aR:=⟨[.val cE,vI],[.own cE],λx=>wK x.1 x.2⟩
theorem Zx:SF 307 aci:=qV (eG [Mf,Sc] [2]) Tryz.func307
def nJ(b:bM):Option (bM×Int×Bool):=(nZ b).bind λr1=>(bif(!r1)then O true else O (ae ((b.2.2.1.length:Int)=b.2.1))).bind λc2=>bif c2 then O ((0,0,[],()),0,false)else(aX (λ(a:Int×Int×(List Int)×Int)=>((bif(ae (a.2.2.2<(b.2.2.1.length:Int)))then(idx b.2.2.1 a.2.2.2).bind λd=>O (ae (d=a.2.2.2))else O false).bind λe=>bif e then O (.inl (a.1,a.2.1,a.2.2.1,(aW (a.2.2.2+1))))else O (.inr (a.1,a.2.1,a.2.2.1,a.2.2.2)):Option ((Int×Int×(List Int)×Int)⊕((Int×Int×(List Int)×Int))))) (0,0,[],0)).bind λc=>(wK b c.2.2.2).bind λf=>O (f,c.2.2.2,true)
def acw:aR:=⟨[.val cE],[.own cE,rI,rB],λx=>nJ x⟩
theorem XQ:SF 266 acw:=qV {eG [WL,Zx] [1]with loops:=[(4,⟨[1],[.bx 2 32 [.pv tI,.pv tI,.own 300034 tI true],.tv 5 tI],[(.exit 0,[.bx 2 32 [.pv tI,.pv tI,.own 300034 tI true],.tv 5 tI])]⟩)]} Tryz.func266
def mn(c:bM)(e:Int):Option (bM×(List Int)×Bool):=
 (nZ c).bind λr1=>
 (bif(!r1)then
 O true
 else
 (cT e 0 1200).bind λr2=>
 O (!r2)).bind λc3=>
 bif c3 then
 O ((0,0,[],()),[],false)
 else
 (cZ c.2.2.1).bind λg=>
 (aX (λ(a:Int×Int×(List Int)×Int×Int×(List Int)×(List Int)×Int)=>(
 bif(ae (a.2.2.2.2.2.2.2<(aW (agA (aW ((aW (e+20))-1)) 20))))then
 (nJ (a.1,a.2.1,a.2.2.1,())).bind λd=>
 bif(!d.2.2)then
 O (.inr (.inr (0,0,[],[],false)))
 else
 bif ae (aeP a.2.2.2.2.2.2.1+aeP [d.2.1]<=lim)then
 O (.inl (d.1.1,d.1.2.1,d.1.2.2.1,a.2.2.2.1,a.2.2.2.2.1,a.2.2.2.2.2.1,(a.2.2.2.2.2.2.1++[d.2.1]),(aW (a.2.2.2.2.2.2.2+1))))
 else
 U
 else
 O (.inr (.inl (a.1,a.2.1,a.2.2.1,a.2.2.2.1,a.2.2.2.2.1,a.2.2.2.2.2.1,a.2.2.2.2.2.2.1))):Option ((Int×Int×(List Int)×Int×Int×(List Int)×(List Int)×Int)⊕((Int×Int×(List Int)×Int×Int×(List Int)×(List Int))⊕(Int×Int×(List Int)×(List Int)×Bool))))) (c.1,c.2.1,g,0,0,[],[],0)).bind λh=>
 match h with
 |.inl f=>
  O ((f.1,f.2.1,f.2.2.1,()),f.2.2.2.2.2.2,true)
 |.inr b=>
  O ((b.1,b.2.1,b.2.2.1,()),b.2.2.2.1,b.2.2.2.2)
def XR:aR:=⟨[.val cE,vI],[.own cE,.own (.slice tI),rB],λx=>mn x.1 x.2⟩
theorem YD:SF 204 XR:=qV {eG [Mp,Mf,WL,XQ]with loops:=[(6,⟨[27],[.bx 2 32 [.pv tI,.pv tI,.own 352 tI true],.bx 4 64 [.pv tI,.pv tI,.own 300066 tI true],.own 7 [] 200007 tI true,.tv 28 tI],[(.exit 0,[.bx 2 32 [.pv tI,.pv tI,.own 352 tI true],.bx 4 64 [.pv tI,.pv tI,.own 300066 tI true],.own 7 [] 200007 tI true]),(.ret,[.bx 4 64 [.pv tI,.pv tI,.own 300066 tI true],.own 5 [] 200005 tI true,.tv 6 .bool])]⟩)]} Tryz.func204
def wM(a:List Int)(b:List Int)(c:Int):Option ((List Int)):=bif ae (0<=(a.length:Int))&&ae ((a.length:Int)<=(a.length:Int))&&ae ((a.length:Int)<=lim)then(aX (λ(st2:(List Int)×Int)=>(bif(ae (st2.2<(a.length:Int)))then(idx a st2.2).bind λd=>(idx b st2.2).bind λe=>bif ae (0<=st2.2)&&ae (st2.2<(st2.1.length:Int))then O (.inl ((st2.1.set (agC st2.2) (aW ((agB (aW ((aW ((aW (d-1))+(aW (c*e))))+60)) 60)+1))),(aW (st2.2+1))))else U else O (.inr st2.1):Option (((List Int)×Int)⊕((List Int))))) ((aeU (agC (a.length:Int)) (0:Int)),0)).bind λf=>O f else U
def aco:aR:=⟨[.val (.slice tI),.val (.slice tI),vI],[.own (.slice tI)],λx=>wM x.1 x.2.1 x.2.2⟩
theorem XX:SF 205 aco:=qV {eG []with loops:=[(3,⟨[1,2,13,14],[.own 7 [] 192 tI true,.tv 15 tI],[(.exit 0,[.own 7 [] 192 tI true])]⟩)]} Tryz.func205
def zX(b:List Int):Option (Int):=(cZ b).bind λr1=>bif ae (aeP r1+aeP [3,7]<=lim)then(aX (λ(a:Int×(List Int)×Int)=>(bif(ae (a.2.2<((r1++[3,7]).length:Int)))then bif ae (0<=a.2.2)&&ae (a.2.2<(a.2.1.length:Int))then(a.2.1[(agC a.2.2)]?).bind λc=>O (.inl ((agB (aW ((agB (aW ((aW ((aW (19*a.1))+c))+23)) 1000003)*(aW ((aW (agA (agB (aW ((aW ((aW (19*a.1))+c))+23)) 1000003) 16))+11)))) 1000003),a.2.1,(aW (a.2.2+1))))else U else O (.inr a.1):Option ((Int×(List Int)×Int)⊕(Int)))) ((aW (6907+(b.length:Int))),(r1++[3,7]),0)).bind λd=>O d else U
def acp:aR:=⟨[.val (.slice tI)],[rI],λx=>zX x⟩
theorem Yu:SF 308 acp:=qV {eG [Mf]with loops:=[(3,⟨[13],[.tv 3 tI,.own 12 [] 160 tI true,.tv 14 tI],[(.exit 0,[.tv 3 tI])]⟩)]} Tryz.func308
def yy(b:bM)(a:Int):Option ((List Int)):=bif ae (0<=20)&&ae (20<=20)&&ae (20<=lim)then(aX (λ(st2:(List Int)×Int)=>(bif(ae (st2.2<((aeU (agC 20) (0:Int)).length:Int)))then(zX [b.1,a,st2.2]).bind λr3=>bif ae (0<=st2.2)&&ae (st2.2<(st2.1.length:Int))then O (.inl ((st2.1.set (agC st2.2) (agB r3 60)),(aW (st2.2+1))))else U else O (.inr st2.1):Option (((List Int)×Int)⊕((List Int))))) ((aeU (agC 20) (0:Int)),0)).bind λo4=>O o4 else U
def Zk:aR:=⟨[.val cE,vI],[.own (.slice tI)],λx=>yy x.1 x.2⟩
theorem XD:SF 267 Zk:=qV {eG [Yu] [2]with loops:=[(3,⟨[1,2,9],[.own 5 [] 112 tI true,.tv 10 tI],[(.exit 0,[.own 5 [] 112 tI true])]⟩)]} Tryz.func267
def nU(b:bM)(a:List Int):Option ((List Int)):=(aX (λ(st2:(List Int)×Int)=>(bif(ae (st2.2<(a.length:Int)))then(idx a st2.2).bind λd=>(yy b d).bind λc=>bif ae (aeP st2.1+aeP c<=lim)then O (.inl ((st2.1++c),(aW (st2.2+1))))else U else O (.inr st2.1):Option (((List Int)×Int)⊕((List Int))))) ([],0)).bind λe=>O e
def aaM:aR:=⟨[.val cE,.val (.slice tI)],[.own (.slice tI)],λx=>nU x.1 x.2⟩
theorem Y0:SF 206 aaM:=qV {eG [XD] [2]with loops:=[(3,⟨[2,8,9],[.own 5 [] 200005 tI true,.tv 10 tI],[(.exit 0,[.own 5 [] 200005 tI true])]⟩)]} Tryz.func206
def je(b:bM)(a:List Int):Option (bM×wm×Bool):=(bif(ae (60<(a.length:Int)))then O true else(eK a 1 60).bind λr1=>O (!r1)).bind λc2=>bif c2 then O ((0,0,[],()),([],[],()),false)else(mn b (a.length:Int)).bind λr3=>bif(!r3.2.2)then O ((0,0,[],()),([],[],()),false)else(λx=>bN ((nU b r3.2.1).bind x) ((nU b r3.2.1).bind λc=>bN (x c) (x c))) (λc=>(wM a c 1).bind λd=>O (r3.1,(r3.2.1,d,()),true))
def aaJ:aR:=⟨[.val cE,.val (.slice tI)],[.own cE,.own rV,rB],λx=>je x.1 x.2⟩
theorem XG:SF 148 aaJ:=qV {eG [VC,YD,XX,Y0] [2]with every:=[6]} Tryz.func148
def rR(a:Int):Option (Int):=O (aW (agA (aW ((aW (a+20))-1)) 20))
def aa5:aR:=⟨[vI],[rI],λx=>rR x⟩
theorem ZT:SF 268 aa5:=qV (eG []) Tryz.func268
def tJ(a:wm):Option (Bool):=(bif(ae (60<(a.2.1.length:Int)))then O true else(eK a.2.1 1 60).bind λr1=>O (!r1)).bind λc2=>(bif c2 then O true else(rR (a.2.1.length:Int)).bind λr3=>O (!decide ((a.1.length:Int)=r3))).bind λc4=>(bif c4 then O true else(eK a.1 0 59).bind λb=>O (!b)).bind λc=>bif c then O false else(cZ a.1).bind λd=>(gR d).bind λe=>(kp e).bind λf=>O f
def aaX:aR:=⟨[.val rV],[rB],λx=>tJ x⟩
theorem Zs:SF 207 aaX:=qV (eG [VC,YN,Mf,Sc,ZT] [1]) Tryz.func207
def oQ(a:wm):Option (Bytes×Bool):=(tJ a).bind λr1=>bif(!r1)then O ([],false)else(cA a.1 ([43]:Bytes)).bind λr2=>bif ae (aeP r2+aeP ([58]:Bytes)<=lim)then(cA a.2.1 ([32]:Bytes)).bind λr3=>bif ae (aeP (r2++([58]:Bytes))+aeP r3<=lim)then O (((r2++([58]:Bytes))++r3),true)else U else U
def YR:aR:=⟨[.val rV],[rS,rB],λx=>oQ x⟩
theorem ZZ:SF 149 YR:=qV (eG [TN,Zs] [1]) Tryz.func149
def bV(a:bp)(b:Bytes)(c:Bytes)(d:List Int):Option (bp×Bytes×Bool):=bif(ae (b=cu))then(lI a.2.2.1 (c,d,())).bind λr1=>bif(!r1.2)then O (a,[],false)else O ((a.1,a.2.1,r1.1,a.2.2.2),([111,107]:Bytes),true)else bif(ae (b=dR))then(iY a.2.2.1 c).bind λr2=>(cA r2.1 ([32]:Bytes)).bind λr3=>O (a,r3,r2.2)else bif(ae (b=gY))then(kF a.2.2.1 d).bind λf=>O (a,f.1,f.2)else bif(ae (b=jq))then(je a.2.2.2.1 d).bind λe=>bif(!e.2.2)then O (a,[],false)else(oQ e.2.1).bind λg=>O ((a.1,a.2.1,a.2.2.1,e.1,a.2.2.2.2),g.1,g.2)else O (a,([111,107]:Bytes),true)
def aaV:aR:=⟨[.cK jH,vS,vS,.val (.slice tI)],[rS,rB],λx=>bV x.1 x.2.1 x.2.2.1 x.2.2.2⟩
theorem abx:SF 110 aaV:=qX {eG [aa7,ZA,TN,aaT,XG,ZZ]with T:=TR} Tryz.func110 (hT:=tR)
def cD(b:List aT):Option (Bool):=
 bif(ae (20<(b.length:Int)))then
 O false
 else
 (aX (λ(st2:Int)=>(
 bif(ae (st2<(b.length:Int)))then
 (idx b st2).bind λa=>
 (cT a.1 1 999).bind λj=>
 (bif(!j)then
 O true
 else
 (cT a.2.1 1 9).bind λk=>
 O (!k)).bind λl=>
 (bif l then
 O true
 else
 (eK a.2.2.1 0 (aW (a.2.1-1))).bind λm=>
 O (!m)).bind λn=>
 (bif n then
 O true
 else
 (kp a.2.2.1).bind λo=>
 O (!o)).bind λc=>
 (bif c then
 O true
 else
 (bif(ae (0<st2))then
 (idx b (aW (st2-1))).bind λd=>
 O (ae (a.1<=d.1))
 else
 O false).bind λc12=>
 O c12).bind λe=>
 bif e then
 O (.inr (.inr false))
 else
 (bif((ae ((a.2.2.1.length:Int)=a.2.1)) !=(ae (a.2.2.2.1=1)))then
 O true
 else
 (cT a.2.2.2.1 0 2).bind λf=>
 O (!f)).bind λg=>
 bif g then
 O (.inr (.inr false))
 else
 O (.inl (aW (st2+1)))
 else
 O (.inr (.inl ())):Option ((Int)⊕(Unit⊕Bool)))) 0).bind λh=>
 match h with
 |.inl _=>
  O true
 |.inr i=>
  O i
def C45:aR:=⟨[.val (.slice bt)],[rB],λx=>cD x⟩
theorem VL:SF 45 C45:=qV {eG [Mp,VC,YN]with loops:=[(4,⟨[0,9,10],[.tv 11 tI],[(.exit 0,[]),(.ret,[.tv 2 .bool])]⟩)]} Tryz.func45
def oK(b:aT)(a:Int):Option (Bool):=O (ae (b.1=a))
def acv:aR:=⟨[.val bt,.rp tI],[rB],λx=>oK x.1 x.2⟩
theorem ZE:SF 273 acv:=qV (eG [] [2]) Tryz.func273
def fU(a:List aT)(b:Int×Unit):Option (Int):=
 (aX (λ(st2:Int)=>(
 bif(ae (st2<(a.length:Int)))then
 (idx a st2).bind λc=>
 (oK c b.1).bind λd=>
 bif d then
 O (.inr (.inr st2))
 else
 O (.inl (aW (st2+1)))
 else
 O (.inr (.inl ())):Option ((Int)⊕(Unit⊕Int)))) 0).bind λe=>
 match e with
 |.inl _=>
  O (-1)
 |.inr f=>
  O f
def PC:aR:=⟨[.val (.slice bt),.fn 273 [tI]],[rI],λx=>fU x.1 x.2⟩
theorem Rx:SF 272 PC:=qV {eG [ZE]with loops:=[(2,⟨[0,1,7],[.tv 8 tI],[(.exit 0,[]),(.ret,[.tv 4 tI])]⟩)]} Tryz.func272
def kJ(b:List aT)(a:Int):Option (Int):=(fU b (a,())).bind λr1=>O r1
def aa0:aR:=⟨[.val (.slice bt),vI],[rI],λx=>kJ x.1 x.2⟩
theorem WD:SF 209 aa0:=qV (eG [Rx] [3]) Tryz.func209
def my(a:List aT):Option ((List aT)):=bif ae (0<=(a.length:Int))&&ae ((a.length:Int)<=(a.length:Int))&&ae ((a.length:Int)<=lim)then(aX (λ(st2:(List aT)×Int)=>(bif(ae (st2.2<(a.length:Int)))then(idx a st2.2).bind λb=>(cZ b.2.2.1).bind λc=>bif ae (0<=st2.2)&&ae (st2.2<(st2.1.length:Int))then O (.inl ((st2.1.set (agC st2.2) (b.1,b.2.1,c,b.2.2.2)),(aW (st2.2+1))))else U else O (.inr st2.1):Option (((List aT)×Int)⊕((List aT))))) ((aeU (agC (a.length:Int)) ((0,(0,([],(0,())))):aT)),0)).bind λd=>O d else U
def XJ:aR:=⟨[.val (.slice bt)],[.own (.slice bt)],λx=>my x⟩
theorem ZM:SF 269 XJ:=qV {eG [Mf]with loops:=[(3,⟨[9,10],[.own 3 [] 128 bt true,.tv 11 tI],[(.exit 0,[.own 3 [] 128 bt true])]⟩)],mv:=true} Tryz.func269
def nt(a:List Int)(b:Int):Option (Int):=
 (aX (λ(st2:Int)=>(
 bif(ae (st2<(a.length:Int)))then
 (idx a st2).bind λc=>
 bif(ae (b=c))then
 O (.inr (.inr st2))
 else
 O (.inl (aW (st2+1)))
 else
 O (.inr (.inl ())):Option ((Int)⊕(Unit⊕Int)))) 0).bind λo4=>
 match o4 with
 |.inl _=>
  O (-1)
 |.inr y6=>
  O y6
def Ze:aR:=⟨[.val (.slice tI),vI],[rI],λx=>nt x.1 x.2⟩
theorem Yx:SF 311 Ze:=qV {eG []with loops:=[(2,⟨[0,1,7],[.tv 8 tI],[(.exit 0,[]),(.ret,[.tv 4 tI])]⟩)]} Tryz.func311
def ie(a:List Int)(b:Int):Option (Bool):=(nt a b).bind λr1=>O (ae (0<=r1))
def abP:aR:=⟨[.val (.slice tI),vI],[rB],λx=>ie x.1 x.2⟩
theorem abl:SF 271 abP:=qV (eG [Yx]) Tryz.func271
def cP(n:List aT)(b:aO):Option ((List aT)×Bool):=(my n).bind λr1=>(kJ r1 b.2.1).bind λr2=>(bif(ae (b.1=1))then O (ae (r2<0))else O false).bind λc3=>bif c3 then(aX (λ(f:(List aT)×Int)=>((bif(ae (f.2<(f.1.length:Int)))then bif ae (0<=f.2)&&ae (f.2<(f.1.length:Int))then(f.1[(agC f.2)]?).bind λL=>O (ae (L.1<b.2.1))else U else O false).bind λM=>bif M then O (.inl (f.1,(aW (f.2+1))))else O (.inr (f.1,f.2)):Option (((List aT)×Int)⊕(((List aT)×Int))))) (r1,0)).bind λm=>bif ae (0<=m.2)&&ae (m.2<=(m.1.length:Int))&&ae (aeP m.1<=999999)then(cD (xe m.1 m.2 (b.2.1,b.2.2.1,[],0,()))).bind λN=>bif(!N)then O ([],false)else O ((xe m.1 m.2 (b.2.1,b.2.2.1,[],0,())),true)else U else(bif(ae (b.1=2))then O (ae (0<=r2))else O false).bind λo=>(bif o then bif ae (0<=r2)&&ae (r2<(r1.length:Int))then(r1[(agC r2)]?).bind λp=>O (ae (p.2.2.2.1=0))else U else O false).bind λc12=>(bif c12 then bif ae (0<=r2)&&ae (r2<(r1.length:Int))then(r1[(agC r2)]?).bind λq=>(cT b.2.2.1 0 (aW (q.2.1-1))).bind λr=>O r else U else O false).bind λs=>bif s then bif ae (0<=r2)&&ae (r2<(r1.length:Int))then(r1[(agC r2)]?).bind λt=>(ie t.2.2.1 b.2.2.1).bind λu=>bif(!u)then(r1[(agC r2)]?).bind λa=>bif ae (aeP a.2.2.1+aeP [b.2.2.1]<=lim)then bN (bif ae2 (agC r2) (agC r2)then((r1.set (agC r2) (a.1,a.2.1,(a.2.2.1++[b.2.2.1]),a.2.2.2))[(agC r2)]?).bind λd=>(gR d.2.2.1).bind λg=>(((r1.set (agC r2) (a.1,a.2.1,(a.2.2.1++[b.2.2.1]),a.2.2.2)).set (agC r2) (d.1,d.2.1,g,d.2.2.2))[(agC r2)]?).bind λv=>(((r1.set (agC r2) (a.1,a.2.1,(a.2.2.1++[b.2.2.1]),a.2.2.2)).set (agC r2) (d.1,d.2.1,g,d.2.2.2))[(agC r2)]?).bind λw=>bif(ae ((v.2.2.1.length:Int)=w.2.1))then(((r1.set (agC r2) (a.1,a.2.1,(a.2.2.1++[b.2.2.1]),a.2.2.2)).set (agC r2) (d.1,d.2.1,g,d.2.2.2))[(agC r2)]?).bind λi=>(cD (((r1.set (agC r2) (a.1,a.2.1,(a.2.2.1++[b.2.2.1]),a.2.2.2)).set (agC r2) (d.1,d.2.1,g,d.2.2.2)).set (agC r2) (i.1,i.2.1,i.2.2.1,1,()))).bind λx=>bif(!x)then O ([],false)else O ((((r1.set (agC r2) (a.1,a.2.1,(a.2.2.1++[b.2.2.1]),a.2.2.2)).set (agC r2) (d.1,d.2.1,g,d.2.2.2)).set (agC r2) (i.1,i.2.1,i.2.2.1,1,())),true)else(cD ((r1.set (agC r2) (a.1,a.2.1,(a.2.2.1++[b.2.2.1]),a.2.2.2)).set (agC r2) (d.1,d.2.1,g,d.2.2.2))).bind λy=>bif(!y)then O ([],false)else O (((r1.set (agC r2) (a.1,a.2.1,(a.2.2.1++[b.2.2.1]),a.2.2.2)).set (agC r2) (d.1,d.2.1,g,d.2.2.2)),true)else U) ((r1[(agC r2)]?).bind λc=>((r1.set (agC r2) (c.1,c.2.1,(a.2.2.1++[b.2.2.1]),c.2.2.2))[(agC r2)]?).bind λe=>(gR e.2.2.1).bind λh=>(((r1.set (agC r2) (c.1,c.2.1,(a.2.2.1++[b.2.2.1]),c.2.2.2)).set (agC r2) (e.1,e.2.1,h,e.2.2.2))[(agC r2)]?).bind λz=>(((r1.set (agC r2) (c.1,c.2.1,(a.2.2.1++[b.2.2.1]),c.2.2.2)).set (agC r2) (e.1,e.2.1,h,e.2.2.2))[(agC r2)]?).bind λA=>bif(ae ((z.2.2.1.length:Int)=A.2.1))then(((r1.set (agC r2) (c.1,c.2.1,(a.2.2.1++[b.2.2.1]),c.2.2.2)).set (agC r2) (e.1,e.2.1,h,e.2.2.2))[(agC r2)]?).bind λj=>(cD (((r1.set (agC r2) (c.1,c.2.1,(a.2.2.1++[b.2.2.1]),c.2.2.2)).set (agC r2) (e.1,e.2.1,h,e.2.2.2)).set (agC r2) (j.1,j.2.1,j.2.2.1,1,()))).bind λB=>bif(!B)then O ([],false)else O ((((r1.set (agC r2) (c.1,c.2.1,(a.2.2.1++[b.2.2.1]),c.2.2.2)).set (agC r2) (e.1,e.2.1,h,e.2.2.2)).set (agC r2) (j.1,j.2.1,j.2.2.1,1,())),true)else(cD ((r1.set (agC r2) (c.1,c.2.1,(a.2.2.1++[b.2.2.1]),c.2.2.2)).set (agC r2) (e.1,e.2.1,h,e.2.2.2))).bind λC=>bif(!C)then O ([],false)else O (((r1.set (agC r2) (c.1,c.2.1,(a.2.2.1++[b.2.2.1]),c.2.2.2)).set (agC r2) (e.1,e.2.1,h,e.2.2.2)),true))else U else(r1[(agC r2)]?).bind λD=>(r1[(agC r2)]?).bind λE=>bif(ae ((D.2.2.1.length:Int)=E.2.1))then(r1[(agC r2)]?).bind λk=>(cD (r1.set (agC r2) (k.1,k.2.1,k.2.2.1,1,()))).bind λF=>bif(!F)then O ([],false)else O ((r1.set (agC r2) (k.1,k.2.1,k.2.2.1,1,())),true)else(cD r1).bind λG=>bif(!G)then O ([],false)else O (r1,true)else U else(bif(ae (b.1=3))then O (ae (0<=r2))else O false).bind λH=>(bif H then bif ae (0<=r2)&&ae (r2<(r1.length:Int))then(r1[(agC r2)]?).bind λI=>O (ae (I.2.2.2.1=0))else U else O false).bind λJ=>bif J then bif ae (0<=r2)&&ae (r2<(r1.length:Int))then(r1[(agC r2)]?).bind λl=>(cD (r1.set (agC r2) (l.1,l.2.1,l.2.2.1,2,()))).bind λK=>bif(!K)then O ([],false)else O ((r1.set (agC r2) (l.1,l.2.1,l.2.2.1,2,())),true)else U else O ([],false)
def Zz:aR:=⟨[.val (.slice bt),.val aU],[.own (.slice bt),rB],λx=>cP x.1 x.2⟩
theorem Vo:SF 208 Zz:=qV {eG [VL,Mp,WD,Sc,ZM,abl]with ro:=[3],loops:=[(6,⟨[3],[.own 6 [] 160 bt true,.tv 7 tI],[(.exit 1,[.own 6 [] 160 bt true,.tv 7 tI])]⟩)],mv:=true,ins:=[(270,bt)],hoist:=[(12,[0])]} Tryz.func208 (hI:=CE Po ⟨_,Tryz.func270,by kernel_rfl,by kernel_rfl⟩ kQ)
def kR(c:List aT)(a:Int)(b:Int):Option ((List aT)×Bool):=(cD c).bind λr1=>bif(!r1)then O ([],false)else(cP c (1,a,b,())).bind λr2=>O (r2.1,r2.2)
def Z7:aR:=⟨[.val (.slice bt),vI,vI],[.own (.slice bt),rB],λx=>kR x.1 x.2.1 x.2.2⟩
theorem ab2:SF 150 Z7:=qV (eG [VL,Vo]) Tryz.func150
def nB(c:List aT)(a:Int)(b:Int):Option ((List aT)×Bool):=(cD c).bind λr1=>bif(!r1)then O ([],false)else(cP c (2,a,b,())).bind λr2=>O (r2.1,r2.2)
def abn:aR:=⟨[.val (.slice bt),vI,vI],[.own (.slice bt),rB],λx=>nB x.1 x.2.1 x.2.2⟩
theorem aa1:SF 151 abn:=qV (eG [VL,Vo]) Tryz.func151
def yR(b:List aT)(a:Int):Option ((List aT)×Bool):=(cD b).bind λr1=>bif(!r1)then O ([],false)else(cP b (3,a,0,())).bind λr2=>O (r2.1,r2.2)
def YK:aR:=⟨[.val (.slice bt),vI],[.own (.slice bt),rB],λx=>yR x.1 x.2⟩
theorem Zg:SF 152 YK:=qV (eG [VL,Vo]) Tryz.func152
def kI(c:List aT)(a:Int):Option (Bytes×Bool):=(kJ c a).bind λr1=>(cD c).bind λr2=>(bif(!r2)then O true else O (ae (r1<0))).bind λc3=>bif c3 then O ([],false)else(idx c r1).bind λd=>(wl a).bind λb=>bif(ae (d.2.2.2.1=1))then bif ae (aeP b+aeP ([32,97,114,114,105,118,101,100]:Bytes)<=lim)then O ((b++([32,97,114,114,105,118,101,100]:Bytes)),true)else U else bif(ae (d.2.2.2.1=0))then bif ae (aeP b+aeP ([32,111,112,101,110,32]:Bytes)<=lim)then(cA [(d.2.2.1.length:Int),d.2.1] ([47]:Bytes)).bind λe=>bif ae (aeP (b++([32,111,112,101,110,32]:Bytes))+aeP e<=lim)then O (((b++([32,111,112,101,110,32]:Bytes))++e),true)else U else U else bif ae (aeP b+aeP ([32,102,97,105,108,101,100,32]:Bytes)<=lim)then(cA [(d.2.2.1.length:Int),d.2.1] ([47]:Bytes)).bind λf=>bif ae (aeP (b++([32,102,97,105,108,101,100,32]:Bytes))+aeP f<=lim)then O (((b++([32,102,97,105,108,101,100,32]:Bytes))++f),true)else U else U
def Z2:aR:=⟨[.val (.slice bt),vI],[rS,rB],λx=>kI x.1 x.2⟩
theorem aaY:SF 153 Z2:=qV (eG [VL,UU,TN,WD]) Tryz.func153
def bA(a:bp)(b:Bytes)(c:List Int):Option (bp×Bytes×Bool):=bif(ae (b=ft))then(idx c 0).bind λg=>(idx c 1).bind λh=>(kR a.2.2.2.2.1 g h).bind λr3=>bif(!r3.2)then O (a,[],false)else O ((a.1,a.2.1,a.2.2.1,a.2.2.2.1,r3.1,a.2.2.2.2.2),([111,107]:Bytes),true)else bif(ae (b=eV))then(idx c 0).bind λi=>(idx c 1).bind λj=>(nB a.2.2.2.2.1 i j).bind λe=>bif(!e.2)then O (a,[],false)else O ((a.1,a.2.1,a.2.2.1,a.2.2.2.1,e.1,a.2.2.2.2.2),([111,107]:Bytes),true)else bif(ae (b=jJ))then(idx c 0).bind λk=>(yR a.2.2.2.2.1 k).bind λf=>bif(!f.2)then O (a,[],false)else O ((a.1,a.2.1,a.2.2.1,a.2.2.2.1,f.1,a.2.2.2.2.2),([111,107]:Bytes),true)else bif(ae (b=iT))then(idx c 0).bind λl=>(kI a.2.2.2.2.1 l).bind λd=>O (a,d.1,d.2)else bif(!false)then O (a,[],false)else O (a,([111,107]:Bytes),true)
def YW:aR:=⟨[.cK jH,vS,.val (.slice tI)],[rS,rB],λx=>bA x.1 x.2.1 x.2.2⟩
theorem aaP:SF 111 YW:=qX {eG [ab2,aa1,Zg,aaY]with T:=TR} Tryz.func111 (hT:=tR)
def mH(a:List Int):Option (Int):=
 (aX (λ(st2:Int)=>(
 bif(ae (st2<(a.length:Int)))then
 (idx a st2).bind λb=>
 bif(!decide (b=0))then
 O (.inr (.inr b))
 else
 O (.inl (aW (st2+1)))
 else
 O (.inr (.inl ())):Option ((Int)⊕(Unit⊕Int)))) 0).bind λo4=>
 match o4 with
 |.inl _=>
  O 0
 |.inr y6=>
  O y6
def C86:aR:=⟨[.val (.slice tI)],[rI],λx=>mH x⟩
theorem Zq:SF 86 C86:=qV {eG []with loops:=[(3,⟨[3,6,7],[.tv 8 tI],[(.exit 0,[]),(.ret,[.tv 2 tI])]⟩)]} Tryz.func86
def cmp_isNaN_int(a:Int):Option (Bool):=O (!decide (a=a))
def Xz:aR:=⟨[vI],[rB],λx=>cmp_isNaN_int x⟩
theorem Yg:SF 115 Xz:=qV (eG []) Tryz.func115
def dO(a:Int)(b:Int):Option (Int):=(cmp_isNaN_int a).bind λr1=>(cmp_isNaN_int b).bind λr2=>bif r1 then bif r2 then O 0 else O (-1)else bif r2 then O 1 else bif(ae (a<b))then O (-1)else bif(ae (b<a))then O 1 else O 0
def C87:aR:=⟨[vI,vI],[rI],λx=>dO x.1 x.2⟩
theorem x5:SF 87 C87:=qV (eG [Yg]) Tryz.func87
def iE(a:aO)(b:aO):Option (Int):=(dO a.1 b.1).bind λr1=>(dO a.2.1 b.2.1).bind λr2=>(mH [r1,r2]).bind λr3=>O r3
def C68:aR:=⟨[.val aU,.val aU],[rI],λx=>iE x.1 x.2⟩
theorem S68:SF 68 C68:=qV (eG [Zq,x5] [2,3]) Tryz.func68
def pj(a:b9):Option (Bool):=
 (cT (a.1.length:Int) 1 16).bind λr1=>
 (bif(!r1)then
 O true
 else
 O (ae (40<(a.2.1.length:Int)))).bind λc2=>
 bif c2 then
 O false
 else
 (aX (λ(d:Int)=>(
 bif(ae (d<(a.1.length:Int)))then
 (idx a.1 d).bind λe=>
 (cT e.1 0 999).bind λq=>
 (bif(!q)then
 O true
 else
 (cT e.2.1 0 999).bind λr=>
 O (!r)).bind λs=>
 (bif s then
 O true
 else
 (cT e.2.2.1 0 500).bind λt=>
 O (!t)).bind λf=>
 bif f then
 O (.inr (.inr false))
 else
 O (.inl (aW (d+1)))
 else
 O (.inr (.inl ())):Option ((Int)⊕(Unit⊕Bool)))) 0).bind λg=>
 match g with
 |.inl _=>
  (aX (λ(b:Int)=>(
  bif(ae (b<(a.2.1.length:Int)))then
  (idx a.2.1 b).bind λc=>
  (bif(ae (c.1<0))then
  O true
  else
  O (ae (c.2.1<=c.1))).bind λh=>
  (bif h then
  O true
  else
  O (ae ((a.1.length:Int)<=c.2.1))).bind λi=>
  (bif i then
  O true
  else
  (cT c.2.2.1 1 60).bind λj=>
  O (!j)).bind λc20=>
  (bif c20 then
  O true
  else
  (bif(ae (0<b))then
  (idx a.2.1 (aW (b-1))).bind λk=>
  (iE k c).bind λl=>
  O (ae (0<=l))
  else
  O false).bind λm=>
  O m).bind λc24=>
  bif c24 then
  O (.inr (.inr false))
  else
  O (.inl (aW (b+1)))
  else
  O (.inr (.inl ())):Option ((Int)⊕(Unit⊕Bool)))) 0).bind λn=>
  match n with
  |.inl _=>
   O true
  |.inr o=>
   O o
 |.inr p=>
  O p
def C43:aR:=⟨[.val dH],[rB],λx=>pj x⟩
theorem Wl:SF 43 C43:=qV {eG [Mp,S68] [1]with loops:=[(4,⟨[1,19,20,54,55,56,57,58,61,62,63,64,65,66,69,70,71,72,75,76,77,78,79,80,81,82,83,84,85,86,87],[.tv 21 tI],[(.exit 0,[]),(.ret,[.tv 2 .bool])]⟩),(10,⟨[1,43,44],[.tv 45 tI],[(.exit 2,[]),(.ret,[.tv 2 .bool])]⟩)]} Tryz.func43
def iM(a:List aO):Option ((List aO)):=bif aeO a then bN (bif true then O []else bif ae (aeP a<=lim)then O a else U) (bif false then O []else bif ae (aeP a<=lim)then O a else U)else bif false then O []else bif ae (aeP a<=lim)then O a else U
def ab1:aR:=⟨[.val (.slice aU)],[.own (.slice aU)],λx=>iM x⟩
theorem Z9:SF 210 ab1:=qV (eG []) Tryz.func210
def lS(a:List aO):Option ((List aO)):=bif aeO a then bN (bif true then O []else bif ae (aeP a<=lim)then O a else U) (bif false then O []else bif ae (aeP a<=lim)then O a else U)else bif false then O []else bif ae (aeP a<=lim)then O a else U
def Yj:aR:=⟨[.val (.slice aU)],[.own (.slice aU)],λx=>lS x⟩
theorem abr:SF 211 Yj:=qV (eG []) Tryz.func211
def mS(a:b9):Option (b9):=(iM a.1).bind λr1=>(lS a.2.1).bind λr2=>O (r1,r2,())
def aap:aR:=⟨[.val dH],[.own dH],λx=>mS x⟩
theorem Xc:SF 154 aap:=qV (eG [Z9,abr] [1]) Tryz.func154
def sO(d:b9)(c:aO):Option (b9×Bool):=(pj d).bind λr1=>bif(!r1)then O (([],[],()),false)else(mS d).bind λr2=>(aX (λ(a:(List aO)×(List aO)×(List aO)×(List aO)×Int)=>((bif(ae (a.2.2.2.2<(a.2.2.2.1.length:Int)))then bif ae (0<=a.2.2.2.2)&&ae (a.2.2.2.2<(a.2.2.2.1.length:Int))then(a.2.2.2.1[(agC a.2.2.2.2)]?).bind λe=>(iE e c).bind λf=>O (ae (f<0))else U else O false).bind λg=>bif g then O (.inl (a.1,a.2.1,a.2.2.1,a.2.2.2.1,(aW (a.2.2.2.2+1))))else O (.inr (a.1,a.2.1,a.2.2.1,a.2.2.2.1,a.2.2.2.2)):Option (((List aO)×(List aO)×(List aO)×(List aO)×Int)⊕(((List aO)×(List aO)×(List aO)×(List aO)×Int))))) ([],[],r2.1,r2.2.1,0)).bind λb=>bif ae (0<=b.2.2.2.2)&&ae (b.2.2.2.2<=(b.2.2.2.1.length:Int))&&ae (aeP b.2.2.2.1<=999999)then(pj (b.2.2.1,(xe b.2.2.2.1 b.2.2.2.2 c),())).bind λh=>bif(!h)then O (([],[],()),false)else O ((b.2.2.1,(xe b.2.2.2.1 b.2.2.2.2 c),()),true)else U
def Y2:aR:=⟨[.val dH,.val aU],[.own dH,rB],λx=>sO x.1 x.2⟩
theorem X4:SF 155 Y2:=qV {eG [Wl,S68,Xc]with ro:=[2,3],loops:=[(5,⟨[3],[.bx 4 64 [.own 300064 aU true,.own 300065 aU true],.bx 6 96 [.own 208 aU true,.own 209 aU true],.tv 7 tI],[(.exit 0,[.bx 4 64 [.own 300064 aU true,.own 300065 aU true],.bx 6 96 [.own 208 aU true,.own 209 aU true],.tv 7 tI])]⟩)],ins:=[(212,aU)]} Tryz.func155 (hI:=CE QF ⟨_,Tryz.func212,by kernel_rfl,by kernel_rfl⟩ kQ)
def Ao(b:b9)(a:aO):Option (Bool):=(cT a.1 0 (aW ((b.2.1.length:Int)-1))).bind λr1=>(bif r1 then O (ae (0<=a.2.1))else O false).bind λc2=>(bif c2 then O (ae (a.2.1<a.2.2.1))else O false).bind λc3=>(bif c3 then O (ae (a.2.2.1<=10000))else O false).bind λc4=>O c4
def ace:aR:=⟨[.val dH,.val aU],[rB],λx=>Ao x.1 x.2⟩
theorem WV:SF 214 ace:=qV (eG [Mp] [2,3]) Tryz.func214
def rU(a:aO)(b:aO):Option (Int):=(dO a.1 b.1).bind λr1=>(dO a.2.1 b.2.1).bind λr2=>(mH [r1,r2]).bind λr3=>O r3
def Yy:aR:=⟨[.val aU,.val aU],[rI],λx=>rU x.1 x.2⟩
theorem Y3:SF 216 Yy:=qV (eG [Zq,x5] [2,3]) Tryz.func216
def sV(c:b9)(a:List aO):Option (Bool):=
 bif(ae (60<(a.length:Int)))then
 O false
 else
 (aX (λ(st2:Int)=>(
 bif(ae (st2<(a.length:Int)))then
 (idx a st2).bind λb=>
 (Ao c b).bind λh=>
 (bif(!h)then
 O true
 else
 (bif(ae (0<st2))then
 (idx a (aW (st2-1))).bind λi=>
 (rU i b).bind λj=>
 (bif(ae (0<=j))then
 O true
 else
 (idx a (aW (st2-1))).bind λk=>
 (bif(ae (k.1=b.1))then
 (idx a (aW (st2-1))).bind λl=>
 O (ae (b.2.1<=l.2.2.1))
 else
 O false).bind λc9=>
 O c9).bind λd=>
 O d
 else
 O false).bind λe=>
 O e).bind λc12=>
 bif c12 then
 O (.inr (.inr false))
 else
 O (.inl (aW (st2+1)))
 else
 O (.inr (.inl ())):Option ((Int)⊕(Unit⊕Bool)))) 0).bind λf=>
 match f with
 |.inl _=>
  O true
 |.inr g=>
  O g
def YB:aR:=⟨[.val dH,.val (.slice aU)],[rB],λx=>sV x.1 x.2⟩
theorem VT:SF 213 YB:=qV {eG [WV,Y3] [2]with loops:=[(4,⟨[1,2,10,11],[.tv 12 tI],[(.exit 0,[]),(.ret,[.tv 4 .bool])]⟩)]} Tryz.func213
def abb:aR:=⟨[.own (.slice aU),.fn 216 []],[],λx=>sr x.1⟩
theorem aaB:SF 215 abb:=⟨Ig,qN Tryz.func215 (by kernel_rfl)⟩
def vu(e:b9)(f:List aO)(c:aO):Option ((List aO)×Bool):=(pj e).bind λr1=>(bif(!r1)then O true else(sV e f).bind λr2=>O (!r2)).bind λc3=>(bif c3 then O true else(Ao e c).bind λi=>O (!i)).bind λc5=>bif c5 then O ([],false)else(aX (λ(a:Int×Int×Int×(List aO)×Int)=>(bif(ae (a.2.2.2.2<(f.length:Int)))then(idx f a.2.2.2.2).bind λd=>(bif(ae (d.1=a.1))then O (ae (d.2.1<=a.2.2.1))else O false).bind λc9=>(bif c9 then O (ae (a.2.1<=d.2.2.1))else O false).bind λh=>bif h then(λx=>bN x x) (O (.inl (a.1,(bif ae (d.2.1<a.2.1)then d.2.1 else a.2.1),(bif ae (a.2.2.1<d.2.2.1)then d.2.2.1 else a.2.2.1),a.2.2.2.1,(aW (a.2.2.2.2+1)))))else bif ae (aeP a.2.2.2.1+aeP [d]<=lim)then O (.inl (a.1,a.2.1,a.2.2.1,(a.2.2.2.1++[d]),(aW (a.2.2.2.2+1))))else U else O (.inr (a.1,a.2.1,a.2.2.1,a.2.2.2.1)):Option ((Int×Int×Int×(List aO)×Int)⊕((Int×Int×Int×(List aO)))))) (c.1,c.2.1,c.2.2.1,[],0)).bind λb=>bif ae (aeP b.2.2.2+aeP [(b.1,b.2.1,b.2.2.1,())]<=lim)then(sr (b.2.2.2++[(b.1,b.2.1,b.2.2.1,())])).bind λg=>bif(ae (60<(g.length:Int)))then O ([],false)else O (g,true)else U
def Zj:aR:=⟨[.val dH,.val (.slice aU),.val aU],[.own (.slice aU),rB],λx=>vu x.1 x.2.1 x.2.2⟩
theorem YE:SF 156 Zj:=qV {eG [Wl,VT,WV,aaB] [3]with loops:=[(5,⟨[26,27],[.bx 5 80 [.pv tI,.pv tI,.pv tI],.own 8 [] 200008 aU true,.tv 28 tI],[(.exit 0,[.bx 5 80 [.pv tI,.pv tI,.pv tI],.own 8 [] 200008 aU true])]⟩)],preb:=[(8,[(160,aU)])],every:=[8]} Tryz.func156
def wT(a:b9)(b:Int):Option (Bool):=(pj a).bind λr1=>(bif r1 then(cT b 0 (aW ((a.1.length:Int)-1))).bind λr2=>O r2 else O false).bind λc3=>O c3
def ZH:aR:=⟨[.val dH,vI],[rB],λx=>wT x.1 x.2⟩
theorem aat:SF 278 ZH:=qV (eG [Wl,Mp] [2]) Tryz.func278
def mV(a:b9)(b:List aO)(c:Int)(d:Int)(e:Int):Option (Bool):=(wT a c).bind λr1=>(bif r1 then(wT a d).bind λr2=>O r2 else O false).bind λc3=>(bif c3 then(sV a b).bind λf=>O f else O false).bind λc5=>(bif c5 then(cT e 0 10000).bind λg=>O g else O false).bind λh=>O h
def abi:aR:=⟨[.val dH,.val (.slice aU),vI,vI,vI],[rB],λx=>mV x.1 x.2.1 x.2.2.1 x.2.2.2.1 x.2.2.2.2⟩
theorem W8:SF 217 abi:=qV (eG [Mp,VT,aat] [5]) Tryz.func217
def tX(c:List aO)(b:Int)(e:Int)(a:Int):Option (Int):=(aX (λ(st2:Int×Int)=>(bif(ae (st2.2<(c.length:Int)))then(idx c st2.2).bind λd=>(bif(ae (d.1=b))then O (ae (st2.1<d.2.2.1))else O false).bind λc4=>(bif c4 then O (ae (d.2.1<(aW (st2.1+a))))else O false).bind λc5=>bif c5 then O (.inl (d.2.2.1,(aW (st2.2+1))))else O (.inl (st2.1,(aW (st2.2+1))))else O (.inr st2.1):Option ((Int×Int)⊕(Int)))) (e,0)).bind λf=>O f
def ack:aR:=⟨[.val (.slice aU),vI,vI,vI],[rI],λx=>tX x.1 x.2.1 x.2.2.1 x.2.2.2⟩
theorem YY:SF 281 ack:=qV {eG []with loops:=[(2,⟨[1,3,11,12],[.tv 2 tI,.tv 13 tI],[(.exit 0,[.tv 2 tI])]⟩)]} Tryz.func281
def mA(b:b9)(c:List aO)(a:Int)(d:Int):Option (Int):=(idx b.2.1 a).bind λe=>(tX c a d e.2.2.1).bind λr2=>O (aW (r2+e.2.2.1))
def ZU:aR:=⟨[.val dH,.val (.slice aU),vI,vI],[rI],λx=>mA x.1 x.2.1 x.2.2.1 x.2.2.2⟩
theorem V8:SF 220 ZU:=qV (eG [YY] [4]) Tryz.func220
def lr(c:b9)(g:List aO)(e:Int)(l:Int):Option ((List Int)):=bif ae (0<=(c.1.length:Int))&&ae ((c.1.length:Int)<=(c.1.length:Int))&&ae ((c.1.length:Int)<=lim)then(aX (λ(st2:(List Int)×Int)=>(bif(ae (st2.2<((aeU (agC (c.1.length:Int)) (0:Int)).length:Int)))then bif ae (0<=st2.2)&&ae (st2.2<(st2.1.length:Int))then O (.inl ((st2.1.set (agC st2.2) (-1)),(aW (st2.2+1))))else U else O (.inr st2.1):Option (((List Int)×Int)⊕((List Int))))) ((aeU (agC (c.1.length:Int)) (0:Int)),0)).bind λx=>bif ae (0<=e)&&ae (e<(x.length:Int))then(aX (λ(f:(List Int)×Bool)=>(bif f.2 then(aX (λ(d:(List Int)×Bool×Int)=>(bif(ae (d.2.2<(c.2.1.length:Int)))then(idx c.2.1 d.2.2).bind λb=>(aX (λ(a:(List Int)×Bool×Int)=>(bif(ae (a.2.2<2))then bif ae (a.2.2=(1:Int))then bif ae (0<=b.2.1)&&ae (b.2.1<(a.1.length:Int))then(a.1[(agC b.2.1)]?).bind λm=>bif(ae (m<0))then O (.inl (a.1,a.2.1,(aW (a.2.2+1))))else bif ae (0<=b.2.1)&&ae (b.2.1<(a.1.length:Int))then(a.1[(agC b.2.1)]?).bind λn=>(mA c g d.2.2 n).bind λh=>bif ae (0<=b.1)&&ae (b.1<(a.1.length:Int))then(a.1[(agC b.1)]?).bind λo=>(bif(ae (o<0))then O true else bif ae (0<=b.1)&&ae (b.1<(a.1.length:Int))then(a.1[(agC b.1)]?).bind λp=>O (ae (h<p))else U).bind λq=>bif q then bif ae (0<=b.1)&&ae (b.1<(a.1.length:Int))then O (.inl ((a.1.set (agC b.1) h),true,(aW (a.2.2+1))))else U else O (.inl (a.1,a.2.1,(aW (a.2.2+1))))else U else U else U else bif ae (a.2.2=(0:Int))then bif ae (0<=b.1)&&ae (b.1<(a.1.length:Int))then(a.1[(agC b.1)]?).bind λr=>bif(ae (r<0))then O (.inl (a.1,a.2.1,(aW (a.2.2+1))))else bif ae (0<=b.1)&&ae (b.1<(a.1.length:Int))then(a.1[(agC b.1)]?).bind λs=>(mA c g d.2.2 s).bind λi=>bif ae (0<=b.2.1)&&ae (b.2.1<(a.1.length:Int))then(a.1[(agC b.2.1)]?).bind λt=>(bif(ae (t<0))then O true else bif ae (0<=b.2.1)&&ae (b.2.1<(a.1.length:Int))then(a.1[(agC b.2.1)]?).bind λu=>O (ae (i<u))else U).bind λv=>bif v then bif ae (0<=b.2.1)&&ae (b.2.1<(a.1.length:Int))then O (.inl ((a.1.set (agC b.2.1) i),true,(aW (a.2.2+1))))else U else O (.inl (a.1,a.2.1,(aW (a.2.2+1))))else U else U else U else U else O (.inr (a.1,a.2.1)):Option (((List Int)×Bool×Int)⊕(((List Int)×Bool))))) (d.1,d.2.1,0)).bind λj=>O (.inl (j.1,j.2,(aW (d.2.2+1))))else O (.inr (d.1,d.2.1)):Option (((List Int)×Bool×Int)⊕(((List Int)×Bool))))) (f.1,false,0)).bind λk=>O (.inl (k.1,k.2))else O (.inr f.1):Option (((List Int)×Bool)⊕((List Int))))) ((x.set (agC e) l),true)).bind λw=>O w else U else U
def YI:aR:=⟨[.val dH,.val (.slice aU),vI,vI],[.own (.slice tI)],λx=>lr x.1 x.2.1 x.2.2.1 x.2.2.2⟩
theorem Ws:SF 218 YI:=qV {eG [V8] [4]with loops:=[(3,⟨[1,2,3,4,24,82,83,84,85,86,87],[.own 9 [] 352 tI true,.tv 25 tI],[(.exit 0,[.own 9 [] 352 tI true])]⟩),(9,⟨[1,4],[.own 9 [] 352 tI true,.tv 11 .bool],[(.exit 2,[.own 9 [] 352 tI true])]⟩),(12,⟨[1,4,38,39],[.own 9 [] 352 tI true,.tv 11 .bool,.tv 40 tI],[(.exit 4,[.own 9 [] 352 tI true,.tv 11 .bool])]⟩),(15,⟨[1,4,12,38,39,40,55],[.own 9 [] 352 tI true,.tv 11 .bool,.tv 56 tI],[(.exit 6,[.own 9 [] 352 tI true,.tv 11 .bool])]⟩)]} Tryz.func218
def gA(b:b9)(c:List aO)(d:Int)(a:Int)(e:Int):Option (Int×Bool):=(mV b c d a e).bind λr1=>bif(!r1)then O (0,false)else(lr b c d e).bind λr2=>bif ae (0<=a)&&ae (a<(r2.length:Int))then(r2[(agC a)]?).bind λf=>bif(ae (f<0))then O (0,false)else O (f,true)else U
def acr:aR:=⟨[.val dH,.val (.slice aU),vI,vI,vI],[rI,rB],λx=>gA x.1 x.2.1 x.2.2.1 x.2.2.2.1 x.2.2.2.2⟩
theorem XL:SF 157 acr:=qV (eG [W8,Ws] [5]) Tryz.func157
def rQ(c:aO)(a:Int)(b:Int):Option (Bool):=(bif(ae (c.1=(bif ae (b<a)then b else a)))then O (ae (c.2.1=(bif ae (a<b)then b else a)))else O false).bind λc1=>O c1
def abd:aR:=⟨[.val aU,.rp tI,.rp tI],[rB],λx=>rQ x.1 x.2.1 x.2.2⟩
theorem XH:SF 280 abd:=qV (eG [] [3]) Tryz.func280
def gK(a:List aO)(b:Int×Int×Unit):Option (Int):=
 (aX (λ(st2:Int)=>(
 bif(ae (st2<(a.length:Int)))then
 (idx a st2).bind λc=>
 (rQ c b.1 b.2.1).bind λd=>
 bif d then
 O (.inr (.inr st2))
 else
 O (.inl (aW (st2+1)))
 else
 O (.inr (.inl ())):Option ((Int)⊕(Unit⊕Int)))) 0).bind λe=>
 match e with
 |.inl _=>
  O (-1)
 |.inr f=>
  O f
def PB:aR:=⟨[.val (.slice aU),.fn 280 [tI,tI]],[rI],λx=>gK x.1 x.2⟩
theorem Rv:SF 279 PB:=qV {eG [XH]with loops:=[(2,⟨[0,1,7],[.tv 8 tI],[(.exit 0,[]),(.ret,[.tv 4 tI])]⟩)]} Tryz.func279
def nN(a:b9)(b:Int)(c:Int):Option (Int):=(gK a.2.1 (b,c,())).bind λr1=>O r1
def Zf:aR:=⟨[.val dH,vI,vI],[rI],λx=>nN x.1 x.2.1 x.2.2⟩
theorem ab3:SF 219 Zf:=qV (eG [Rv] [3,4,5]) Tryz.func219
def gq(a:List Int):Option ((List Int)):=(aX (λ(st2:(List Int)×Int×Int)=>(bif(ae (st2.2.1<st2.2.2))then bif ae (0<=st2.2.2)&&ae (st2.2.2<(st2.1.length:Int))then(st2.1[(agC st2.2.2)]?).bind λb=>bif ae (0<=st2.2.1)&&ae (st2.2.1<(st2.1.length:Int))then(st2.1[(agC st2.2.1)]?).bind λc=>bif ae (0<=st2.2.1)&&ae (st2.2.1<(st2.1.length:Int))then bif ae (0<=st2.2.2)&&ae (st2.2.2<((st2.1.set (agC st2.2.1) b).length:Int))then O (.inl (((st2.1.set (agC st2.2.1) b).set (agC st2.2.2) c),(aW (st2.2.1+1)),(aW (st2.2.2-1))))else U else U else U else U else O (.inr st2.1):Option (((List Int)×Int×Int)⊕((List Int))))) (a,0,(aW ((a.length:Int)-1)))).bind λd=>O d
def Zv:aR:=⟨[.own (.slice tI)],[],λx=>gq x⟩
theorem ab6:SF 221 Zv:=qO {eG []with loops:=[(1,⟨[],[.own 0 [] 100000 tI true,.tv 2 tI,.tv 3 tI],[(.exit 0,[.own 0 [] 100000 tI true])]⟩)],hoist:=[(3,[2,3])]} Tryz.func221
def kr(d:b9)(f:List aO)(g:Int)(b:Int)(h:Int):Option ((List Int)×Bool):=(mV d f g b h).bind λr1=>bif(!r1)then O ([],false)else(lr d f g h).bind λr2=>bif ae (0<=b)&&ae (b<(r2.length:Int))then(r2[(agC b)]?).bind λq=>bif(ae (q<0))then O ([],false)else(aX (λ(e:(List Int)×(List Int)×Int)=>(bif(!decide (e.2.2=g))then(aX (λ(a:(List Int)×(List Int)×Int×Int)=>(bif(ae (a.2.2.2<(d.1.length:Int)))then(nN d a.2.2.2 a.2.2.1).bind λp=>(bif(ae (0<=p))then bif ae (0<=a.2.2.2)&&ae (a.2.2.2<(a.1.length:Int))then(a.1[(agC a.2.2.2)]?).bind λr=>O (ae (0<=r))else U else O false).bind λi=>(bif i then bif ae (0<=a.2.2.2)&&ae (a.2.2.2<(a.1.length:Int))then(a.1[(agC a.2.2.2)]?).bind λj=>(mA d f p j).bind λk=>bif ae (0<=a.2.2.1)&&ae (a.2.2.1<(a.1.length:Int))then(a.1[(agC a.2.2.1)]?).bind λl=>O (ae (k=l))else U else U else O false).bind λm=>bif m then O (.inr (a.1,a.2.1,a.2.2.2))else O (.inl (a.1,a.2.1,a.2.2.1,(aW (a.2.2.2+1))))else O (.inr (a.1,a.2.1,a.2.2.1)):Option (((List Int)×(List Int)×Int×Int)⊕(((List Int)×(List Int)×Int))))) (e.1,e.2.1,e.2.2,0)).bind λc=>bif ae (aeP c.2.1+aeP [c.2.2]<=lim)then O (.inl (c.1,(c.2.1++[c.2.2]),c.2.2))else U else O (.inr e.2.1):Option (((List Int)×(List Int)×Int)⊕((List Int))))) (r2,[b],b)).bind λn=>(gq n).bind λo=>O (o,true)else U
def aaG:aR:=⟨[.val dH,.val (.slice aU),vI,vI,vI],[.own (.slice tI),rB],λx=>kr x.1 x.2.1 x.2.2.1 x.2.2.2.1 x.2.2.2.2⟩
theorem aaZ:SF 158 aaG:=qV {eG [W8,Ws,ab3,V8,ab6] [5]with loops:=[(8,⟨[1,2,5],[.own 12 [] 448 tI true,.own 13 [] 560 tI true,.tv 14 tI],[(.exit 0,[.own 13 [] 560 tI true])]⟩),(10,⟨[1,2,5,42],[.own 12 [] 448 tI true,.own 13 [] 560 tI true,.tv 14 tI,.tv 43 tI],[(.exit 2,[.own 12 [] 448 tI true,.own 13 [] 560 tI true,.tv 14 tI])]⟩)]} Tryz.func158
def iJ(a:List aO):Option ((List aO)):=bif aeO a then bN (bif true then O []else bif ae (aeP a<=lim)then O a else U) (bif false then O []else bif ae (aeP a<=lim)then O a else U)else bif false then O []else bif ae (aeP a<=lim)then O a else U
def abI:aR:=⟨[.val (.slice aU)],[.own (.slice aU)],λx=>iJ x⟩
theorem aao:SF 160 abI:=qV (eG []) Tryz.func160
def ow(a:aO)(b:aO):Option (Int):=(dO a.2.1 b.2.1).bind λr1=>(dO a.1 b.1).bind λr2=>(mH [r1,r2]).bind λr3=>O r3
def Zh:aR:=⟨[.val aU,.val aU],[rI],λx=>ow x.1 x.2⟩
theorem abv:SF 223 Zh:=qV (eG [Zq,x5] [2,3]) Tryz.func223
def rH(b:aO)(a:aO):Option (Bool):=(bif(ae (b.1=a.1))then O (ae (a.2.1<b.2.2.1))else O false).bind λc1=>O c1
def X2:aR:=⟨[.val aU,.rp aU],[rB],λx=>rH x.1 x.2⟩
theorem ZJ:SF 284 X2:=qV (eG [] [2]) Tryz.func284
def gj(a:List aO)(b:aO×Unit):Option (Int):=
 (aX (λ(st2:Int)=>(
 bif(ae (st2<(a.length:Int)))then
 (idx a st2).bind λc=>
 (rH c b.1).bind λd=>
 bif d then
 O (.inr (.inr st2))
 else
 O (.inl (aW (st2+1)))
 else
 O (.inr (.inl ())):Option ((Int)⊕(Unit⊕Int)))) 0).bind λe=>
 match e with
 |.inl _=>
  O (-1)
 |.inr f=>
  O f
def Ru:aR:=⟨[.val (.slice aU),.fn 284 [aU]],[rI],λx=>gj x.1 x.2⟩
theorem QG:SF 331 Ru:=qV {eG [ZJ]with loops:=[(2,⟨[0,1,7],[.tv 8 tI],[(.exit 0,[]),(.ret,[.tv 4 tI])]⟩)]} Tryz.func331
def dK(a:List aO)(b:aO×Unit):Option (Bool):=(gj a b).bind λr1=>O (ae (0<=r1))
def Ro:aR:=⟨[.val (.slice aU),.fn 284 [aU]],[rB],λx=>dK x.1 x.2⟩
theorem Pq:SF 283 Ro:=qV (eG [QG]) Tryz.func283
def lB(a:List aO):Option (Bool):=
 bif(ae (60<(a.length:Int)))then
 O false
 else
 (aX (λ(st2:Int)=>(
 bif(ae (st2<(a.length:Int)))then
 (idx a st2).bind λb=>
 (cT b.1 1 30).bind λi=>
 (bif(!i)then
 O true
 else
 O (ae (b.2.1<0))).bind λc5=>
 (bif c5 then
 O true
 else
 O (ae (b.2.2.1<=b.2.1))).bind λj=>
 (bif j then
 O true
 else
 O (ae (168<b.2.2.1))).bind λk=>
 (bif k then
 O true
 else
 (bif(ae (0<st2))then
 (idx a (aW (st2-1))).bind λl=>
 (ow l b).bind λm=>
 O (ae (0<=m))
 else
 O false).bind λc=>
 O c).bind λd=>
 bif d then
 O (.inr (.inr false))
 else
 (sub a 0 st2).bind λe=>
 (dK e (b,())).bind λf=>
 bif f then
 O (.inr (.inr false))
 else
 O (.inl (aW (st2+1)))
 else
 O (.inr (.inl ())):Option ((Int)⊕(Unit⊕Bool)))) 0).bind λg=>
 match g with
 |.inl _=>
  O true
 |.inr h=>
  O h
def Z0:aR:=⟨[.val (.slice aU)],[rB],λx=>lB x⟩
theorem WH:SF 224 Z0:=qV {eG [Mp,abv,Pq]with loops:=[(4,⟨[0,8,9],[.tv 10 tI],[(.exit 0,[]),(.ret,[.tv 2 .bool])]⟩)],preb:=[(8,[(64,aU)])]} Tryz.func224
noncomputable def sortedF(l:List aO):Option (List aO×Bool):=bif ae (l.length<4611686018427387904)then(lB (mE oD l)).map λb=>bif b then(mE oD l,true)else([],false)else U
noncomputable def Qh:uN:={t:=aU,g:=0,keep:=λ_=>true,out:=O sortedF}
set_option maxHeartbeats 1000000 in
theorem KY(w:World)(v:Value)(K1 K2:World->Prop)(hS:Calls Tryz.prog 222 #[v,.func (.func 223) #[] #[]] w fun e w'=>e=.returned (.tuple #[])/\K1 w')(hA:∀W,K1 W->Calls Tryz.prog 224 #[v] W fun e w'=>e=.returned (.bool true)/\K2 w'):Calls Tryz.prog 159 #[v] w fun e w'=>e=.returned (.tuple #[v,.bool true])/\K2 w':=by go_enter Tryz.func159,Tryz.ntmps159;go_wp2_with (first|(go_at_call 222;refine hS.mono ?_;rintro e w' ⟨rfl,hK⟩)|(go_at_call 224;refine(hA _ hK).mono ?_;rintro e w' ⟨rfl,hK2⟩));go_ret2;exact⟨rfl,hK2⟩
set_option maxHeartbeats 1000000 in
theorem Nu(w:World)(v:Value)(K1 K2:World->Prop)(hS:Calls Tryz.prog 222 #[v,.func (.func 223) #[] #[]] w fun e w'=>e=.returned (.tuple #[])/\K1 w')(hA:∀W,K1 W->Calls Tryz.prog 224 #[v] W fun e w'=>e=.returned (.bool false)/\K2 w'):Calls Tryz.prog 159 #[v] w fun e w'=>e=.returned (.tuple #[.slice U 0 0,.bool false])/\K2 w':=by go_enter Tryz.func159,Tryz.ntmps159;go_wp2_with (first|(go_at_call 222;refine hS.mono ?_;rintro e w' ⟨rfl,hK⟩)|(go_at_call 224;refine(hA _ hK).mono ?_;rintro e w' ⟨rfl,hK2⟩));go_ret2;exact⟨rfl,hK2⟩
theorem Qx:Jk Tryz.prog 159 Qh:=by refine⟨(λh=>by cases h),?_⟩;rintro G hG w v xs ys b F hT r s f;(obtain rfl:sortedF=G:=by injection hG);unfold sortedF at f;cases hx:ae ((show List aO from xs).length<4611686018427387904)with|false=>rw[hx]at f;cases f|true=>rw[hx,ai]at f;have hx:=of_decide_eq_true hx;cases hq:lB (mE oD xs)with|none=>rw[hq]at f;cases f|some c=>rw[hq]at f;(have f:(bif c then(mE oD xs,true)else([],false))=(ys,b):=by injection f);have ho:KB w (.slice T3) v xs F:=⟨[v],rfl,v,rfl,r⟩;have t:=Lj ho hx;(have hA:∀W,(∃d,iu w W F/\KB W (.slice T3) v (mE oD xs) d/\∀q,d q->F q)->Calls Tryz.prog 224 #[v] W λe w'=>e=.returned (.bool c)/\∃d,iu w w' F/\KB w' (.slice T3) v (mE oD xs) d/\∀q,d q->F q:=by rintro W ⟨d,hp,j,i⟩;obtain⟨cs,g,hO⟩:=j;have k:∀q,d q->q<W.heap.size:=λq hq=>aD (s q (i q hq)) hp.size;(have m:lU W W.heap.size (λ_=>False):=λp n=>by obtain⟨k1,k2,o,k3,u⟩:=hT p n;exact⟨aD k1 hp.size,λh=>h,o,(hp.block _ k1 k2).trans k3,u⟩);refine(WH.1 W [v] (mE oD xs) c d (λ_=>False) m k ⟨v,[],rfl,⟨cs,g,hO.rep λ_ h=>h⟩,rfl,λ_ h=>h⟩ (λ_ h=>h.elim) hq).mono λe w' hk=> ?_;obtain⟨vs,S',x,y,rfl,g1,g2,g3,⟨g4,g5⟩,g6,g7⟩:=hk;obtain⟨v1,r1,rfl,⟨z,rfl,rfl⟩,rfl,_⟩:=g5;refine⟨rfl,d,⟨g1.os.trans hp.os,g1.tape.trans hp.tape,g1.output.trans hp.output,aC hp.size g1.size,λq hq hn=>(g1.block q (aD hq hp.size) λh=>h).trans (hp.block q hq hn),λa ha=>(g1.fz a (aD ha hp.size)).trans (hp.fz a ha)⟩,⟨cs,g,hO.mono λq hq=>g1.block q (k q hq) λh=>h⟩,i⟩);have l:Calls Tryz.prog 222 #[v,.func (.func 223) #[] #[]] w λe w'=>e=.returned (.tuple #[])/\∃d,iu w w' F/\KB w' (.slice T3) v (mE oD xs) d/\∀q,d q->F q:=t.mono λe w' ⟨d,k1,k2⟩=>⟨k1,d,k2⟩;cases c with|true=>rw[ai]at f;cases f;refine(KY w v _ _ l hA).mono λe w' hk=> ?_;obtain⟨rfl,d,hp,⟨cs,g,v0,rfl,hO⟩,i⟩:=hk;have g:v=v0:=g;subst g;exact⟨v,d,rfl,hp.size,λq hq hn=>hp.block q hq hn,hp.os,hp.tape,hp.output,hp.fz,hO,λq hq=>.inl (i q hq)⟩|false=>rw[aj]at f;cases f;refine(Nu w v _ _ l hA).mono λe w' hk=> ?_;obtain⟨rfl,d,hp,_,_⟩:=hk;exact⟨.slice U 0 0,λ_=>False,rfl,hp.size,λq hq hn=>hp.block q hq hn,hp.os,hp.tape,hp.output,hp.fz,.inl ⟨⟨U,rfl⟩,rfl,λ_ h=>h⟩,λ_ h=>h.elim⟩
def pP(c:List aO)(a:Int):Option ((List Int)×Bool):=(lB c).bind λr1=>(bif(!r1)then O true else(cT a 0 167).bind λr2=>O (!r2)).bind λc3=>bif c3 then O ([],false)else(aX (λ(b:(List Int)×Int)=>(bif(ae (b.2<(c.length:Int)))then(idx c b.2).bind λd=>(bif(ae (d.2.1<=a))then O (ae (a<d.2.2.1))else O false).bind λe=>bif e then bif ae (aeP b.1+aeP [d.1]<=lim)then O (.inl ((b.1++[d.1]),(aW (b.2+1))))else U else O (.inl (b.1,(aW (b.2+1))))else O (.inr b.1):Option (((List Int)×Int)⊕((List Int))))) ([],0)).bind λf=>(gR f).bind λg=>O (g,true)
def ab7:aR:=⟨[.val (.slice aU),vI],[.own (.slice tI),rB],λx=>pP x.1 x.2⟩
theorem aaH:SF 161 ab7:=qV {eG [Mp,WH,Sc]with loops:=[(5,⟨[1,17,18],[.own 6 [] 200006 tI true,.tv 19 tI],[(.exit 0,[.own 6 [] 200006 tI true])]⟩)]} Tryz.func161
def bj(a:bp)(b:Bytes)(c:List Int):Option (bp×Bytes×Bool):=bif(ae (b=ig))then(mS a.1).bind λr1=>(idx c 0).bind λm=>(idx c 1).bind λn=>(idx c 2).bind λo=>bif ae (aeP r1.1+aeP [(m,n,o,())]<=lim)then(pj ((r1.1++[(m,n,o,())]),r1.2)).bind λH=>bif(!H)then O (a,[],false)else O ((((r1.1++[(m,n,o,())]),r1.2),a.2),([111,107]:Bytes),true)else U else bif(ae (b=kx))then(idx c 0).bind λI=>(idx c 1).bind λJ=>(idx c 2).bind λK=>(λx=>bN (bN x x) x) ((sO a.1 (I,J,K,())).bind λG=>(bif(!G.2)then O true else O (ae (0<(a.2.1.length:Int)))).bind λp=>bif p then O (a,[],false)else O ((G.1,a.2),([111,107]:Bytes),true))else bif(ae (b=oM))then(idx c 0).bind λq=>(idx c 1).bind λr=>(idx c 2).bind λs=>(vu a.1 a.2.1 (q,r,s,())).bind λe=>bif(!e.2)then O (a,[],false)else O ((a.1,e.1,a.2.2),([111,107]:Bytes),true)else bif(ae (b=kT))then(idx c 0).bind λt=>(idx c 1).bind λu=>(idx c 2).bind λv=>(gA a.1 a.2.1 t u v).bind λf=>(wl f.1).bind λw=>O (a,w,f.2)else bif(ae (b=sY))then(idx c 0).bind λy=>(idx c 1).bind λz=>(idx c 2).bind λA=>(kr a.1 a.2.1 y z A).bind λg=>(cA g.1 ([32]:Bytes)).bind λB=>O (a,B,g.2)else bif(ae (b=jC))then(iJ a.2.2.2.2.2.1).bind λh=>(idx c 0).bind λi=>(idx c 1).bind λj=>(idx c 2).bind λk=>bif ae (aeP h+aeP [(i,j,k,())]<=lim)then(sortedF (h++[(i,j,k,())])).bind λl=>bif(!l.2)then O (a,[],false)else O ((a.1,a.2.1,a.2.2.1,a.2.2.2.1,a.2.2.2.2.1,l.1,a.2.2.2.2.2.2),([111,107]:Bytes),true)else U else bif(ae (b=qj))then(idx c 0).bind λC=>(pP a.2.2.2.2.2.1 C).bind λd=>(bif d.2 then O (ae ((d.1.length:Int)=0))else O false).bind λD=>bif D then O (a,EG,true)else(cA d.1 ([32]:Bytes)).bind λE=>O (a,E,d.2)else bif(ae (b=cd))then(cA [(a.1.1.length:Int),(a.1.2.1.length:Int)] ([32]:Bytes)).bind λF=>O (a,F,true)else O (a,([111,107]:Bytes),true)
def X9:aR:=⟨[.cK jH,vS,.val (.slice tI)],[rS,rB],λx=>bj x.1 x.2.1 x.2.2⟩
theorem aax:SF 112 X9:=qX {eG [Wl,UU,TN,Xc,X4,YE,XL,aaZ,aao,aaH]with T:=TR,del:=[(159,Qh)],every:=[9]} Tryz.func112 (hT:=tR) (hI:=PO Qx ⟨_,Tryz.func159,by kernel_rfl,by kernel_rfl⟩ kQ)
def cg(d:bp)(i:Bytes):Option (bp×Bytes):=
 (tC i ([32]:Bytes)).bind λr1=>
 (idx r1 0).bind λf=>
 (sub r1 1 (r1.length:Int)).bind λt=>
 (((bif(ae (f=cu))then
 O true
 else
 O (ae (f=dR))).bind λc4=>
 bif c4 then
 (bif(ae ((t.length:Int)=0))then
 O true
 else
 (idx t 0).bind λB=>
 (mq B).bind λC=>
 O (!C)).bind λD=>
 bif D then
 O (.inr (d.1.1,d.1.2.1,d.2.1,d.2.2.1.1,d.2.2.2.1.1,d.2.2.2.1.2.1,d.2.2.2.1.2.2.1,d.2.2.2.2.1,d.2.2.2.2.2.1,d.2.2.2.2.2.2.1,eE))
 else
 (idx t 0).bind λE=>
 (sub t 1 (t.length:Int)).bind λF=>
 O (.inl (d.1.1,d.1.2.1,d.2.1,d.2.2.1.1,d.2.2.2.1.1,d.2.2.2.1.2.1,d.2.2.2.1.2.2.1,d.2.2.2.2.1,d.2.2.2.2.2.1,d.2.2.2.2.2.2.1,F,E))
 else
 O (.inl (d.1.1,d.1.2.1,d.2.1,d.2.2.1.1,d.2.2.2.1.1,d.2.2.2.1.2.1,d.2.2.2.1.2.2.1,d.2.2.2.2.1,d.2.2.2.2.2.1,d.2.2.2.2.2.2.1,t,[])):Option (((List aO)×(List aO)×(List aO)×(List aV)×Int×Int×(List Int)×(List aT)×(List aO)×Value×(List Bytes)×Bytes)⊕((List aO)×(List aO)×(List aO)×(List aV)×Int×Int×(List Int)×(List aT)×(List aO)×Value×Bytes)))).bind λu=>
 match u with
 |.inl e=>
  bif ae (0<=(e.2.2.2.2.2.2.2.2.2.2.1.length:Int))&&ae ((e.2.2.2.2.2.2.2.2.2.2.1.length:Int)<=(e.2.2.2.2.2.2.2.2.2.2.1.length:Int))&&ae ((e.2.2.2.2.2.2.2.2.2.2.1.length:Int)<=lim)then
  (aX (λ(b:(List aO)×(List aO)×(List aO)×(List aV)×Int×Int×(List Int)×(List aT)×(List aO)×Value×(List Int)×Int)=>(
  bif(ae (b.2.2.2.2.2.2.2.2.2.2.2<(e.2.2.2.2.2.2.2.2.2.2.1.length:Int)))then
  (idx e.2.2.2.2.2.2.2.2.2.2.1 b.2.2.2.2.2.2.2.2.2.2.2).bind λv=>
  (BV v).bind λs=>
  (bif(!s.2)then
  O true
  else
  O (ae (99999<s.1))).bind λw=>
  bif w then
  O (.inr (.inr (b.1,b.2.1,b.2.2.1,b.2.2.2.1,b.2.2.2.2.1,b.2.2.2.2.2.1,b.2.2.2.2.2.2.1,b.2.2.2.2.2.2.2.1,b.2.2.2.2.2.2.2.2.1,b.2.2.2.2.2.2.2.2.2.1,eE)))
  else
  bif ae (0<=b.2.2.2.2.2.2.2.2.2.2.2)&&ae (b.2.2.2.2.2.2.2.2.2.2.2<(b.2.2.2.2.2.2.2.2.2.2.1.length:Int))then
  O (.inl (b.1,b.2.1,b.2.2.1,b.2.2.2.1,b.2.2.2.2.1,b.2.2.2.2.2.1,b.2.2.2.2.2.2.1,b.2.2.2.2.2.2.2.1,b.2.2.2.2.2.2.2.2.1,b.2.2.2.2.2.2.2.2.2.1,(b.2.2.2.2.2.2.2.2.2.2.1.set (agC b.2.2.2.2.2.2.2.2.2.2.2) s.1),(aW (b.2.2.2.2.2.2.2.2.2.2.2+1))))
  else
  U
  else
  O (.inr (.inl (b.1,b.2.1,b.2.2.1,b.2.2.2.1,b.2.2.2.2.1,b.2.2.2.2.2.1,b.2.2.2.2.2.2.1,b.2.2.2.2.2.2.2.1,b.2.2.2.2.2.2.2.2.1,b.2.2.2.2.2.2.2.2.2.1,b.2.2.2.2.2.2.2.2.2.2.1))):Option (((List aO)×(List aO)×(List aO)×(List aV)×Int×Int×(List Int)×(List aT)×(List aO)×Value×(List Int)×Int)⊕(((List aO)×(List aO)×(List aO)×(List aV)×Int×Int×(List Int)×(List aT)×(List aO)×Value×(List Int))⊕((List aO)×(List aO)×(List aO)×(List aV)×Int×Int×(List Int)×(List aT)×(List aO)×Value×Bytes))))) (e.1,e.2.1,e.2.2.1,e.2.2.2.1,e.2.2.2.2.1,e.2.2.2.2.2.1,e.2.2.2.2.2.2.1,e.2.2.2.2.2.2.2.1,e.2.2.2.2.2.2.2.2.1,e.2.2.2.2.2.2.2.2.2.1,(aeU (agC (e.2.2.2.2.2.2.2.2.2.2.1.length:Int)) (0:Int)),0)).bind λx=>
  match x with
  |.inl c=>
   (jT f).bind λy=>
   (nC f).bind λz=>
   (cT (c.2.2.2.2.2.2.2.2.2.2.length:Int) y z).bind λA=>
   bif(!A)then
   O (((c.1,c.2.1,()),c.2.2.1,(c.2.2.2.1,()),(c.2.2.2.2.1,c.2.2.2.2.2.1,c.2.2.2.2.2.2.1,()),c.2.2.2.2.2.2.2.1,c.2.2.2.2.2.2.2.2.1,c.2.2.2.2.2.2.2.2.2.1,()),eE)
   else
   (bif(ae (f=cu))then
   O (c.1,c.2.1,c.2.2.1,c.2.2.2.1,c.2.2.2.2.1,c.2.2.2.2.2.1,c.2.2.2.2.2.2.1,c.2.2.2.2.2.2.2.1,c.2.2.2.2.2.2.2.2.1,c.2.2.2.2.2.2.2.2.2.1,c.2.2.2.2.2.2.2.2.2.2,(ae (f=cu)))
   else
   bif(ae (f=dR))then
   O (c.1,c.2.1,c.2.2.1,c.2.2.2.1,c.2.2.2.2.1,c.2.2.2.2.2.1,c.2.2.2.2.2.2.1,c.2.2.2.2.2.2.2.1,c.2.2.2.2.2.2.2.2.1,c.2.2.2.2.2.2.2.2.2.1,c.2.2.2.2.2.2.2.2.2.2,(ae (f=dR)))
   else
   bif(ae (f=gY))then
   O (c.1,c.2.1,c.2.2.1,c.2.2.2.1,c.2.2.2.2.1,c.2.2.2.2.2.1,c.2.2.2.2.2.2.1,c.2.2.2.2.2.2.2.1,c.2.2.2.2.2.2.2.2.1,c.2.2.2.2.2.2.2.2.2.1,c.2.2.2.2.2.2.2.2.2.2,(ae (f=gY)))
   else
   O (c.1,c.2.1,c.2.2.1,c.2.2.2.1,c.2.2.2.2.1,c.2.2.2.2.2.1,c.2.2.2.2.2.2.1,c.2.2.2.2.2.2.2.1,c.2.2.2.2.2.2.2.2.1,c.2.2.2.2.2.2.2.2.2.1,c.2.2.2.2.2.2.2.2.2.2,(ae (f=jq)))).bind λa=>
   bif a.2.2.2.2.2.2.2.2.2.2.2 then
   (bV ((a.1,a.2.1,()),a.2.2.1,(a.2.2.2.1,()),(a.2.2.2.2.1,a.2.2.2.2.2.1,a.2.2.2.2.2.2.1,()),a.2.2.2.2.2.2.2.1,a.2.2.2.2.2.2.2.2.1,a.2.2.2.2.2.2.2.2.2.1,()) f e.2.2.2.2.2.2.2.2.2.2.2 a.2.2.2.2.2.2.2.2.2.2.1).bind λj=>
   bif(!j.2.2)then
   O (j.1,([110,111]:Bytes))
   else
   O (j.1,j.2.1)
   else
   bif(ae (f=ft))then
   bif(ae (f=ft))then
   (bA ((a.1,a.2.1,()),a.2.2.1,(a.2.2.2.1,()),(a.2.2.2.2.1,a.2.2.2.2.2.1,a.2.2.2.2.2.2.1,()),a.2.2.2.2.2.2.2.1,a.2.2.2.2.2.2.2.2.1,a.2.2.2.2.2.2.2.2.2.1,()) f a.2.2.2.2.2.2.2.2.2.2.1).bind λk=>
   bif(!k.2.2)then
   O (k.1,([110,111]:Bytes))
   else
   O (k.1,k.2.1)
   else
   (bj ((a.1,a.2.1,()),a.2.2.1,(a.2.2.2.1,()),(a.2.2.2.2.1,a.2.2.2.2.2.1,a.2.2.2.2.2.2.1,()),a.2.2.2.2.2.2.2.1,a.2.2.2.2.2.2.2.2.1,a.2.2.2.2.2.2.2.2.2.1,()) f a.2.2.2.2.2.2.2.2.2.2.1).bind λl=>
   bif(!l.2.2)then
   O (l.1,([110,111]:Bytes))
   else
   O (l.1,l.2.1)
   else
   bif(ae (f=eV))then
   bif(ae (f=eV))then
   (bA ((a.1,a.2.1,()),a.2.2.1,(a.2.2.2.1,()),(a.2.2.2.2.1,a.2.2.2.2.2.1,a.2.2.2.2.2.2.1,()),a.2.2.2.2.2.2.2.1,a.2.2.2.2.2.2.2.2.1,a.2.2.2.2.2.2.2.2.2.1,()) f a.2.2.2.2.2.2.2.2.2.2.1).bind λm=>
   bif(!m.2.2)then
   O (m.1,([110,111]:Bytes))
   else
   O (m.1,m.2.1)
   else
   (bj ((a.1,a.2.1,()),a.2.2.1,(a.2.2.2.1,()),(a.2.2.2.2.1,a.2.2.2.2.2.1,a.2.2.2.2.2.2.1,()),a.2.2.2.2.2.2.2.1,a.2.2.2.2.2.2.2.2.1,a.2.2.2.2.2.2.2.2.2.1,()) f a.2.2.2.2.2.2.2.2.2.2.1).bind λn=>
   bif(!n.2.2)then
   O (n.1,([110,111]:Bytes))
   else
   O (n.1,n.2.1)
   else
   bif(ae (f=jJ))then
   bif(ae (f=jJ))then
   (bA ((a.1,a.2.1,()),a.2.2.1,(a.2.2.2.1,()),(a.2.2.2.2.1,a.2.2.2.2.2.1,a.2.2.2.2.2.2.1,()),a.2.2.2.2.2.2.2.1,a.2.2.2.2.2.2.2.2.1,a.2.2.2.2.2.2.2.2.2.1,()) f a.2.2.2.2.2.2.2.2.2.2.1).bind λo=>
   bif(!o.2.2)then
   O (o.1,([110,111]:Bytes))
   else
   O (o.1,o.2.1)
   else
   (bj ((a.1,a.2.1,()),a.2.2.1,(a.2.2.2.1,()),(a.2.2.2.2.1,a.2.2.2.2.2.1,a.2.2.2.2.2.2.1,()),a.2.2.2.2.2.2.2.1,a.2.2.2.2.2.2.2.2.1,a.2.2.2.2.2.2.2.2.2.1,()) f a.2.2.2.2.2.2.2.2.2.2.1).bind λp=>
   bif(!p.2.2)then
   O (p.1,([110,111]:Bytes))
   else
   O (p.1,p.2.1)
   else
   bif(ae (f=iT))then
   (bA ((a.1,a.2.1,()),a.2.2.1,(a.2.2.2.1,()),(a.2.2.2.2.1,a.2.2.2.2.2.1,a.2.2.2.2.2.2.1,()),a.2.2.2.2.2.2.2.1,a.2.2.2.2.2.2.2.2.1,a.2.2.2.2.2.2.2.2.2.1,()) f a.2.2.2.2.2.2.2.2.2.2.1).bind λq=>
   bif(!q.2.2)then
   O (q.1,([110,111]:Bytes))
   else
   O (q.1,q.2.1)
   else
   (bj ((a.1,a.2.1,()),a.2.2.1,(a.2.2.2.1,()),(a.2.2.2.2.1,a.2.2.2.2.2.1,a.2.2.2.2.2.2.1,()),a.2.2.2.2.2.2.2.1,a.2.2.2.2.2.2.2.2.1,a.2.2.2.2.2.2.2.2.2.1,()) f a.2.2.2.2.2.2.2.2.2.2.1).bind λr=>
   bif(!r.2.2)then
   O (r.1,([110,111]:Bytes))
   else
   O (r.1,r.2.1)
  |.inr g=>
   O (((g.1,g.2.1,()),g.2.2.1,(g.2.2.2.1,()),(g.2.2.2.2.1,g.2.2.2.2.2.1,g.2.2.2.2.2.2.1,()),g.2.2.2.2.2.2.2.1,g.2.2.2.2.2.2.2.2.1,g.2.2.2.2.2.2.2.2.2.1,()),g.2.2.2.2.2.2.2.2.2.2)
  else
  U
 |.inr h=>
  O (((h.1,h.2.1,()),h.2.2.1,(h.2.2.2.1,()),(h.2.2.2.2.1,h.2.2.2.2.2.1,h.2.2.2.2.2.2.1,()),h.2.2.2.2.2.2.2.1,h.2.2.2.2.2.2.2.2.1,h.2.2.2.2.2.2.2.2.2.1,()),h.2.2.2.2.2.2.2.2.2.2)
def C75:aR:=⟨[.cK jH,vS],[rS],λx=>cg x.1 x.2⟩
theorem S75:SF 75 C75:=qX {eG [Mp,WR,Zm,YH,Xh,Yq,abx,aaP,aax]with T:=TR,loops:=[(10,⟨[6,7,46,47],[.bx 0 100000 [.own 100001 aU true,.own 100002 aU true,.own 100003 aU true,.own 100004 bJ true,.pv tI,.pv tI,.own 100005 tI true,.own 100006 bt true,.own 100007 aU true,.pv .raw],.own 8 [] 720 tI true,.tv 48 tI],[(.exit 0,[.bx 0 100000 [.own 100001 aU true,.own 100002 aU true,.own 100003 aU true,.own 100004 bJ true,.pv tI,.pv tI,.own 100005 tI true,.own 100006 bt true,.own 100007 aU true,.pv .raw],.own 8 [] 720 tI true]),(.ret,[.bx 0 100000 [.own 100001 aU true,.own 100002 aU true,.own 100003 aU true,.own 100004 bJ true,.pv tI,.pv tI,.own 100005 tI true,.own 100006 bt true,.own 100007 aU true,.pv .raw],.tv 4 .str])]⟩)],joins:=[(8,⟨[6],[],[(.normal,[.bx 0 100000 [.own 100001 aU true,.own 100002 aU true,.own 100003 aU true,.own 100004 bJ true,.pv tI,.pv tI,.own 100005 tI true,.own 100006 bt true,.own 100007 aU true,.pv .raw],.tv 5 (.slice .str),.tv 7 .str]),(.ret,[.bx 0 100000 [.own 100001 aU true,.own 100002 aU true,.own 100003 aU true,.own 100004 bJ true,.pv tI,.pv tI,.own 100005 tI true,.own 100006 bt true,.own 100007 aU true,.pv .raw],.tv 4 .str])]⟩),(26,⟨[6,7,77],[],[(.normal,[.bx 0 100000 [.own 100001 aU true,.own 100002 aU true,.own 100003 aU true,.own 100004 bJ true,.pv tI,.pv tI,.own 100005 tI true,.own 100006 bt true,.own 100007 aU true,.pv .raw],.own 8 [] 720 tI true,.tv 85 .bool])]⟩)],pre:=[(2,[256])]} Tryz.func75 (hT:=tR)
end
end Sh
namespace Sh
open Go Go.Ab Go.Proofs
def Q{α β:Type}(τ:α->β)(x:Option α)(y:Option β):Prop:=y=x.map τ
section
variable {α β γ δ:Type}
theorem wh{τ:α->β}:Q τ U U:=rfl
theorem rJ{τ:α->β}{a:α}{b:β}(h:τ a=b):Q τ (O a) (O b):=by subst h;rfl
theorem Ai{τ:α->β}(c:Bool){x a:Option α}{y b:Option β}(h:Q τ x y)(d:Q τ a b):Q τ (bif c then x else a) (bif c then y else b):=by cases c;{exact d};{exact h}
theorem ng{τ:α->β}{x:Option γ}{f:γ->Option α}{g:γ->Option β}(h:∀a,Q τ (f a) (g a)):Q τ (x.bind f) (x.bind g):=by cases x with|none=>rfl|some a=>exact h a
theorem AU{τ:α->β}{σ:γ->δ}{x:Option γ}{y:Option δ}{f:γ->Option α}{g:δ->Option β}(k:Q σ x y)(h:∀a,Q τ (f a) (g (σ a))):Q τ (x.bind f) (y.bind g):=by have k:y=x.map σ:=k;subst k;cases x with|none=>rfl|some a=>exact h a
theorem Vx{τ:α->β}{σ:γ->δ}{f:γ->Option (γ⊕α)}{g:δ->Option (δ⊕β)}(h:∀a,Q (Sum.map σ τ) (f a) (g (σ a)))(a:γ):Q τ (aX f a) (aX g (σ a)):=by(have one:∀{a:γ} {b:α},js f a b->js g (σ a) (τ b):=by intro a b k;induction k with|@done a b e=>exact .done (by have:=h a;unfold Q at this;rw[this,e];rfl)|@step a a' b e _ i=>exact .step (by have:=h a;unfold Q at this;rw[this,e];rfl) i);(have two:∀{d:δ} {b:β},js g d b->∀a,σ a=d->∃c,js f a c:=by intro d b k;induction k with|@done d b e=>rintro a rfl;have:=h a;unfold Q at this;rw[this]at e;(cases hf:f a with|none=>rw[hf]at e;cases e|some u=>rw[hf]at e;rcases u with u|u;{cases e};{exact⟨u,.done hf⟩})|@step d d' b e _ i=>rintro a rfl;have:=h a;unfold Q at this;rw[this]at e;cases hf:f a with|none=>rw[hf]at e;cases e|some u=>rw[hf]at e;rcases u with u|u;{injection e with e;injection e with e;obtain⟨c,hc⟩:=i u e;exact⟨c,.step hf hc⟩};{cases e});unfold Q;cases e:aX f a with|some b=>exact u5 (one (rX e))|none=>cases j:aX g (σ a)with|none=>rfl|some b=>obtain⟨c,hc⟩:=two (rX j) a rfl;rw[u5 hc]at e;cases e
end
attribute [local irreducible] sortedF
abbrev sg(v:Value)(s:bp):bp:=(s.1,s.2.1,s.2.2.1,s.2.2.2.1,s.2.2.2.2.1,s.2.2.2.2.2.1,v,())
abbrev t9{A B C D E F G H I R:Type}(v:Value)(x:A×B×C×D×E×F×G×H×I×Value×R):A×B×C×D×E×F×G×H×I×Value×R:=(x.1,x.2.1,x.2.2.1,x.2.2.2.1,x.2.2.2.2.1,x.2.2.2.2.2.1,x.2.2.2.2.2.2.1,x.2.2.2.2.2.2.2.1,x.2.2.2.2.2.2.2.2.1,v,x.2.2.2.2.2.2.2.2.2.2)
abbrev s1{R:Type}(v:Value)(x:bp×R):bp×R:=(sg v x.1,x.2)
set_option maxRecDepth 100000 in
theorem UO(v:Value)(s:bp)(a b:Bytes)(n:List Int):Q (s1 v) (bV s a b n) (bV (sg v s) a b n):=by unfold bV;repeat' (first|exact wh|exact rJ rfl|refine Ai _ ?_ ?_|refine ng λa=> ?_)
set_option maxRecDepth 100000 in
theorem Vl(v:Value)(s:bp)(a:Bytes)(n:List Int):Q (s1 v) (bA s a n) (bA (sg v s) a n):=by unfold bA;repeat' (first|exact wh|exact rJ rfl|refine Ai _ ?_ ?_|refine ng λa=> ?_)
set_option maxRecDepth 100000 in
theorem WO(v:Value)(s:bp)(a:Bytes)(n:List Int):Q (s1 v) (bj s a n) (bj (sg v s) a n):=by unfold bj;simp only[cz];repeat' (first|with_reducible exact wh|(with_reducible refine rJ ?_;rfl)|with_reducible refine Ai _ ?_ ?_|with_reducible refine ng λa=> ?_)
set_option maxRecDepth 100000 in
set_option maxHeartbeats 4000000 in
theorem TL(v:Value)(s:bp)(l:Bytes):Q (s1 v) (cg s l) (cg (sg v s) l):=by unfold cg;refine ng λr1=>ng λj=>ng λk=>AU (σ:=Sum.map (t9 v) (t9 v)) ?_ (Sum.rec (λb=> ?_) (λc=>rJ rfl));{repeat' (first|exact wh|exact rJ rfl|refine Ai _ ?_ ?_|refine ng λa=> ?_)};refine Ai _ (AU (σ:=Sum.map (t9 v) (t9 v)) (Vx (τ:=Sum.map (t9 v) (t9 v)) (σ:=t9 v) (λm=> ?_) _) (Sum.rec (λd=> ?_) (λe=>rJ rfl))) wh;{repeat' (first|exact wh|exact rJ rfl|refine Ai _ ?_ ?_|refine ng λa=> ?_)};refine ng λf=>ng λg=>ng λh=>Ai _ (rJ rfl) (AU (σ:=t9 v) ?_ λi=> ?_);{repeat' (first|exact wh|exact rJ rfl|refine Ai _ ?_ ?_|refine ng λa=> ?_)};repeat' (first|exact wh|exact rJ rfl|refine Ai _ ?_ ?_|refine AU (UO v _ _ _ _) (λa=> ?_)|refine AU (Vl v _ _ _) (λa=> ?_)|refine AU (WO v _ _ _) (λa=> ?_)|refine ng λa=> ?_)
abbrev dr(s:bp):bT:=(s.1,s.2.1,s.2.2.1,s.2.2.2.1,s.2.2.2.2.1,s.2.2.2.2.2.1,())
abbrev wv(s:bT)(v:Value):bp:=(s.1,s.2.1,s.2.2.1,s.2.2.2.1,s.2.2.2.2.1,s.2.2.2.2.2.1,v,())
noncomputable def pV(s:bT)(line:Bytes):Option (bT×Bytes):=(cg (wv s (.bool false)) line).map λr=>(dr r.1,r.2)
noncomputable def P6:MK:=⟨Eb,[.val .str],[.val .str],λx=>pV x.1 x.2⟩
theorem Qk:Xs Tryz.prog 75 P6:=by refine⟨C75.fn,S75.1,λv x r a=> ?_⟩;have a:(cg (wv x.1 (.bool false)) x.2).map (λr=>(dr r.1,r.2))=O r:=a;show cg (wv x.1 v) x.2=O (wv r.1 v,r.2);have hq:cg (wv x.1 v) x.2=(cg (wv x.1 (.bool false)) x.2).map (s1 v):=TL v (wv x.1 (.bool false)) x.2;rw[hq];cases h:cg (wv x.1 (.bool false)) x.2 with|none=>rw[h]at a;cases a|some u=>rw[h]at a;injection a with a;subst a;rfl
end Sh
namespace Sh
open Go Go.Ab Go.Proofs
set_option maxRecDepth 100000
noncomputable section
def s9(a:Bytes)(b:Int):Option ((List Bytes)):=(aX (λ(st2:(List Bytes)×Int×Int)=>(bif(ae (st2.2.2<(a.length:Int)))then(idx a st2.2.2).bind λf=>bif(ae ((f.toNat:Int)=b))then(sub a st2.2.1 st2.2.2).bind λd=>bif ae (aeP st2.1+aeP [d]<=lim)then O (.inl ((st2.1++[d]),(aW (st2.2.2+1)),(aW (st2.2.2+1))))else U else O (.inl (st2.1,st2.2.1,(aW (st2.2.2+1))))else O (.inr (st2.1,st2.2.1)):Option (((List Bytes)×Int×Int)⊕(((List Bytes)×Int))))) ([],0,0)).bind λc=>(sub a c.2 (a.length:Int)).bind λe=>bif ae (aeP c.1+aeP [e]<=lim)then O (c.1++[e])else U
def C85:aR:=⟨[vS,.val (.int .u8)],[.own (.slice .str)],λx=>s9 x.1 x.2⟩
theorem S85:SF 85 C85:=qV {eG []with loops:=[(4,⟨[0,1],[.own 5 [] 200005 .str true,.tv 6 tI,.tv 7 tI],[(.exit 0,[.own 5 [] 200005 .str true,.tv 6 tI])]⟩)]} Tryz.func85
def mP(a:Bytes):Option ((List Bytes)×Bool):=(bif(ae (2000<(a.length:Int)))then O true else(bif(!decide (a=[]))then(idx a (aW ((a.length:Int)-1))).bind λd=>O (!decide ((d.toNat:Int)=10))else O false).bind λc2=>O c2).bind λc3=>bif c3 then O ([],false)else(s9 a 10).bind λb=>(sub b 0 (aW ((b.length:Int)-1))).bind λc=>bif(ae (40<(c.length:Int)))then O ([],false)else O (c,true)
def C66:aR:=⟨[vS],[.val (.slice .str),rB],λx=>mP x⟩
theorem S5:SF 66 C66:=qV {eG [S85]with pre:=[(4,[336])]} Tryz.func66
def Bo:Option (cB):=O (([(0,0,20,())],[],()),[],([(([97]:Bytes),[1],())],()),(7,10,[],()),[],[],[],[],0,())
def C73:aR:=⟨[],[.ob gM],λ_=>Bo⟩
theorem S73:SF 73 C73:=qV {eG []with mv:=true} Tryz.func73
def wX(a:Bytes):Option (Int×Int):=
 (((bif(ae (a=cd))then
 O (ae (a=cd))
 else
 O (ae (a=dR))).bind λc=>
 bif c then
 O (.inr (0,0))
 else
 (bif(ae (a=jJ))then
 O (ae (a=jJ))
 else
 bif(ae (a=iT))then
 O (ae (a=iT))
 else
 O (ae (a=qj))).bind λd=>
 bif d then
 O (.inr (1,1))
 else
 (bif(ae (a=ft))then
 O (ae (a=ft))
 else
 O (ae (a=eV))).bind λe=>
 bif e then
 O (.inr (2,2))
 else
 (bif(ae (a=ig))then
 O (ae (a=ig))
 else
 bif(ae (a=kx))then
 O (ae (a=kx))
 else
 bif(ae (a=oM))then
 O (ae (a=oM))
 else
 bif(ae (a=kT))then
 O (ae (a=kT))
 else
 bif(ae (a=sY))then
 O (ae (a=sY))
 else
 O (ae (a=jC))).bind λf=>
 bif f then
 O (.inr (3,3))
 else
 bif(ae (a=cu))then
 O (.inr (1,3))
 else
 (bif(ae (a=gY))then
 O (ae (a=gY))
 else
 O (ae (a=jq))).bind λg=>
 bif g then
 O (.inr (1,20))
 else
 O (.inl ()):Option (Unit⊕(Int×Int)))).bind λh=>
 match h with
 |.inl _=>
  O ((-1),(-1))
 |.inr b=>
  O (b.1,b.2)
def aa2:aR:=⟨[vS],[rI,rI],λx=>wX x⟩
theorem XP:SF 117 aa2:=qV {eG []with joins:=[(4,⟨[4],[],[(.normal,[.tv 5 .bool])]⟩),(8,⟨[4],[],[(.normal,[.tv 8 .bool])]⟩),(11,⟨[4],[],[(.normal,[.tv 12 .bool])]⟩),(18,⟨[4],[],[(.normal,[.tv 15 .bool])]⟩),(23,⟨[],[],[(.normal,[.tv 24 .bool])]⟩),(24,⟨[],[],[(.normal,[]),(.ret,[.tv 2 tI,.tv 3 tI])]⟩)]} Tryz.func117
def cM(a:Int)(b:Int)(c:Int):Option (Bool):=(bif(ae (b<=a))then O (ae (a<=c))else O false).bind λc1=>O c1
def XU:aR:=⟨[vI,vI,vI],[rB],λx=>cM x.1 x.2.1 x.2.2⟩
theorem ux:SF 120 XU:=qV (eG []) Tryz.func120
def rh(a:Bytes):Option (Bool):=
 (aX (λ(st2:Int)=>(
 bif(ae (st2<(a.length:Int)))then
 (idx a st2).bind λb=>
 (bif(ae ((b.toNat:Int)<97))then
 O true
 else
 (idx a st2).bind λc=>
 O (ae (122<(c.toNat:Int)))).bind λc5=>
 bif c5 then
 O (.inr (.inr false))
 else
 O (.inl (aW (st2+1)))
 else
 O (.inr (.inl ())):Option ((Int)⊕(Unit⊕Bool)))) 0).bind λd=>
 match d with
 |.inl _=>
  (cM (a.length:Int) 1 40).bind λe=>
  O e
 |.inr f=>
  O f
def abR:aR:=⟨[vS],[rB],λx=>rh x⟩
theorem abE:SF 118 abR:=qV {eG [ux]with loops:=[(2,⟨[0],[.tv 3 tI],[(.exit 0,[]),(.ret,[.tv 2 .bool])]⟩)]} Tryz.func118
def pS(a:Bytes):Option (Int):=
 (cM (a.length:Int) 1 6).bind λr1=>
 (bif(!r1)then
 O true
 else
 (idx a 0).bind λg=>
 (bif(ae ((g.toNat:Int)=48))then
 O (ae (1<(a.length:Int)))
 else
 O false).bind λc3=>
 O c3).bind λc4=>
 bif c4 then
 O (-1)
 else
 (aX (λ(b:Int×Int)=>(
 bif(ae (b.2<(a.length:Int)))then
 (idx a b.2).bind λh=>
 (bif(ae ((h.toNat:Int)<48))then
 O true
 else
 (idx a b.2).bind λi=>
 O (ae (57<(i.toNat:Int)))).bind λc9=>
 bif c9 then
 O (.inr (.inr (-1)))
 else
 (idx a b.2).bind λc=>
 O (.inl ((aW ((aW (10*b.1))+(aW (IntKind.u8.wrap ((c.toNat:Int)-48))))),(aW (b.2+1))))
 else
 O (.inr (.inl b.1)):Option ((Int×Int)⊕(Int⊕Int)))) (0,0)).bind λd=>
 match d with
 |.inl e=>
  O e
 |.inr f=>
  O f
def abM:aR:=⟨[vS],[rI],λx=>pS x⟩
theorem abF:SF 119 abM:=qV {eG [ux]with loops:=[(5,⟨[0],[.tv 3 tI,.tv 4 tI],[(.exit 0,[.tv 3 tI]),(.ret,[.tv 2 tI])]⟩)]} Tryz.func119
def wG(c:List Bytes):Option (Bytes×(List Int)×Bool):=
 (idx c 0).bind λu=>
 (wX u).bind λr2=>
 (sub c 1 (c.length:Int)).bind λd=>
 (idx c 0).bind λv=>
 (bif(ae (v=cu))then
 O true
 else
 (idx c 0).bind λw=>
 O (ae (w=dR))).bind λx=>
 bif x then
 (bif(ae ((d.length:Int)=0))then
 O true
 else
 (idx d 0).bind λy=>
 (rh y).bind λz=>
 O (!z)).bind λc9=>
 bif c9 then
 O ([],[],false)
 else
 (idx d 0).bind λl=>
 (sub d 1 (d.length:Int)).bind λi=>
 (aX (λ(a:(List Int)×Int)=>(
 bif(ae (a.2<(i.length:Int)))then
 (idx i a.2).bind λm=>
 (pS m).bind λe=>
 (cM e 0 99999).bind λn=>
 bif(!n)then
 O (.inr (.inr ([],[],false)))
 else
 bif ae (aeP a.1+aeP [e]<=lim)then
 O (.inl ((a.1++[e]),(aW (a.2+1))))
 else
 U
 else
 O (.inr (.inl a.1)):Option (((List Int)×Int)⊕((List Int)⊕(Bytes×(List Int)×Bool))))) ([],0)).bind λo=>
 match o with
 |.inl j=>
  (cM (j.length:Int) r2.1 r2.2).bind λp=>
  O (l,j,p)
 |.inr f=>
  O (f.1,f.2.1,f.2.2)
 else
 (aX (λ(b:(List Int)×Int)=>(
 bif(ae (b.2<(d.length:Int)))then
 (idx d b.2).bind λq=>
 (pS q).bind λg=>
 (cM g 0 99999).bind λr=>
 bif(!r)then
 O (.inr (.inr ([],[],false)))
 else
 bif ae (aeP b.1+aeP [g]<=lim)then
 O (.inl ((b.1++[g]),(aW (b.2+1))))
 else
 U
 else
 O (.inr (.inl b.1)):Option (((List Int)×Int)⊕((List Int)⊕(Bytes×(List Int)×Bool))))) ([],0)).bind λs=>
 match s with
 |.inl k=>
  (cM (k.length:Int) r2.1 r2.2).bind λt=>
  O ([],k,t)
 |.inr h=>
  O (h.1,h.2.1,h.2.2)
def C92:aR:=⟨[.val (.slice .str)],[rS,.own (.slice tI),rB],λx=>wG x⟩
theorem S92:SF 92 C92:=qV {eG [XP,abE,abF,ux]with loops:=[(11,⟨[5,6,7,47,48],[.own 9 [] 200009 tI true,.tv 49 tI],[(.exit 0,[.own 9 [] 200009 tI true]),(.ret,[.tv 2 .str,.own 3 [] 200003 tI true,.tv 4 .bool])]⟩)]} Tryz.func92
def yZ(a:Int->Option (Bytes))(b:Int):Option (Bytes):=bif(ae (b<10))then O (toStr [(IntKind.u8.wrap (aW (48+b)))])else(a (aW (agA b 10))).bind λr1=>bif ae (aeP r1+aeP (toStr [(IntKind.u8.wrap (aW (48+(agB b 10))))])<=lim)then O (r1++(toStr [(IntKind.u8.wrap (aW (48+(agB b 10))))]))else U
def mQ:Nat->Int->Option (Bytes)
 |0,_=>U
 |k+1,a=>yZ (mQ k) a
def dZ(a:Int):Option (Bytes):=LW λk=>mQ k a
def Wx:aR:=⟨[vI],[rS],λx=>dZ x⟩
def VS(again:Int->Option (Bytes)):aR:={ps:=[.val tI],rs:=[.val .str],fn:=λx=>again x}
def C6(again:Int->Option (Bytes)):Env:={T:=TT,G:=[(82,VS again)]}
theorem U4:∀(again:Int->Option (Bytes)) x,uW (C6 again) Tryz.f82 Wx.ps Wx.rs x=yZ again x:=λagain x=>by kernel_rfl
theorem Q5:∀k,Sound Tryz.prog 82 (VS (mQ k))
 |0=>λ_ _ _ _ _ _ _ _ _ _ h=>nomatch h
 |k+1=>AA (E:=C6 (mQ k)) ⟨Hv (by kernel_rfl),(O0 (Q5 k) ⟨_,Tryz.func82,by kernel_rfl,by kernel_rfl⟩ I3),zt,kQ⟩ Tryz.func82 rfl (U4 _)
theorem VJ:SF 82 Wx:=⟨Ow (P:=Tryz.prog) (f:=82) (ps:=Wx.ps) (rs:=Wx.rs) (g:=λk x=>mQ k x) Q5,qN Tryz.func82 (by kernel_rfl)⟩
def lA(a:List Int):Option (Bytes):=(aX (λ(st2:Bytes×Int)=>(bif(ae (st2.2<(a.length:Int)))then(idx a st2.2).bind λb=>bif(ae (0<st2.2))then bif ae (aeP st2.1+aeP ([32]:Bytes)<=lim)then(dZ b).bind λc=>bif ae (aeP (st2.1++([32]:Bytes))+aeP c<=lim)then O (.inl (((st2.1++([32]:Bytes))++c),(aW (st2.2+1))))else U else U else(dZ b).bind λd=>bif ae (aeP st2.1+aeP d<=lim)then O (.inl ((st2.1++d),(aW (st2.2+1))))else U else O (.inr st2.1):Option ((Bytes×Int)⊕(Bytes)))) ([],0)).bind λe=>bif(ae (e=[]))then O EG else O e
def C93:aR:=⟨[.val (.slice tI)],[rS],λx=>lA x⟩
theorem S6:SF 93 C93:=qV {eG [VJ]with loops:=[(3,⟨[6,7],[.tv 3 .str,.tv 8 tI],[(.exit 0,[.tv 3 .str])]⟩)]} Tryz.func93
def kA(b:Bytes)(a:Bool):Option (Bytes):=bif(!a)then O ([110,111]:Bytes)else O b
def Zp:aR:=⟨[vS,vB],[rS],λx=>kA x.1 x.2⟩
theorem Vt:SF 101 Zp:=qV (eG []) Tryz.func101
def jW(b:List Int)(a:Bool):Option (Bytes):=(lA b).bind λr1=>(kA r1 a).bind λr2=>O r2
def C94:aR:=⟨[.val (.slice tI),vB],[rS],λx=>jW x.1 x.2⟩
theorem C7:SF 94 C94:=qV (eG [S6,Vt]) Tryz.func94
def rz(a:Bytes):Option (Bool):=
 (aX (λ(st2:Int)=>(
 bif(ae (st2<(a.length:Int)))then
 (idx a st2).bind λb=>
 (bif(ae ((b.toNat:Int)<97))then
 O true
 else
 (idx a st2).bind λc=>
 O (ae (122<(c.toNat:Int)))).bind λc5=>
 bif c5 then
 O (.inr (.inr false))
 else
 O (.inl (aW (st2+1)))
 else
 O (.inr (.inl ())):Option ((Int)⊕(Unit⊕Bool)))) 0).bind λd=>
 match d with
 |.inl _=>
  O (ae ((a.length:Int)<=12))
 |.inr e=>
  O e
def aba:aR:=⟨[vS],[rB],λx=>rz x⟩
theorem ZF:SF 286 aba:=qV {eG []with loops:=[(2,⟨[0],[.tv 3 tI],[(.exit 0,[]),(.ret,[.tv 2 .bool])]⟩)]} Tryz.func286
def lR(a:Bytes):Option (Bool):=(rz a).bind λr1=>(bif r1 then O (!decide (a=[]))else O false).bind λc2=>O c2
def ab0:aR:=⟨[vS],[rB],λx=>lR x⟩
theorem ZL:SF 227 ab0:=qV (eG [ZF]) Tryz.func227
def uA(a:List Int)(b:Int)(c:Int):Option (Bool):=
 (aX (λ(st2:Int)=>(
 bif(ae (st2<(a.length:Int)))then
 (idx a st2).bind λd=>
 (cM d b c).bind λe=>
 bif(!e)then
 O (.inr (.inr false))
 else
 O (.inl (aW (st2+1)))
 else
 O (.inr (.inl ())):Option ((Int)⊕(Unit⊕Bool)))) 0).bind λf=>
 match f with
 |.inl _=>
  O true
 |.inr g=>
  O g
def ZG:aR:=⟨[.val (.slice tI),vI,vI],[rB],λx=>uA x.1 x.2.1 x.2.2⟩
theorem Uy:SF 174 ZG:=qV {eG [ux]with loops:=[(2,⟨[1,2,9,10],[.tv 11 tI],[(.exit 0,[]),(.ret,[.tv 6 .bool])]⟩)]} Tryz.func174
def qT(a:List Int):Option (Bool):=(cM (a.length:Int) 1 3).bind λr1=>(bif r1 then(uA a 1 60).bind λr2=>O r2 else O false).bind λc3=>O c3
def acg:aR:=⟨[.val (.slice tI)],[rB],λx=>qT x⟩
theorem X1:SF 228 acg:=qV (eG [ux,Uy]) Tryz.func228
def vV(a:List Int)(b:List Int):Option (Bool):=
 bif(!decide ((a.length:Int)=(b.length:Int)))then
 O false
 else
 (aX (λ(st2:Int)=>(
 bif(ae (st2<(a.length:Int)))then
 (idx a st2).bind λc=>
 (idx b st2).bind λd=>
 bif(!decide (c=d))then
 O (.inr (.inr false))
 else
 O (.inl (aW (st2+1)))
 else
 O (.inr (.inl ())):Option ((Int)⊕(Unit⊕Bool)))) 0).bind λe=>
 match e with
 |.inl _=>
  O true
 |.inr f=>
  O f
def aak:aR:=⟨[.val (.slice tI),.val (.slice tI)],[rB],λx=>vV x.1 x.2⟩
theorem VY:SF 234 aak:=qV {eG []with loops:=[(4,⟨[0,1,12],[.tv 13 tI],[(.exit 0,[]),(.ret,[.tv 4 .bool])]⟩)]} Tryz.func234
def Ha(a:bE)(b:List Int):Option (Int):=
 (aX (λ(st2:Int)=>(
 bif(ae (st2<(a.1.length:Int)))then
 (idx a.1 st2).bind λc=>
 (vV c.2.1 b).bind λd=>
 bif d then
 O (.inr (.inr st2))
 else
 O (.inl (aW (st2+1)))
 else
 O (.inr (.inl ())):Option ((Int)⊕(Unit⊕Int)))) 0).bind λe=>
 match e with
 |.inl _=>
  O (-1)
 |.inr f=>
  O f
def Zd:aR:=⟨[.val cO,.val (.slice tI)],[rI],λx=>Ha x.1 x.2⟩
theorem ZP:SF 229 Zd:=qV {eG [VY] [2]with loops:=[(2,⟨[1,8,9],[.tv 10 tI],[(.exit 0,[]),(.ret,[.tv 4 tI])]⟩)]} Tryz.func229
def pX(a:bE):Option (Bool):=
 (aX (λ(st2:Int)=>(
 bif(ae (st2<(a.1.length:Int)))then
 (idx a.1 st2).bind λb=>
 (lR b.1).bind λh=>
 (bif(!h)then
 O true
 else
 (qT b.2.1).bind λi=>
 O (!i)).bind λj=>
 (bif j then
 O true
 else
 (bif(ae (0<st2))then
 (idx a.1 (aW (st2-1))).bind λk=>
 O (!Op.bytesLess k.1 b.1)
 else
 O false).bind λl=>
 O l).bind λc9=>
 (bif c9 then
 O true
 else
 (Ha a b.2.1).bind λc=>
 O (!decide (c=st2))).bind λd=>
 bif d then
 O (.inr (.inr false))
 else
 O (.inl (aW (st2+1)))
 else
 O (.inr (.inl ())):Option ((Int)⊕(Unit⊕Bool)))) 0).bind λe=>
 match e with
 |.inl _=>
  (cM (a.1.length:Int) 1 40).bind λf=>
  O f
 |.inr g=>
  O g
def ZB:aR:=⟨[.val cO],[rB],λx=>pX x⟩
theorem SM:SF 163 ZB:=qV {eG [ux,ZL,X1,ZP] [1]with loops:=[(2,⟨[1,6,7],[.tv 8 tI],[(.exit 0,[]),(.ret,[.tv 2 .bool])]⟩)]} Tryz.func163
def rj(a:Bytes):Option (Bool):=
 (aX (λ(st2:Int)=>(
 bif(ae (st2<(a.length:Int)))then
 (idx a st2).bind λb=>
 (bif(ae ((b.toNat:Int)<97))then
 O true
 else
 (idx a st2).bind λc=>
 O (ae (122<(c.toNat:Int)))).bind λc5=>
 bif c5 then
 O (.inr (.inr false))
 else
 O (.inl (aW (st2+1)))
 else
 O (.inr (.inl ())):Option ((Int)⊕(Unit⊕Bool)))) 0).bind λd=>
 match d with
 |.inl _=>
  O (ae ((a.length:Int)<=40))
 |.inr e=>
  O e
def abG:aR:=⟨[vS],[rB],λx=>rj x⟩
theorem Zy:SF 164 abG:=qV {eG []with loops:=[(2,⟨[0],[.tv 3 tI],[(.exit 0,[]),(.ret,[.tv 2 .bool])]⟩)]} Tryz.func164
def Bf(a:bE)(b:Bytes):Option (Bool):=(pX a).bind λr1=>(bif r1 then(rj b).bind λr2=>O r2 else O false).bind λc3=>O c3
def Yz:aR:=⟨[.val cO,vS],[rB],λx=>Bf x.1 x.2⟩
theorem YM:SF 121 Yz:=qV (eG [SM,Zy] [2]) Tryz.func121
def nd(b:Bytes)(a:Bytes):Option (Bool):=(bif(ae ((a.length:Int)<=(b.length:Int)))then(sub b 0 (a.length:Int)).bind λc=>O (ae (c=a))else O false).bind λc2=>O c2
def XK:aR:=⟨[vS,vS],[rB],λx=>nd x.1 x.2⟩
theorem WU:SF 231 XK:=qV (eG []) Tryz.func231
def sw(d:bE)(b:Bytes):Option ((List Int)):=bif ae (0<=(aW ((b.length:Int)+1)))&&ae ((aW ((b.length:Int)+1))<=(aW ((b.length:Int)+1)))&&ae ((aW ((b.length:Int)+1))<=lim)then(aX (λ(st2:(List Int)×Int)=>(bif(ae (0<=st2.2))then bif ae (0<=st2.2)&&ae (st2.2<(st2.1.length:Int))then(aX (λ(a:(List Int)×Int)=>(bif(ae (a.2<(d.1.length:Int)))then(idx d.1 a.2).bind λc=>(sub b st2.2 (b.length:Int)).bind λk=>(nd k c.1).bind λl=>(bif(!l)then O true else bif ae (0<=(aW (st2.2+(c.1.length:Int))))&&ae ((aW (st2.2+(c.1.length:Int)))<(a.1.length:Int))then(a.1[(agC (aW (st2.2+(c.1.length:Int))))]?).bind λm=>O (ae (m<0))else U).bind λc9=>bif c9 then O (.inl (a.1,(aW (a.2+1))))else bif ae (0<=(aW (st2.2+(c.1.length:Int))))&&ae ((aW (st2.2+(c.1.length:Int)))<(a.1.length:Int))then(a.1[(agC (aW (st2.2+(c.1.length:Int))))]?).bind λe=>bif ae (0<=st2.2)&&ae (st2.2<(a.1.length:Int))then(a.1[(agC st2.2)]?).bind λf=>(bif(ae (f<0))then O true else bif ae (0<=st2.2)&&ae (st2.2<(a.1.length:Int))then(a.1[(agC st2.2)]?).bind λg=>O (ae ((aW ((c.2.1.length:Int)+e))<g))else U).bind λh=>bif h then bif ae (0<=st2.2)&&ae (st2.2<(a.1.length:Int))then O (.inl ((a.1.set (agC st2.2) (aW ((c.2.1.length:Int)+e))),(aW (a.2+1))))else U else O (.inl (a.1,(aW (a.2+1))))else U else U else O (.inr a.1):Option (((List Int)×Int)⊕((List Int))))) ((st2.1.set (agC st2.2) (-1)),0)).bind λi=>O (.inl (i,(aW (st2.2-1))))else U else O (.inr st2.1):Option (((List Int)×Int)⊕((List Int))))) ((aeU (agC (aW ((b.length:Int)+1))) (0:Int)),(aW ((b.length:Int)-1)))).bind λj=>O j else U
def YS:aR:=⟨[.val cO,vS],[.own (.slice tI)],λx=>sw x.1 x.2⟩
theorem abO:SF 230 YS:=qV {eG [WU] [2]with loops:=[(3,⟨[1,2],[.own 5 [] 208 tI true,.tv 6 tI],[(.exit 0,[.own 5 [] 208 tI true])]⟩),(7,⟨[1,2,6,25,26],[.own 5 [] 208 tI true,.tv 27 tI],[(.exit 2,[.own 5 [] 208 tI true])]⟩)]} Tryz.func230
def w9(d:bE)(e:Bytes):Option ((List Int)×Bool):=(sw d e).bind λr1=>bif ae (0<=0)&&ae (0<(r1.length:Int))then(r1[(agC 0)]?).bind λn=>bif(ae (n<0))then O ([],false)else(aX (λ(b:(List Int)×(List Int)×Int)=>(bif(ae (b.2.2<(e.length:Int)))then(aX (λ(a:(List Int)×(List Int)×Int×Int)=>(bif(ae (a.2.2.2<(d.1.length:Int)))then(idx d.1 a.2.2.2).bind λf=>(bif(ae (a.2.2.1<0))then(sub e b.2.2 (e.length:Int)).bind λo=>(nd o f.1).bind λp=>O p else O false).bind λg=>(bif g then bif ae (0<=(aW (b.2.2+(f.1.length:Int))))&&ae ((aW (b.2.2+(f.1.length:Int)))<(a.1.length:Int))then(a.1[(agC (aW (b.2.2+(f.1.length:Int))))]?).bind λh=>O (ae (0<=h))else U else O false).bind λc12=>(bif c12 then bif ae (0<=(aW (b.2.2+(f.1.length:Int))))&&ae ((aW (b.2.2+(f.1.length:Int)))<(a.1.length:Int))then(a.1[(agC (aW (b.2.2+(f.1.length:Int))))]?).bind λi=>bif ae (0<=b.2.2)&&ae (b.2.2<(a.1.length:Int))then(a.1[(agC b.2.2)]?).bind λj=>O (ae ((aW ((f.2.1.length:Int)+i))=j))else U else U else O false).bind λk=>bif k then O (.inl (a.1,a.2.1,a.2.2.2,(aW (a.2.2.2+1))))else O (.inl (a.1,a.2.1,a.2.2.1,(aW (a.2.2.2+1))))else O (.inr (a.1,a.2.1,a.2.2.1)):Option (((List Int)×(List Int)×Int×Int)⊕(((List Int)×(List Int)×Int))))) (b.1,b.2.1,(-1),0)).bind λc=>bif ae (aeP c.2.1+aeP [c.2.2]<=lim)then(idx d.1 c.2.2).bind λl=>O (.inl (c.1,(c.2.1++[c.2.2]),(aW (b.2.2+(l.1.length:Int)))))else U else O (.inr b.2.1):Option (((List Int)×(List Int)×Int)⊕((List Int))))) (r1,[],0)).bind λm=>O (m,true)else U
def aaz:aR:=⟨[.val cO,vS],[.own (.slice tI),rB],λx=>w9 x.1 x.2⟩
theorem abB:SF 165 aaz:=qV {eG [abO,WU] [2]with loops:=[(6,⟨[1,2],[.own 6 [] 224 tI true,.own 7 [] 200007 tI true,.tv 8 tI],[(.exit 0,[.own 7 [] 200007 tI true])]⟩),(9,⟨[1,2,8,24,25],[.own 6 [] 224 tI true,.own 7 [] 200007 tI true,.tv 9 tI,.tv 26 tI],[(.exit 2,[.own 6 [] 224 tI true,.own 7 [] 200007 tI true,.tv 9 tI])]⟩)]} Tryz.func165
def xW(b:bE)(c:Bytes):Option ((List Int)×Bool):=(w9 b c).bind λr1=>bif(!r1.2)then O ([],false)else(aX (λ(a:(List Int)×(List Int)×Int)=>(bif(ae (a.2.2<(r1.1.length:Int)))then bif ae (0<=a.2.2)&&ae (a.2.2<(a.2.1.length:Int))then(a.2.1[(agC a.2.2)]?).bind λe=>(idx b.1 e).bind λd=>bif ae (aeP a.1+aeP d.2.1<=lim)then O (.inl ((a.1++d.2.1),a.2.1,(aW (a.2.2+1))))else U else U else O (.inr a.1):Option (((List Int)×(List Int)×Int)⊕((List Int))))) ([],r1.1,0)).bind λf=>O (f,true)
def aa4:aR:=⟨[.val cO,vS],[.own (.slice tI),rB],λx=>xW x.1 x.2⟩
theorem aa8:SF 122 aa4:=qV {eG [abB] [2]with loops:=[(6,⟨[2,20],[.own 8 [] 200008 tI true,.own 19 [] 224 tI true,.tv 21 tI],[(.exit 0,[.own 8 [] 200008 tI true])]⟩)]} Tryz.func122
def fJ(a:bE)(b:Bytes):Option ((List Int)×Bool):=(Bf a b).bind λr1=>bif(!r1)then O ([],false)else(xW a b).bind λr2=>O (r2.1,r2.2)
def C95:aR:=⟨[.val cO,vS],[.own (.slice tI),rB],λx=>fJ x.1 x.2⟩
theorem S95:SF 95 C95:=qV (eG [YM,aa8] [2]) Tryz.func95
def iR(a:List Int):Option ((List Int)):=bif ae (aeP a<=lim)then O a else U
def C50:aR:=⟨[.val (.slice tI)],[.own (.slice tI)],λx=>iR x⟩
theorem V2:SF 50 C50:=qV (eG []) Tryz.func50
def z8(a:List aV):Option ((List aV)):=(aX (λ(st2:(List aV)×Int)=>(bif(ae (st2.2<(a.length:Int)))then(idx a st2.2).bind λb=>(iR b.2.1).bind λc=>bif ae (aeP st2.1+aeP [(b.1,c,())]<=lim)then O (.inl ((st2.1++[(b.1,c,())]),(aW (st2.2+1))))else U else O (.inr st2.1):Option (((List aV)×Int)⊕((List aV))))) ([],0)).bind λd=>O d
def XY:aR:=⟨[.val (.slice bJ)],[.own (.slice bJ)],λx=>z8 x⟩
theorem VN:SF 167 XY:=qV {eG [V2]with loops:=[(3,⟨[6,7],[.own 3 [] 200003 bJ true,.tv 8 tI],[(.exit 0,[.own 3 [] 200003 bJ true])]⟩)],mv:=true,hoist:=[(5,[0])]} Tryz.func167
def LI(a:List aV):Option (bE×Bool):=(z8 a).bind λr1=>(pX (r1,())).bind λr2=>bif(!r2)then O (([],()),false)else O ((r1,()),true)
def XF:aR:=⟨[.val (.slice bJ)],[.own cO,rB],λx=>LI x⟩
theorem Zt:SF 166 XF:=qV (eG [SM,VN]) Tryz.func166
def lF(a:bE)(c:aV):Option (bE×Bool):=(pX a).bind λr1=>bif(!r1)then O (([],()),false)else(aX (λ(b:(List aV)×Int)=>((bif(ae (b.2<(a.1.length:Int)))then(idx a.1 b.2).bind λh=>O (Op.bytesLess h.1 c.1)else O false).bind λc5=>bif c5 then O (.inl (b.1,(aW (b.2+1))))else O (.inr (b.1,b.2)):Option (((List aV)×Int)⊕(((List aV)×Int))))) ([],0)).bind λf=>(sub a.1 0 f.2).bind λi=>(sub a.1 f.2 (a.1.length:Int)).bind λg=>(λx=>bN x x) ((z8 i).bind λe=>bif ae (aeP e+aeP [c]<=lim)then bif ae (aeP (e++[c])+aeP g<=lim)then(LI ((e++[c])++g)).bind λd=>O (d.1,d.2)else U else U)
def aaE:aR:=⟨[.val cO,.val bJ],[.own cO,rB],λx=>lF x.1 x.2⟩
theorem aaK:SF 123 aaE:=qV {eG [SM,Zt,VN] [2,3]with loops:=[(4,⟨[2,3],[.bx 4 64 [.own 300064 bJ true],.tv 6 tI],[(.exit 0,[.bx 4 64 [.own 300064 bJ true],.tv 6 tI])]⟩)],every:=[6]} Tryz.func123
def mg(a:Bool):Option (Bytes):=bif(!a)then O ([110,111]:Bytes)else O ([111,107]:Bytes)
def Yv:aR:=⟨[vB],[rS],λx=>mg x⟩
theorem Tb:SF 124 Yv:=qV (eG []) Tryz.func124
def km(a:cB)(b:Bytes)(c:List Int):Option (cB×Bytes):=(lF a.2.2.1 (b,c,())).bind λr1=>bif r1.2 then(mg r1.2).bind λr2=>O ((a.1,a.2.1,r1.1,a.2.2.2),r2)else(mg r1.2).bind λr3=>O (a,r3)
def C96:aR:=⟨[.cK gM,vS,.val (.slice tI)],[rS],λx=>km x.1 x.2.1 x.2.2⟩
theorem S96:SF 96 C96:=qX (eG [aaK,Tb]) Tryz.func96
def wu(a:b9):Option (b9):=bif ae (aeP a.1<=lim)then bif ae (aeP a.2.1<=lim)then O a else U else U
def abt:aR:=⟨[.val dH],[.own dH],λx=>wu x⟩
theorem VU:SF 125 abt:=qV (eG [] [1]) Tryz.func125
def mY(a:aO)(b:aO):Option (Bool):=(bif(ae (a.1<b.1))then O true else(bif(ae (a.1=b.1))then O (ae (a.2.1<b.2.1))else O false).bind λc1=>O c1).bind λc2=>O c2
def Y6:aR:=⟨[.val aU,.val aU],[rB],λx=>mY x.1 x.2⟩
theorem WS:SF 168 Y6:=qV (eG [] [2,3]) Tryz.func168
def kM(a:b9):Option (Bool):=
 (aX (λ(st2:Int)=>(
 bif(ae (st2<(a.1.length:Int)))then
 (idx a.1 st2).bind λd=>
 (cM d.1 0 999).bind λr=>
 (bif(!r)then
 O true
 else
 (cM d.2.1 0 999).bind λs=>
 O (!s)).bind λt=>
 (bif t then
 O true
 else
 (cM d.2.2.1 0 500).bind λu=>
 O (!u)).bind λv=>
 bif v then
 O (.inr (.inr false))
 else
 O (.inl (aW (st2+1)))
 else
 O (.inr (.inl ())):Option ((Int)⊕(Unit⊕Bool)))) 0).bind λw=>
 match w with
 |.inl _=>
  (aX (λ(b:Int)=>(
  bif(ae (b<(a.2.1.length:Int)))then
  (idx a.2.1 b).bind λc=>
  (cM c.1 0 (aW (c.2.1-1))).bind λe=>
  (bif(!e)then
  O true
  else
  (cM c.2.1 0 (aW ((a.1.length:Int)-1))).bind λf=>
  O (!f)).bind λg=>
  (bif g then
  O true
  else
  (cM c.2.2.1 1 60).bind λh=>
  O (!h)).bind λi=>
  (bif i then
  O true
  else
  (bif(ae (0<b))then
  (idx a.2.1 (aW (b-1))).bind λj=>
  (mY j c).bind λk=>
  O (!k)
  else
  O false).bind λl=>
  O l).bind λm=>
  bif m then
  O (.inr (.inr false))
  else
  O (.inl (aW (b+1)))
  else
  O (.inr (.inl ())):Option ((Int)⊕(Unit⊕Bool)))) 0).bind λn=>
  match n with
  |.inl _=>
   (cM (a.1.length:Int) 1 16).bind λo=>
   (bif o then
   O (ae ((a.2.1.length:Int)<=40))
   else
   O false).bind λc28=>
   O c28
  |.inr p=>
   O p
 |.inr q=>
  O q
def aaO:aR:=⟨[.val dH],[rB],λx=>kM x⟩
theorem Tf:SF 126 aaO:=qV {eG [ux,WS] [1]with loops:=[(2,⟨[1,8,9,47,48,49,50,51,52,53,54,57,58,59,60,63,64,65,66,67,68,69,70,71,72,73,74,75,83,84,85,86],[.tv 10 tI],[(.exit 0,[]),(.ret,[.tv 2 .bool])]⟩),(8,⟨[1,32,33,83,84,85,86],[.tv 34 tI],[(.exit 2,[]),(.ret,[.tv 2 .bool])]⟩)]} Tryz.func126
def gN(a:cB)(b:List Int):Option (cB×Bytes):=(wu a.1).bind λr1=>(idx b 0).bind λc=>(idx b 1).bind λd=>(idx b 2).bind λe=>bif ae (aeP r1.1+aeP [(c,d,e,())]<=lim)then(kM ((r1.1++[(c,d,e,())]),r1.2)).bind λf=>bif(!f)then O (a,([110,111]:Bytes))else O ((((r1.1++[(c,d,e,())]),r1.2),a.2),([111,107]:Bytes))else U
def C97:aR:=⟨[.cK gM,.val (.slice tI)],[rS],λx=>gN x.1 x.2⟩
theorem S97:SF 97 C97:=qX (eG [VU,Tf]) Tryz.func97
def wF(c:b9)(a:aO):Option (b9×Bool):=(kM c).bind λr1=>bif(!r1)then O (([],[],()),false)else(wu c).bind λr2=>(aX (λ(b:(List aO)×(List aO)×(List aO)×(List aO)×Int)=>((bif(ae (b.2.2.2.2<(c.2.1.length:Int)))then(idx c.2.1 b.2.2.2.2).bind λi=>(mY i a).bind λj=>O j else O false).bind λk=>bif k then O (.inl (b.1,b.2.1,b.2.2.1,b.2.2.2.1,(aW (b.2.2.2.2+1))))else O (.inr (b.1,b.2.1,b.2.2.1,b.2.2.2.1,b.2.2.2.2)):Option (((List aO)×(List aO)×(List aO)×(List aO)×Int)⊕(((List aO)×(List aO)×(List aO)×(List aO)×Int))))) ([],[],r2.1,r2.2.1,0)).bind λe=>(sub c.2.1 0 e.2.2.2.2).bind λd=>(sub c.2.1 e.2.2.2.2 (c.2.1.length:Int)).bind λl10=>bN (bN (bif ae (aeP d<=lim)then bif ae (aeP d+aeP [a]<=lim)then bif ae (aeP (d++[a])+aeP l10<=lim)then(kM (e.2.2.1,((d++[a])++l10),())).bind λf=>bif(!f)then O (([],[],()),false)else O ((e.2.2.1,((d++[a])++l10),()),true)else U else U else U) (bif ae (aeP d<=lim)then bif ae (aeP d+aeP [a]<=lim)then bif ae (aeP (d++[a])+aeP l10<=lim)then(kM (e.2.2.1,((d++[a])++l10),())).bind λg=>bif(!g)then O (([],[],()),false)else O ((e.2.2.1,((d++[a])++l10),()),true)else U else U else U)) (bif ae (aeP d<=lim)then bif ae (aeP d+aeP [a]<=lim)then bif ae (aeP (d++[a])+aeP l10<=lim)then(kM (e.2.2.1,((d++[a])++l10),())).bind λh=>bif(!h)then O (([],[],()),false)else O ((e.2.2.1,((d++[a])++l10),()),true)else U else U else U)
def Zn:aR:=⟨[.val dH,.val aU],[.own dH,rB],λx=>wF x.1 x.2⟩
theorem Z5:SF 127 Zn:=qV {eG [VU,Tf,WS] [2,3]with loops:=[(5,⟨[2,3],[.bx 4 64 [.own 300064 aU true,.own 300065 aU true],.bx 6 96 [.own 208 aU true,.own 209 aU true],.tv 7 tI],[(.exit 0,[.bx 4 64 [.own 300064 aU true,.own 300065 aU true],.bx 6 96 [.own 208 aU true,.own 209 aU true],.tv 7 tI])]⟩)],every:=[7]} Tryz.func127
def iH(a:cB)(b:List Int):Option (cB×Bytes):=(idx b 0).bind λd=>(idx b 1).bind λe=>(idx b 2).bind λf=>(λx=>bN (bN x x) x) ((wF a.1 (d,e,f,())).bind λc=>(bif(!c.2)then O true else O (ae (0<(a.2.1.length:Int)))).bind λc5=>bif c5 then O (a,([110,111]:Bytes))else O ((c.1,a.2),([111,107]:Bytes)))
def C98:aR:=⟨[.cK gM,.val (.slice tI)],[rS],λx=>iH x.1 x.2⟩
theorem S98:SF 98 C98:=qX {eG [Z5]with every:=[1]} Tryz.func98
def zE(b:b9)(a:aO):Option (Bool):=(cM a.1 0 (aW ((b.2.1.length:Int)-1))).bind λr1=>(bif r1 then(cM a.2.1 0 9999).bind λr2=>O r2 else O false).bind λc3=>(bif c3 then(cM a.2.2.1 (aW (a.2.1+1)) 10000).bind λc=>O c else O false).bind λc5=>O c5
def abJ:aR:=⟨[.val dH,.val aU],[rB],λx=>zE x.1 x.2⟩
theorem V0:SF 170 abJ:=qV (eG [ux] [2,3]) Tryz.func170
def sI(c:b9)(a:List aO):Option (Bool):=
 (aX (λ(st2:Int)=>(
 bif(ae (st2<(a.length:Int)))then
 (idx a st2).bind λb=>
 (zE c b).bind λg=>
 bif(!g)then
 O (.inr (.inr false))
 else
 (bif(ae (0<st2))then
 (idx a (aW (st2-1))).bind λh=>
 (bif(ae (b.1<h.1))then
 O true
 else
 (idx a (aW (st2-1))).bind λi=>
 (bif(ae (i.1=b.1))then
 (idx a (aW (st2-1))).bind λj=>
 O (ae (b.2.1<=j.2.2.1))
 else
 O false).bind λk=>
 O k).bind λc9=>
 O c9
 else
 O false).bind λd=>
 bif d then
 O (.inr (.inr false))
 else
 O (.inl (aW (st2+1)))
 else
 O (.inr (.inl ())):Option ((Int)⊕(Unit⊕Bool)))) 0).bind λe=>
 match e with
 |.inl _=>
  O (ae ((a.length:Int)<=60))
 |.inr f=>
  O f
def YG:aR:=⟨[.val dH,.val (.slice aU)],[rB],λx=>sI x.1 x.2⟩
theorem VR:SF 169 YG:=qV {eG [V0] [2]with loops:=[(2,⟨[1,2,7,8],[.tv 9 tI],[(.exit 0,[]),(.ret,[.tv 4 .bool])]⟩)]} Tryz.func169
def su(a:Int)(b:Int):Option (Int):=bif(ae (b<a))then O a else O b
def aaw:aR:=⟨[vI,vI],[rI],λx=>su x.1 x.2⟩
theorem Xd:SF 188 aaw:=qV (eG []) Tryz.func188
def py(a:Int)(b:Int):Option (Int):=bif(ae (a<b))then O a else O b
def aca:aR:=⟨[vI,vI],[rI],λx=>py x.1 x.2⟩
theorem WA:SF 232 aca:=qV (eG []) Tryz.func232
def zQ(f:List aO)(e:aO):Option ((List aO)):=(aX (λ(st2:Int×Int×Int×(List aO)×Int×Int)=>(bif(ae (st2.2.2.2.2.2<(f.length:Int)))then(idx f st2.2.2.2.2.2).bind λd=>(bif(ae (d.1=st2.1))then O (ae (d.2.1<=st2.2.2.1))else O false).bind λc4=>(bif c4 then O (ae (st2.2.1<=d.2.2.1))else O false).bind λc5=>bif c5 then(py st2.2.1 d.2.1).bind λg=>(su st2.2.2.1 d.2.2.1).bind λh=>O (.inl (st2.1,g,h,st2.2.2.2.1,st2.2.2.2.2.1,(aW (st2.2.2.2.2.2+1))))else bif ae (aeP st2.2.2.2.1+aeP [d]<=lim)then(bif(ae (d.1<st2.1))then O true else(bif(ae (d.1=st2.1))then O (ae (d.2.1<st2.2.1))else O false).bind λi=>O i).bind λc9=>bif c9 then O (.inl (st2.1,st2.2.1,st2.2.2.1,(st2.2.2.2.1++[d]),((st2.2.2.2.1++[d]).length:Int),(aW (st2.2.2.2.2.2+1))))else O (.inl (st2.1,st2.2.1,st2.2.2.1,(st2.2.2.2.1++[d]),st2.2.2.2.2.1,(aW (st2.2.2.2.2.2+1))))else U else O (.inr (st2.1,st2.2.1,st2.2.2.1,st2.2.2.2.1,st2.2.2.2.2.1)):Option ((Int×Int×Int×(List aO)×Int×Int)⊕((Int×Int×Int×(List aO)×Int))))) (e.1,e.2.1,e.2.2.1,[],0,0)).bind λa=>(sub a.2.2.2.1 0 a.2.2.2.2).bind λb=>(sub a.2.2.2.1 a.2.2.2.2 (a.2.2.2.1.length:Int)).bind λc=>bN (bN (bif ae (aeP b<=lim)then bif ae (aeP b+aeP [(a.1,a.2.1,a.2.2.1,())]<=lim)then bif ae (aeP (b++[(a.1,a.2.1,a.2.2.1,())])+aeP c<=lim)then O ((b++[(a.1,a.2.1,a.2.2.1,())])++c)else U else U else U) (bN (bif ae (aeP b<=lim)then bif ae (aeP b+aeP [(a.1,a.2.1,a.2.2.1,())]<=lim)then bif ae (aeP (b++[(a.1,a.2.1,a.2.2.1,())])+aeP c<=lim)then O ((b++[(a.1,a.2.1,a.2.2.1,())])++c)else U else U else U) (bif ae (aeP b<=lim)then bif ae (aeP b+aeP [(a.1,a.2.1,a.2.2.1,())]<=lim)then bif ae (aeP (b++[(a.1,a.2.1,a.2.2.1,())])+aeP c<=lim)then O ((b++[(a.1,a.2.1,a.2.2.1,())])++c)else U else U else U))) (bN (bN (bif ae (aeP b<=lim)then bif ae (aeP b+aeP [(a.1,a.2.1,a.2.2.1,())]<=lim)then bif ae (aeP (b++[(a.1,a.2.1,a.2.2.1,())])+aeP c<=lim)then O ((b++[(a.1,a.2.1,a.2.2.1,())])++c)else U else U else U) (bif ae (aeP b<=lim)then bif ae (aeP b+aeP [(a.1,a.2.1,a.2.2.1,())]<=lim)then bif ae (aeP (b++[(a.1,a.2.1,a.2.2.1,())])+aeP c<=lim)then O ((b++[(a.1,a.2.1,a.2.2.1,())])++c)else U else U else U)) (bif ae (aeP b<=lim)then bif ae (aeP b+aeP [(a.1,a.2.1,a.2.2.1,())]<=lim)then bif ae (aeP (b++[(a.1,a.2.1,a.2.2.1,())])+aeP c<=lim)then O ((b++[(a.1,a.2.1,a.2.2.1,())])++c)else U else U else U))
def abj:aR:=⟨[.val (.slice aU),.val aU],[.own (.slice aU)],λx=>zQ x.1 x.2⟩
theorem aas:SF 171 abj:=qV {eG [Xd,WA]with loops:=[(4,⟨[9,10],[.bx 3 48 [.pv tI,.pv tI,.pv tI],.own 5 [] 200005 aU true,.tv 6 tI,.tv 11 tI],[(.exit 0,[.bx 3 48 [.pv tI,.pv tI,.pv tI],.own 5 [] 200005 aU true,.tv 6 tI])]⟩)],pre:=[(13,[200005])],every:=[13]} Tryz.func171
def Ag(a:b9)(b:List aO)(c:aO):Option ((List aO)×Bool):=(kM a).bind λr1=>(bif(!r1)then O true else(sI a b).bind λr2=>O (!r2)).bind λc3=>(bif c3 then O true else(zE a c).bind λd=>O (!d)).bind λc5=>(bif c5 then O true else(zQ b c).bind λe=>(sI a e).bind λf=>O (!f)).bind λg=>bif g then O ([],false)else(zQ b c).bind λh=>O (h,true)
def ab9:aR:=⟨[.val dH,.val (.slice aU),.val aU],[.own (.slice aU),rB],λx=>Ag x.1 x.2.1 x.2.2⟩
theorem ZX:SF 128 ab9:=qV (eG [Tf,VR,V0,aas] [3,5]) Tryz.func128
def jh(a:cB)(b:List Int):Option (cB×Bytes):=(idx b 0).bind λd=>(idx b 1).bind λe=>(idx b 2).bind λf=>(Ag a.1 a.2.1 (d,e,f,())).bind λc=>bif c.2 then(mg c.2).bind λg=>O ((a.1,c.1,a.2.2),g)else(mg c.2).bind λh=>O (a,h)
def C99:aR:=⟨[.cK gM,.val (.slice tI)],[rS],λx=>jh x.1 x.2⟩
theorem S99:SF 99 C99:=qX (eG [Tb,ZX]) Tryz.func99
def mJ(a:aO)(b:aO):Option (Bool):=(bif(ae (a.2.1<b.2.1))then O true else(bif(ae (a.2.1=b.2.1))then O (ae (a.1<b.1))else O false).bind λc1=>O c1).bind λc2=>O c2
def aav:aR:=⟨[.val aU,.val aU],[rB],λx=>mJ x.1 x.2⟩
theorem WG:SF 172 aav:=qV (eG [] [2,3]) Tryz.func172
def wa(a:Int):Option (Bool):=(cM a 0 167).bind λr1=>O r1
def Zw:aR:=⟨[vI],[rB],λx=>wa x⟩
theorem Xq:SF 183 Zw:=qV (eG [ux]) Tryz.func183
def tQ(a:Int):Option (Bool):=(cM a 1 30).bind λr1=>O r1
def ab5:aR:=⟨[vI],[rB],λx=>tQ x⟩
theorem ZC:SF 233 ab5:=qV (eG [ux]) Tryz.func233
def vG(b:List aO):Option (Bool):=
 (aX (λ(st2:Int)=>(
 bif(ae (st2<(b.length:Int)))then
 (idx b st2).bind λc=>
 (tQ c.1).bind λm=>
 (bif(!m)then
 O true
 else
 (wa c.2.1).bind λn=>
 O (!n)).bind λo=>
 (bif o then
 O true
 else
 (cM c.2.2.1 (aW (c.2.1+1)) 168).bind λp=>
 O (!p)).bind λq=>
 (bif q then
 O true
 else
 (bif(ae (0<st2))then
 (idx b (aW (st2-1))).bind λr=>
 (mJ r c).bind λf=>
 O (!f)
 else
 O false).bind λg=>
 O g).bind λc12=>
 bif c12 then
 O (.inr (.inr false))
 else
 (sub b 0 st2).bind λd=>
 (aX (λ(a:Int×Int×Int×Int)=>(
 bif(ae (a.2.2.2<(d.length:Int)))then
 (idx d a.2.2.2).bind λe=>
 (bif(ae (e.1=a.1))then
 O (ae (a.2.1<e.2.2.1))
 else
 O false).bind λh=>
 bif h then
 O (.inr (.inr false))
 else
 O (.inl (a.1,a.2.1,a.2.2.1,(aW (a.2.2.2+1))))
 else
 O (.inr (.inl ())):Option ((Int×Int×Int×Int)⊕(Unit⊕Bool)))) (c.1,c.2.1,c.2.2.1,0)).bind λi=>
 match i with
 |.inl _=>
  O (.inl (aW (st2+1)))
 |.inr j=>
  O (.inr (.inr j))
 else
 O (.inr (.inl ())):Option ((Int)⊕(Unit⊕Bool)))) 0).bind λk=>
 match k with
 |.inl _=>
  O (ae ((b.length:Int)<=60))
 |.inr l=>
  O l
def aaD:aR:=⟨[.val (.slice aU)],[rB],λx=>vG x⟩
theorem Wp:SF 173 aaD:=qV {eG [ux,WG,Xq,ZC]with loops:=[(2,⟨[0,7,8],[.tv 9 tI],[(.exit 0,[]),(.ret,[.tv 2 .bool])]⟩),(7,⟨[0,7,8,9,19,20,21,22,25,26,27,28,29,30,31,34,35,36,37,38,39,40,41,42,43,44,45,49,50],[.bx 4 64 [.pv tI,.pv tI,.pv tI],.tv 51 tI],[(.exit 2,[]),(.ret,[.tv 2 .bool])]⟩)]} Tryz.func173
def yU(d:List aO):Option ((List aO)×Bool):=(aX (λ(st2:(List aO)×Int)=>(bif(ae (st2.2<(d.length:Int)))then(idx d st2.2).bind λf=>(aX (λ(b:(List aO)×Int×Int×Int×Int)=>((bif(ae (0<b.2.2.2.2))then bif ae (0<=(aW (b.2.2.2.2-1)))&&ae ((aW (b.2.2.2.2-1))<(b.1.length:Int))then(b.1[(agC (aW (b.2.2.2.2-1)))]?).bind λh=>(mJ (b.2.1,b.2.2.1,b.2.2.2.1,()) h).bind λi=>O i else U else O false).bind λj=>bif j then O (.inl (b.1,b.2.1,b.2.2.1,b.2.2.2.1,(aW (b.2.2.2.2-1))))else O (.inr (b.1,b.2.1,b.2.2.1,b.2.2.2.1,b.2.2.2.2)):Option (((List aO)×Int×Int×Int×Int)⊕(((List aO)×Int×Int×Int×Int))))) (st2.1,f.1,f.2.1,f.2.2.1,(st2.1.length:Int))).bind λa=>(sub a.1 0 a.2.2.2.2).bind λl10=>(sub a.1 a.2.2.2.2 (a.1.length:Int)).bind λc=>bN (bN (bif ae (aeP l10<=lim)then bif ae (aeP l10+aeP [(a.2.1,a.2.2.1,a.2.2.2.1,())]<=lim)then bif ae (aeP (l10++[(a.2.1,a.2.2.1,a.2.2.2.1,())])+aeP c<=lim)then O (.inl (((l10++[(a.2.1,a.2.2.1,a.2.2.2.1,())])++c),(aW (st2.2+1))))else U else U else U) (bN (bif ae (aeP l10<=lim)then bif ae (aeP l10+aeP [(a.2.1,a.2.2.1,a.2.2.2.1,())]<=lim)then bif ae (aeP (l10++[(a.2.1,a.2.2.1,a.2.2.2.1,())])+aeP c<=lim)then O (.inl (((l10++[(a.2.1,a.2.2.1,a.2.2.2.1,())])++c),(aW (st2.2+1))))else U else U else U) (bif ae (aeP l10<=lim)then bif ae (aeP l10+aeP [(a.2.1,a.2.2.1,a.2.2.2.1,())]<=lim)then bif ae (aeP (l10++[(a.2.1,a.2.2.1,a.2.2.2.1,())])+aeP c<=lim)then O (.inl (((l10++[(a.2.1,a.2.2.1,a.2.2.2.1,())])++c),(aW (st2.2+1))))else U else U else U))) (bN (bN (bif ae (aeP l10<=lim)then bif ae (aeP l10+aeP [(a.2.1,a.2.2.1,a.2.2.2.1,())]<=lim)then bif ae (aeP (l10++[(a.2.1,a.2.2.1,a.2.2.2.1,())])+aeP c<=lim)then O (.inl (((l10++[(a.2.1,a.2.2.1,a.2.2.2.1,())])++c),(aW (st2.2+1))))else U else U else U) (bif ae (aeP l10<=lim)then bif ae (aeP l10+aeP [(a.2.1,a.2.2.1,a.2.2.2.1,())]<=lim)then bif ae (aeP (l10++[(a.2.1,a.2.2.1,a.2.2.2.1,())])+aeP c<=lim)then O (.inl (((l10++[(a.2.1,a.2.2.1,a.2.2.2.1,())])++c),(aW (st2.2+1))))else U else U else U)) (bif ae (aeP l10<=lim)then bif ae (aeP l10+aeP [(a.2.1,a.2.2.1,a.2.2.2.1,())]<=lim)then bif ae (aeP (l10++[(a.2.1,a.2.2.1,a.2.2.2.1,())])+aeP c<=lim)then O (.inl (((l10++[(a.2.1,a.2.2.1,a.2.2.2.1,())])++c),(aW (st2.2+1))))else U else U else U))else O (.inr st2.1):Option (((List aO)×Int)⊕((List aO))))) ([],0)).bind λe=>(vG e).bind λg=>bif(!g)then O ([],false)else O (e,true)
def abo:aR:=⟨[.val (.slice aU)],[.own (.slice aU),rB],λx=>yU x⟩
theorem aau:SF 129 abo:=qV {eG [WG,Wp]with loops:=[(3,⟨[8,9],[.own 4 [] 200004 aU true,.tv 10 tI],[(.exit 0,[.own 4 [] 200004 aU true])]⟩),(6,⟨[8,9,10],[.own 4 [] 200004 aU true,.bx 6 96 [.pv tI,.pv tI,.pv tI],.tv 7 tI],[(.exit 2,[.own 4 [] 200004 aU true,.bx 6 96 [.pv tI,.pv tI,.pv tI],.tv 7 tI])]⟩)],pre:=[(8,[200004])],every:=[8]} Tryz.func129
def gP(a:cB)(b:List Int):Option (cB×Bytes):=bif ae (aeP a.2.2.2.2.2.1<=lim)then(idx b 0).bind λd=>(idx b 1).bind λe=>(idx b 2).bind λf=>bif ae (aeP a.2.2.2.2.2.1+aeP [(d,e,f,())]<=lim)then(yU (a.2.2.2.2.2.1++[(d,e,f,())])).bind λc=>bif c.2 then(mg c.2).bind λg=>O ((a.1,a.2.1,a.2.2.1,a.2.2.2.1,a.2.2.2.2.1,c.1,a.2.2.2.2.2.2),g)else(mg c.2).bind λh=>O (a,h)else U else U
def aal:aR:=⟨[.cK gM,.val (.slice tI)],[rS],λx=>gP x.1 x.2⟩
theorem XV:SF 100 aal:=qX (eG [Tb,aau]) Tryz.func100
def vY(b:bE)(a:List Int):Option (Bool):=(pX b).bind λr1=>(bif r1 then O (ae ((a.length:Int)<=60))else O false).bind λc2=>(bif c2 then(uA a 1 60).bind λr3=>O r3 else O false).bind λc4=>O c4
def Zc:aR:=⟨[.val cO,.val (.slice tI)],[rB],λx=>vY x.1 x.2⟩
theorem aby:SF 130 Zc:=qV (eG [SM,Uy] [2]) Tryz.func130
def iK(a:List Int)(b:List Int):Option (Bool):=(bif(ae ((a.length:Int)<=(b.length:Int)))then(sub b 0 (a.length:Int)).bind λc=>(vV a c).bind λr2=>O r2 else O false).bind λc3=>O c3
def ZR:aR:=⟨[.val (.slice tI),.val (.slice tI)],[rB],λx=>iK x.1 x.2⟩
theorem Xp:SF 175 ZR:=qV (eG [VY]) Tryz.func175
def pM(c:bE)(a:List Int):Option ((List Int)):=bif ae (0<=(aW ((a.length:Int)+1)))&&ae ((aW ((a.length:Int)+1))<=(aW ((a.length:Int)+1)))&&ae ((aW ((a.length:Int)+1))<=lim)then bif ae (0<=(a.length:Int))&&ae ((a.length:Int)<((aeU (agC (aW ((a.length:Int)+1))) (0:Int)).length:Int))then(aX (λ(st2:(List Int)×Int)=>(bif(ae (0<=st2.2))then(aX (λ(b:(List Int)×Int)=>(bif(ae (b.2<(c.1.length:Int)))then(idx c.1 b.2).bind λd=>(sub a st2.2 (a.length:Int)).bind λg=>(iK d.2.1 g).bind λh=>bif h then bif ae (0<=st2.2)&&ae (st2.2<(b.1.length:Int))then(b.1[(agC st2.2)]?).bind λi=>bif ae (0<=(aW (st2.2+(d.2.1.length:Int))))&&ae ((aW (st2.2+(d.2.1.length:Int)))<(b.1.length:Int))then(b.1[(agC (aW (st2.2+(d.2.1.length:Int))))]?).bind λj=>bif ae (0<=st2.2)&&ae (st2.2<(b.1.length:Int))then O (.inl ((b.1.set (agC st2.2) (aW (i+j))),(aW (b.2+1))))else U else U else U else O (.inl (b.1,(aW (b.2+1))))else O (.inr b.1):Option (((List Int)×Int)⊕((List Int))))) (st2.1,0)).bind λe=>O (.inl (e,(aW (st2.2-1))))else O (.inr st2.1):Option (((List Int)×Int)⊕((List Int))))) (((aeU (agC (aW ((a.length:Int)+1))) (0:Int)).set (agC (a.length:Int)) 1),(aW ((a.length:Int)-1)))).bind λf=>O f else U else U
def abV:aR:=⟨[.val cO,.val (.slice tI)],[.own (.slice tI)],λx=>pM x.1 x.2⟩
theorem Wv:SF 131 abV:=qV {eG [Xp] [2]with loops:=[(4,⟨[1,2],[.own 5 [] 192 tI true,.tv 6 tI],[(.exit 0,[.own 5 [] 192 tI true])]⟩),(7,⟨[1,2,6,25,26],[.own 5 [] 192 tI true,.tv 27 tI],[(.exit 2,[.own 5 [] 192 tI true])]⟩)]} Tryz.func131
def yo(e:bE)(a:List Int):Option ((List Int)×Bool):=(pM e a).bind λr1=>bif ae (0<=0)&&ae (0<(r1.length:Int))then(r1[(agC 0)]?).bind λk=>bif(ae (k=0))then O ([],false)else(aX (λ(c:(List Int)×(List Int)×Int)=>(bif(ae (c.2.2<(a.length:Int)))then(aX (λ(b:(List Int)×(List Int)×Int×Int)=>(bif(ae (b.2.2.2<(e.1.length:Int)))then(idx e.1 b.2.2.2).bind λf=>(bif(ae (b.2.2.1<0))then(sub a c.2.2 (a.length:Int)).bind λl=>(iK f.2.1 l).bind λm=>O m else O false).bind λg=>(bif g then bif ae (0<=(aW (c.2.2+(f.2.1.length:Int))))&&ae ((aW (c.2.2+(f.2.1.length:Int)))<(b.1.length:Int))then(b.1[(agC (aW (c.2.2+(f.2.1.length:Int))))]?).bind λh=>O (ae (0<h))else U else O false).bind λc12=>bif c12 then O (.inl (b.1,b.2.1,b.2.2.2,(aW (b.2.2.2+1))))else O (.inl (b.1,b.2.1,b.2.2.1,(aW (b.2.2.2+1))))else O (.inr (b.1,b.2.1,b.2.2.1)):Option (((List Int)×(List Int)×Int×Int)⊕(((List Int)×(List Int)×Int))))) (c.1,c.2.1,(-1),0)).bind λd=>bif ae (aeP d.2.1+aeP [d.2.2]<=lim)then(idx e.1 d.2.2).bind λi=>O (.inl (d.1,(d.2.1++[d.2.2]),(aW (c.2.2+(i.2.1.length:Int)))))else U else O (.inr c.2.1):Option (((List Int)×(List Int)×Int)⊕((List Int))))) (r1,[],0)).bind λj=>O (j,true)else U
def YJ:aR:=⟨[.val cO,.val (.slice tI)],[.own (.slice tI),rB],λx=>yo x.1 x.2⟩
theorem YT:SF 132 YJ:=qV {eG [Wv,Xp] [2]with loops:=[(6,⟨[1,2],[.own 6 [] 224 tI true,.own 7 [] 200007 tI true,.tv 8 tI],[(.exit 0,[.own 7 [] 200007 tI true])]⟩),(9,⟨[1,2,8,24,25],[.own 6 [] 224 tI true,.own 7 [] 200007 tI true,.tv 9 tI,.tv 26 tI],[(.exit 2,[.own 6 [] 224 tI true,.own 7 [] 200007 tI true,.tv 9 tI])]⟩)]} Tryz.func132
def yA(b:bE)(a:List Int):Option (Bytes):=(aX (λ(st2:Bytes×Int)=>(bif(ae (st2.2<(a.length:Int)))then(idx a st2.2).bind λd=>(idx b.1 d).bind λc=>bif ae (aeP st2.1+aeP c.1<=lim)then O (.inl ((st2.1++c.1),(aW (st2.2+1))))else U else O (.inr st2.1):Option ((Bytes×Int)⊕(Bytes)))) ([],0)).bind λe=>O e
def aai:aR:=⟨[.val cO,.val (.slice tI)],[rS],λx=>yA x.1 x.2⟩
theorem aaU:SF 133 aai:=qV {eG [] [2]with loops:=[(3,⟨[2,8,9],[.tv 5 .str,.tv 10 tI],[(.exit 0,[.tv 5 .str])]⟩)]} Tryz.func133
def gW(b:bE)(a:List Int):Option (Bytes×Bool):=(vY b a).bind λr1=>(bif(!r1)then O true else(pM b a).bind λr2=>bif ae (0<=0)&&ae (0<(r2.length:Int))then(r2[(agC 0)]?).bind λc=>O (!decide (c=1))else U).bind λc4=>bif c4 then O ([],false)else(yo b a).bind λd=>(yA b d.1).bind λe=>O (e,true)
def Ye:aR:=⟨[.val cO,.val (.slice tI)],[rS,rB],λx=>gW x.1 x.2⟩
theorem Z6:SF 102 Ye:=qV (eG [aby,Wv,YT,aaU] [2]) Tryz.func102
def tE(a:List Int):Option (Bool):=(uA a 1 60).bind λr1=>O r1
def Y5:aR:=⟨[.val (.slice tI)],[rB],λx=>tE x⟩
theorem Zb:SF 176 Y5:=qV (eG [Uy]) Tryz.func176
def pR(a:List Int)(b:Int)(c:Int):Option (Bool):=
 (aX (λ(st2:Int)=>(
 bif(ae (st2<(a.length:Int)))then
 (idx a st2).bind λe=>
 (cM e b c).bind λf=>
 (bif(!f)then
 O true
 else
 (bif(ae (0<st2))then
 (idx a (aW (st2-1))).bind λg=>
 O (ae (e<=g))
 else
 O false).bind λh=>
 O h).bind λi=>
 bif i then
 O (.inr (.inr false))
 else
 O (.inl (aW (st2+1)))
 else
 O (.inr (.inl ())):Option ((Int)⊕(Unit⊕Bool)))) 0).bind λj=>
 match j with
 |.inl _=>
  O true
 |.inr d=>
  O d
def Yp:aR:=⟨[.val (.slice tI),vI,vI],[rB],λx=>pR x.1 x.2.1 x.2.2⟩
theorem Xa:SF 287 Yp:=qV {eG [ux]with loops:=[(2,⟨[0,1,2,9,10],[.tv 11 tI],[(.exit 0,[]),(.ret,[.tv 6 .bool])]⟩)]} Tryz.func287
def zy(a:bM):Option (Bool):=(cM a.1 0 1000000000).bind λr1=>(bif r1 then(cM a.2.1 1 60).bind λr2=>O r2 else O false).bind λc3=>(bif c3 then(pR a.2.2.1 0 (aW (a.2.1-1))).bind λb=>O b else O false).bind λc5=>O c5
def aaQ:aR:=⟨[.val cE],[rB],λx=>zy x⟩
theorem aac:SF 235 aaQ:=qV (eG [ux,Xa] [1]) Tryz.func235
def tG(a:List Int)(b:Int):Option (Bool):=
 (aX (λ(st2:Int)=>(
 bif(ae (st2<(a.length:Int)))then
 (idx a st2).bind λc=>
 bif(ae (c=b))then
 O (.inr (.inr true))
 else
 O (.inl (aW (st2+1)))
 else
 O (.inr (.inl ())):Option ((Int)⊕(Unit⊕Bool)))) 0).bind λo4=>
 match o4 with
 |.inl _=>
  O false
 |.inr y6=>
  O y6
def Za:aR:=⟨[.val (.slice tI),vI],[rB],λx=>tG x.1 x.2⟩
theorem aah:SF 288 Za:=qV {eG []with loops:=[(2,⟨[1,7,8],[.tv 9 tI],[(.exit 0,[]),(.ret,[.tv 4 .bool])]⟩)]} Tryz.func288
def zb(a:bM):Option (Int):=(aX (λ(st2:Int)=>((bif(ae (st2<a.2.1))then(tG a.2.2.1 st2).bind λr3=>O r3 else O false).bind λc4=>bif c4 then O (.inl (aW (st2+1)))else O (.inr st2):Option ((Int)⊕(Int)))) 0).bind λb=>O b
def X0:aR:=⟨[.val cE],[rI],λx=>zb x⟩
theorem abe:SF 236 X0:=qV {eG [aah] [1]with loops:=[(2,⟨[1],[.tv 3 tI],[(.exit 0,[.tv 3 tI])]⟩)]} Tryz.func236
def C51:aR:=⟨[.val (.slice tI),vI],[.own (.slice tI)],λx=>nj x.1 x.2⟩
theorem S51:SF 51 C51:=⟨GV,qN Tryz.func51 (by kernel_rfl)⟩
def Cl(b:bM)(a:Int):Option (bM):=(nj b.2.2.1 a).bind λr1=>O (b.1,b.2.1,r1,())
def abg:aR:=⟨[.val cE,vI],[.own cE],λx=>Cl x.1 x.2⟩
theorem ZO:SF 237 abg:=qV (eG [S51] [2]) Tryz.func237
def lX(b:bM)(e:Int):Option (bM×(List Int)×Bool):=
 (zy b).bind λr1=>
 (bif(!r1)then
 O true
 else
 (cM e 0 1200).bind λr2=>
 O (!r2)).bind λc3=>
 bif c3 then
 O ((0,0,[],()),[],false)
 else
 (iR b.2.2.1).bind λh=>
 (aX (λ(a:Int×Int×Int×(List Int)×Int×Int×(List Int)×(List Int))=>(
 bif(ae (0<a.1))then
 (zb (a.2.2.2.2.1,a.2.2.2.2.2.1,a.2.2.2.2.2.2.1,())).bind λf=>
 bif(ae (f=b.2.1))then
 O (.inr (.inr (0,0,[],[],false)))
 else
 (Cl (a.2.2.2.2.1,a.2.2.2.2.2.1,a.2.2.2.2.2.2.1,()) f).bind λg=>
 bif ae (aeP a.2.2.2.2.2.2.2+aeP [f]<=lim)then
 O (.inl ((aW (a.1-20)),a.2.1,a.2.2.1,a.2.2.2.1,g.1,g.2.1,g.2.2.1,(a.2.2.2.2.2.2.2++[f])))
 else
 U
 else
 O (.inr (.inl (a.2.1,a.2.2.1,a.2.2.2.1,a.2.2.2.2.1,a.2.2.2.2.2.1,a.2.2.2.2.2.2.1,a.2.2.2.2.2.2.2))):Option ((Int×Int×Int×(List Int)×Int×Int×(List Int)×(List Int))⊕((Int×Int×(List Int)×Int×Int×(List Int)×(List Int))⊕(Int×Int×(List Int)×(List Int)×Bool))))) (e,0,0,[],b.1,b.2.1,h,[])).bind λi=>
 match i with
 |.inl d=>
  O ((d.2.2.2.1,d.2.2.2.2.1,d.2.2.2.2.2.1,()),d.2.2.2.2.2.2,true)
 |.inr c=>
  O ((c.1,c.2.1,c.2.2.1,()),c.2.2.2.1,c.2.2.2.2)
def ach:aR:=⟨[.val cE,vI],[.own cE,.own (.slice tI),rB],λx=>lX x.1 x.2⟩
theorem abA:SF 177 ach:=qV {eG [V2,ux,aac,abe,ZO] [2]with loops:=[(5,⟨[2],[.tv 1 tI,.bx 4 64 [.pv tI,.pv tI,.own 300066 tI true],.bx 7 112 [.pv tI,.pv tI,.own 400 tI true],.own 8 [] 200008 tI true],[(.exit 0,[.bx 4 64 [.pv tI,.pv tI,.own 300066 tI true],.bx 7 112 [.pv tI,.pv tI,.own 400 tI true],.own 8 [] 200008 tI true]),(.ret,[.bx 4 64 [.pv tI,.pv tI,.own 300066 tI true],.own 5 [] 200005 tI true,.tv 6 .bool])]⟩)]} Tryz.func177
def Co(c:List Int)(a:List Int)(b:Int):Option ((List Int)):=(aX (λ(st2:(List Int)×Int)=>(bif(ae (st2.2<(a.length:Int)))then(idx a st2.2).bind λd=>(idx c st2.2).bind λe=>bif ae (aeP st2.1+aeP [(aW ((agB (aW ((agB (aW ((aW (d-1))+(aW (b*e)))) 60)+60)) 60)+1))]<=lim)then O (.inl ((st2.1++[(aW ((agB (aW ((agB (aW ((aW (d-1))+(aW (b*e)))) 60)+60)) 60)+1))]),(aW (st2.2+1))))else U else O (.inr st2.1):Option (((List Int)×Int)⊕((List Int))))) ([],0)).bind λf=>O f
def YL:aR:=⟨[.val (.slice tI),.val (.slice tI),vI],[.own (.slice tI)],λx=>Co x.1 x.2.1 x.2.2⟩
theorem abZ:SF 238 YL:=qV {eG []with loops:=[(3,⟨[0,2,10,11],[.own 7 [] 200007 tI true,.tv 12 tI],[(.exit 0,[.own 7 [] 200007 tI true])]⟩)]} Tryz.func238
def q9(b:List Int):Option (Int):=(iR b).bind λr1=>bif ae (aeP r1+aeP [3,7]<=lim)then(aX (λ(a:Int×(List Int)×Int)=>(bif(ae (a.2.2<((r1++[3,7]).length:Int)))then bif ae (0<=a.2.2)&&ae (a.2.2<(a.2.1.length:Int))then(a.2.1[(agC a.2.2)]?).bind λc=>O (.inl ((agB (aW ((agB (aW ((aW ((aW (19*a.1))+c))+23)) 1000003)*(aW ((aW (agA (agB (aW ((aW ((aW (19*a.1))+c))+23)) 1000003) 16))+11)))) 1000003),a.2.1,(aW (a.2.2+1))))else U else O (.inr a.1):Option ((Int×(List Int)×Int)⊕(Int)))) ((aW (6907+(b.length:Int))),(r1++[3,7]),0)).bind λd=>O d else U
def XC:aR:=⟨[.val (.slice tI)],[rI],λx=>q9 x⟩
theorem X7:SF 289 XC:=qV {eG [V2]with loops:=[(3,⟨[13],[.tv 3 tI,.own 12 [] 160 tI true,.tv 14 tI],[(.exit 0,[.tv 3 tI])]⟩)]} Tryz.func289
def yN(b:bM)(a:Int):Option ((List Int)):=(aX (λ(st2:(List Int)×Int)=>(bif(ae (st2.2<20))then(q9 [b.1,a,st2.2]).bind λr3=>bif ae (aeP st2.1+aeP [(agB r3 60)]<=lim)then O (.inl ((st2.1++[(agB r3 60)]),(aW (st2.2+1))))else U else O (.inr st2.1):Option (((List Int)×Int)⊕((List Int))))) ([],0)).bind λo4=>O o4
def abD:aR:=⟨[.val cE,vI],[.own (.slice tI)],λx=>yN x.1 x.2⟩
theorem XS:SF 239 abD:=qV {eG [X7] [2]with loops:=[(3,⟨[1,2],[.own 5 [] 200005 tI true,.tv 6 tI],[(.exit 0,[.own 5 [] 200005 tI true])]⟩)]} Tryz.func239
def CD(d:bM)(b:List Int)(a:List Int)(c:Int):Option ((List Int)):=(aX (λ(st2:(List Int)×Int)=>(bif(ae (st2.2<(b.length:Int)))then(idx b st2.2).bind λf=>(py (a.length:Int) (aW ((aW (st2.2+1))*20))).bind λg=>(yN d f).bind λh=>(sub a (aW (st2.2*20)) g).bind λi=>(Co h i c).bind λe=>bif ae (aeP st2.1+aeP e<=lim)then O (.inl ((st2.1++e),(aW (st2.2+1))))else U else O (.inr st2.1):Option (((List Int)×Int)⊕((List Int))))) ([],0)).bind λj=>O j
def aam:aR:=⟨[.val cE,.val (.slice tI),.val (.slice tI),vI],[.own (.slice tI)],λx=>CD x.1 x.2.1 x.2.2.1 x.2.2.2⟩
theorem Z1:SF 178 aam:=qV {eG [WA,abZ,XS] [4]with loops:=[(3,⟨[2,3,4,13,14],[.own 9 [] 200009 tI true,.tv 15 tI],[(.exit 0,[.own 9 [] 200009 tI true])]⟩)]} Tryz.func178
def jk(b:bM)(a:List Int):Option (bM×wm×Bool):=(bif(ae (60<(a.length:Int)))then O true else(tE a).bind λr1=>O (!r1)).bind λc2=>bif c2 then O ((0,0,[],()),([],[],()),false)else(lX b (a.length:Int)).bind λr3=>bif(!r3.2.2)then O ((0,0,[],()),([],[],()),false)else(λx=>bN x x) ((CD b r3.2.1 a 1).bind λc=>O (r3.1,(r3.2.1,c,()),true))
def aab:aR:=⟨[.val cE,.val (.slice tI)],[.own cE,.own rV,rB],λx=>jk x.1 x.2⟩
theorem XA:SF 134 aab:=qV {eG [Zb,abA,Z1] [2]with every:=[6]} Tryz.func134
def zo(a:List Int):Option (Bytes):=(aX (λ(st2:Bytes×Int)=>(bif(ae (st2.2<(a.length:Int)))then(idx a st2.2).bind λb=>bif(ae (0<st2.2))then bif ae (aeP st2.1+aeP ([32]:Bytes)<=lim)then(dZ b).bind λc=>bif ae (aeP (st2.1++([32]:Bytes))+aeP c<=lim)then O (.inl (((st2.1++([32]:Bytes))++c),(aW (st2.2+1))))else U else U else(dZ b).bind λd=>bif ae (aeP st2.1+aeP d<=lim)then O (.inl ((st2.1++d),(aW (st2.2+1))))else U else O (.inr st2.1):Option ((Bytes×Int)⊕(Bytes)))) ([],0)).bind λe=>O e
def acf:aR:=⟨[.val (.slice tI)],[rS],λx=>zo x⟩
theorem abp:SF 179 acf:=qV {eG [VJ]with loops:=[(3,⟨[6,7],[.tv 3 .str,.tv 8 tI],[(.exit 0,[.tv 3 .str])]⟩)]} Tryz.func179
def zm(a:wm):Option (Bytes):=(aX (λ(st2:Bytes×Int)=>(bif(ae (st2.2<(a.1.length:Int)))then(idx a.1 st2.2).bind λc=>bif(ae (0<st2.2))then bif ae (aeP st2.1+aeP ([43]:Bytes)<=lim)then(dZ c).bind λd=>bif ae (aeP (st2.1++([43]:Bytes))+aeP d<=lim)then O (.inl (((st2.1++([43]:Bytes))++d),(aW (st2.2+1))))else U else U else(dZ c).bind λe=>bif ae (aeP st2.1+aeP e<=lim)then O (.inl ((st2.1++e),(aW (st2.2+1))))else U else O (.inr st2.1):Option ((Bytes×Int)⊕(Bytes)))) ([],0)).bind λb=>bif ae (aeP b+aeP ([58]:Bytes)<=lim)then(zo a.2.1).bind λf=>bif ae (aeP (b++([58]:Bytes))+aeP f<=lim)then O ((b++([58]:Bytes))++f)else U else U
def acu:aR:=⟨[.val rV],[rS],λx=>zm x⟩
theorem Yo:SF 135 acu:=qV {eG [VJ,abp] [1]with loops:=[(3,⟨[1,7,8],[.tv 3 .str,.tv 9 tI],[(.exit 0,[.tv 3 .str])]⟩)]} Tryz.func135
def jV(a:cB)(b:List Int):Option (cB×Bytes):=(jk a.2.2.2.1 b).bind λr1=>bif(!r1.2.2)then O (a,([110,111]:Bytes))else(zm r1.2.1).bind λr2=>O ((a.1,a.2.1,a.2.2.1,r1.1,a.2.2.2.2),r2)
def YZ:aR:=⟨[.cK gM,.val (.slice tI)],[rS],λx=>jV x.1 x.2⟩
theorem abU:SF 103 YZ:=qX (eG [XA,Yo]) Tryz.func103
def tF(a:aT):Option (Bool):=(cM a.1 1 999).bind λr1=>(bif r1 then(cM a.2.1 1 9).bind λr2=>O r2 else O false).bind λc3=>(bif c3 then(pR a.2.2.1 0 (aW (a.2.1-1))).bind λb=>O b else O false).bind λc5=>(bif c5 then(cM a.2.2.2.1 0 2).bind λc=>O c else O false).bind λd=>(bif d then O ((ae ((a.2.2.1.length:Int)=a.2.1))==(ae (a.2.2.2.1=1)))else O false).bind λe=>O e
def ZQ:aR:=⟨[.val bt],[rB],λx=>tF x⟩
theorem acd:SF 243 ZQ:=qV (eG [ux,Xa] [1]) Tryz.func243
def vh(a:List aT):Option (Bool):=
 (aX (λ(st2:Int)=>(
 bif(ae (st2<(a.length:Int)))then
 (idx a st2).bind λc=>
 (tF c).bind λd=>
 (bif(!d)then
 O true
 else
 (bif(ae (0<st2))then
 (idx a (aW (st2-1))).bind λe=>
 O (ae (c.1<=e.1))
 else
 O false).bind λf=>
 O f).bind λg=>
 bif g then
 O (.inr (.inr false))
 else
 O (.inl (aW (st2+1)))
 else
 O (.inr (.inl ())):Option ((Int)⊕(Unit⊕Bool)))) 0).bind λh=>
 match h with
 |.inl _=>
  O (ae ((a.length:Int)<=20))
 |.inr b=>
  O b
def ZN:aR:=⟨[.val (.slice bt)],[rB],λx=>vh x⟩
theorem W7:SF 182 ZN:=qV {eG [acd]with loops:=[(2,⟨[0,5,6],[.tv 7 tI],[(.exit 0,[]),(.ret,[.tv 2 .bool])]⟩)]} Tryz.func182
def wP(b:List aT):Option ((List aT)):=(aX (λ(st2:(List aT)×Int)=>(bif(ae (st2.2<(b.length:Int)))then(idx b st2.2).bind λa=>(iR a.2.2.1).bind λc=>bif ae (aeP st2.1+aeP [(a.1,a.2.1,c,a.2.2.2)]<=lim)then O (.inl ((st2.1++[(a.1,a.2.1,c,a.2.2.2)]),(aW (st2.2+1))))else U else O (.inr st2.1):Option (((List aT)×Int)⊕((List aT))))) ([],0)).bind λd=>O d
def abQ:aR:=⟨[.val (.slice bt)],[.own (.slice bt)],λx=>wP x⟩
theorem VZ:SF 242 abQ:=qV {eG [V2]with loops:=[(3,⟨[6,7],[.own 3 [] 200003 bt true,.tv 8 tI],[(.exit 0,[.own 3 [] 200003 bt true])]⟩)],mv:=true} Tryz.func242
def tM(c:List aT)(a:Int)(b:Int):Option ((List aT)×Bool):=(aX (λ(st2:Int)=>((bif(ae (st2<(c.length:Int)))then(idx c st2).bind λh=>O (ae (h.1<a))else O false).bind λc4=>bif c4 then O (.inl (aW (st2+1)))else O (.inr st2):Option ((Int)⊕(Int)))) 0).bind λg=>(sub c 0 g).bind λi=>(sub c g (c.length:Int)).bind λj=>(λx=>bN x x) ((wP i).bind λd=>bif ae (aeP d+aeP ([(a,b,[],0,())]:List aT)<=lim)then(wP j).bind λe=>bif ae (aeP (d++([(a,b,[],0,())]:List aT))+aeP e<=lim)then(vh ((d++([(a,b,[],0,())]:List aT))++e)).bind λf=>bif(!f)then O ([],false)else O (((d++([(a,b,[],0,())]:List aT))++e),true)else U else U)
def abL:aR:=⟨[.val (.slice bt),vI,vI],[.own (.slice bt),rB],λx=>tM x.1 x.2.1 x.2.2⟩
theorem aaW:SF 240 abL:=qV {eG [W7,VZ]with loops:=[(2,⟨[0,1,2],[.tv 8 tI],[(.exit 0,[.tv 8 tI])]⟩)],mv:=true,every:=[4]} Tryz.func240
def vU(b:List aT)(a:Int):Option (Int):=
 (aX (λ(st2:Int)=>(
 bif(ae (st2<(b.length:Int)))then
 (idx b st2).bind λc=>
 bif(ae (c.1=a))then
 O (.inr (.inr st2))
 else
 O (.inl (aW (st2+1)))
 else
 O (.inr (.inl ())):Option ((Int)⊕(Unit⊕Int)))) 0).bind λo4=>
 match o4 with
 |.inl _=>
  O (-1)
 |.inr y6=>
  O y6
def Z4:aR:=⟨[.val (.slice bt),vI],[rI],λx=>vU x.1 x.2⟩
theorem Xl:SF 181 Z4:=qV {eG []with loops:=[(2,⟨[1,7,8],[.tv 9 tI],[(.exit 0,[]),(.ret,[.tv 4 tI])]⟩)]} Tryz.func181
def uZ(b:List aT)(a:Int):Option (Int):=(vU b a).bind λr1=>(bif(ae (0<=r1))then(idx b r1).bind λc=>O (!decide (c.2.2.2.1=0))else O false).bind λc3=>bif c3 then O (-1)else O r1
def abf:aR:=⟨[.val (.slice bt),vI],[rI],λx=>uZ x.1 x.2⟩
theorem Y7:SF 241 abf:=qV (eG [Xl]) Tryz.func241
def kz(d:List aT)(b:aO):Option ((List aT)×Bool):=bif(ae (b.1=1))then(tM d b.2.1 b.2.2.1).bind λr1=>O (r1.1,r1.2)else(uZ d b.2.1).bind λr2=>bif(ae (r2<0))then O ([],false)else(wP d).bind λr3=>bif ae (0<=r2)&&ae (r2<(r3.length:Int))then bif(ae (b.1=3))then(r3[(agC r2)]?).bind λg=>O ((r3.set (agC r2) (g.1,g.2.1,g.2.2.1,2,())),true)else(bif(ae (b.1=2))then(r3[(agC r2)]?).bind λm=>(cM b.2.2.1 0 (aW (m.2.1-1))).bind λn=>O n else O false).bind λo=>bif o then(r3[(agC r2)]?).bind λl=>(ko l.2.2.1 b.2.2.1).bind λc9=>bif c9 then bif ae2 (agC r2) (agC r2)then(r3[(agC r2)]?).bind λh=>(r3[(agC r2)]?).bind λi=>bif(ae ((h.2.2.1.length:Int)=i.2.1))then(r3[(agC r2)]?).bind λe=>O ((r3.set (agC r2) (e.1,e.2.1,e.2.2.1,1,())),true)else O (r3,true)else U else(nj l.2.2.1 b.2.2.1).bind λc=>(r3[(agC r2)]?).bind λa=>((r3.set (agC r2) (a.1,a.2.1,c,a.2.2.2))[(agC r2)]?).bind λj=>((r3.set (agC r2) (a.1,a.2.1,c,a.2.2.2))[(agC r2)]?).bind λk=>bif(ae ((j.2.2.1.length:Int)=k.2.1))then((r3.set (agC r2) (a.1,a.2.1,c,a.2.2.2))[(agC r2)]?).bind λf=>O (((r3.set (agC r2) (a.1,a.2.1,c,a.2.2.2)).set (agC r2) (f.1,f.2.1,f.2.2.1,1,())),true)else O ((r3.set (agC r2) (a.1,a.2.1,c,a.2.2.2)),true)else O ([],false)else U
def aan:aR:=⟨[.val (.slice bt),.val aU],[.own (.slice bt),rB],λx=>kz x.1 x.2⟩
theorem ZV:SF 180 aan:=qV {eG [ux,aaW,Y7,VZ]with ro:=[3],mv:=true,hoist:=[(12,[0])],sel:=[(51,vp)]} Tryz.func180 (hI:=Ep Ds ⟨_,Tryz.func51,by kernel_rfl,by kernel_rfl⟩ kQ)
def dN(a:cB)(d:Int)(b:Int)(c:Int):Option (cB×Bytes):=(kz a.2.2.2.2.1 (d,b,c,())).bind λr1=>bif r1.2 then(mg r1.2).bind λr2=>O ((a.1,a.2.1,a.2.2.1,a.2.2.2.1,r1.1,a.2.2.2.2.2),r2)else(mg r1.2).bind λr3=>O (a,r3)
def aaN:aR:=⟨[.cK gM,vI,vI,vI],[rS],λx=>dN x.1 x.2.1 x.2.2.1 x.2.2.2⟩
theorem ZY:SF 136 aaN:=qX (eG [Tb,ZV]) Tryz.func136
def jf(c:List aT)(a:Int):Option (Bytes×Bool):=(vU c a).bind λr1=>(vh c).bind λr2=>(bif(!r2)then O true else O (ae (r1<0))).bind λc3=>bif c3 then O ([],false)else(idx c r1).bind λe=>(dZ (e.2.2.1.length:Int)).bind λb=>bif ae (aeP ([32]:Bytes)+aeP b<=lim)then bif ae (aeP (([32]:Bytes)++b)+aeP ([47]:Bytes)<=lim)then(dZ e.2.1).bind λd=>bif ae (aeP ((([32]:Bytes)++b)++([47]:Bytes))+aeP d<=lim)then(dZ a).bind λf=>bif ae (aeP ([32,111,112,101,110]:Bytes)+aeP (((([32]:Bytes)++b)++([47]:Bytes))++d)<=lim)then bif ae (aeP ([32,102,97,105,108,101,100]:Bytes)+aeP (((([32]:Bytes)++b)++([47]:Bytes))++d)<=lim)then bif ae (0<=e.2.2.2.1)&&ae (e.2.2.2.1<([(([32,111,112,101,110]:Bytes)++(((([32]:Bytes)++b)++([47]:Bytes))++d)),([32,97,114,114,105,118,101,100]:Bytes),(([32,102,97,105,108,101,100]:Bytes)++(((([32]:Bytes)++b)++([47]:Bytes))++d))].length:Int))then([(([32,111,112,101,110]:Bytes)++(((([32]:Bytes)++b)++([47]:Bytes))++d)),([32,97,114,114,105,118,101,100]:Bytes),(([32,102,97,105,108,101,100]:Bytes)++(((([32]:Bytes)++b)++([47]:Bytes))++d))][(agC e.2.2.2.1)]?).bind λg=>bif ae (aeP f+aeP g<=lim)then O ((f++g),true)else U else U else U else U else U else U else U
def Xy:aR:=⟨[.val (.slice bt),vI],[rS,rB],λx=>jf x.1 x.2⟩
theorem X8:SF 137 Xy:=qV (eG [VJ,Xl,W7]) Tryz.func137
def KQ(b:List aO)(a:Int):Option ((List Int)):=(aX (λ(st2:(List Int)×Int)=>(bif(ae (st2.2<(b.length:Int)))then(idx b st2.2).bind λc=>(cM a c.2.1 (aW (c.2.2.1-1))).bind λd=>bif d then(ko st2.1 c.1).bind λc5=>bif c5 then O (.inl (st2.1,(aW (st2.2+1))))else(nj st2.1 c.1).bind λe=>O (.inl (e,(aW (st2.2+1))))else O (.inl (st2.1,(aW (st2.2+1))))else O (.inr st2.1):Option (((List Int)×Int)⊕((List Int))))) ([],0)).bind λf=>O f
def abh:aR:=⟨[.val (.slice aU),vI],[.own (.slice tI)],λx=>KQ x.1 x.2⟩
theorem Z8:SF 184 abh:=qV {eG [ux]with loops:=[(3,⟨[1,8,9],[.own 5 [] 200005 tI true,.tv 10 tI],[(.exit 0,[.own 5 [] 200005 tI true])]⟩)],sel:=[(51,vp)]} Tryz.func184 (hI:=Ep Ds ⟨_,Tryz.func51,by kernel_rfl,by kernel_rfl⟩ kQ)
def mR(b:List aO)(a:Int):Option ((List Int)×Bool):=(vG b).bind λr1=>(bif(!r1)then O true else(wa a).bind λr2=>O (!r2)).bind λc3=>bif c3 then O ([],false)else(KQ b a).bind λc=>O (c,true)
def aag:aR:=⟨[.val (.slice aU),vI],[.own (.slice tI),rB],λx=>mR x.1 x.2⟩
theorem YV:SF 138 aag:=qV (eG [Wp,Xq,Z8]) Tryz.func138
def Es(a:Int):Option (Bool):=(cM a 0 10000).bind λr1=>O r1
def Y9:aR:=⟨[vI],[rB],λx=>Es x⟩
theorem XW:SF 290 Y9:=qV (eG [ux]) Tryz.func290
def EO(a:b9)(b:List aO)(c:Int):Option (Bool):=(kM a).bind λr1=>(bif r1 then(sI a b).bind λr2=>O r2 else O false).bind λc3=>(bif c3 then(Es c).bind λd=>O d else O false).bind λc5=>O c5
def abz:aR:=⟨[.val dH,.val (.slice aU),vI],[rB],λx=>EO x.1 x.2.1 x.2.2⟩
theorem aaS:SF 244 abz:=qV (eG [Tf,VR,XW] [3]) Tryz.func244
def wo(a:b9)(b:Int):Option (Bool):=(cM b 0 (aW ((a.1.length:Int)-1))).bind λr1=>O r1
def Yb:aR:=⟨[.val dH,vI],[rB],λx=>wo x.1 x.2⟩
theorem ZW:SF 245 Yb:=qV (eG [ux] [2]) Tryz.func245
def pI(a:b9)(b:List aO)(c:Int)(d:Int)(e:Int):Option (Bool):=(EO a b e).bind λr1=>(bif r1 then(wo a c).bind λr2=>O r2 else O false).bind λc3=>(bif c3 then(wo a d).bind λf=>O f else O false).bind λc5=>O c5
def aaf:aR:=⟨[.val dH,.val (.slice aU),vI,vI,vI],[rB],λx=>pI x.1 x.2.1 x.2.2.1 x.2.2.2.1 x.2.2.2.2⟩
theorem WN:SF 185 aaf:=qV (eG [aaS,ZW] [5]) Tryz.func185
def ni(a:aO)(b:Int):Option (Int):=bif(ae (b=a.1))then O a.2.1 else bif(ae (b=a.2.1))then O a.1 else O (-1)
def XZ:aR:=⟨[.val aU,vI],[rI],λx=>ni x.1 x.2⟩
theorem Xi:SF 246 XZ:=qV (eG [] [2]) Tryz.func246
def wL(c:List aO)(b:Int)(e:Int)(a:Int):Option (Int):=(aX (λ(st2:Int×Int)=>(bif(ae (st2.2<(c.length:Int)))then(idx c st2.2).bind λd=>(bif(ae (d.1=b))then O (ae (st2.1<d.2.2.1))else O false).bind λc4=>(bif c4 then O (ae (d.2.1<(aW (st2.1+a))))else O false).bind λc5=>bif c5 then O (.inl (d.2.2.1,(aW (st2.2+1))))else O (.inl (st2.1,(aW (st2.2+1))))else O (.inr st2.1):Option ((Int×Int)⊕(Int)))) (e,0)).bind λf=>O f
def Zu:aR:=⟨[.val (.slice aU),vI,vI,vI],[rI],λx=>wL x.1 x.2.1 x.2.2.1 x.2.2.2⟩
theorem aaL:SF 291 Zu:=qV {eG []with loops:=[(2,⟨[1,3,11,12],[.tv 2 tI,.tv 13 tI],[(.exit 0,[.tv 2 tI])]⟩)]} Tryz.func291
def sJ(b:b9)(c:List aO)(a:Int)(d:Int):Option (Int):=(idx b.2.1 a).bind λe=>(wL c a d e.2.2.1).bind λr2=>O (aW (r2+e.2.2.1))
def aaC:aR:=⟨[.val dH,.val (.slice aU),vI,vI],[rI],λx=>sJ x.1 x.2.1 x.2.2.1 x.2.2.2⟩
theorem Wu:SF 247 aaC:=qV (eG [aaL] [4]) Tryz.func247
def nh(e:b9)(j:List aO)(f:Int)(k:Int):Option ((List Int)):=(aX (λ(st2:(List Int)×Int)=>(bif(ae (st2.2<(e.1.length:Int)))then bif ae (aeP st2.1+aeP [(-1)]<=lim)then O (.inl ((st2.1++[(-1)]),(aW (st2.2+1))))else U else O (.inr st2.1):Option (((List Int)×Int)⊕((List Int))))) ([],0)).bind λu=>bif ae (0<=f)&&ae (f<(u.length:Int))then bif ae (0<=(e.1.length:Int))&&ae ((e.1.length:Int)<=(e.1.length:Int))&&ae ((e.1.length:Int)<=lim)then(aX (λ(g:(List Int)×(List Bool))=>((aX (λ(b:(List Int)×(List Bool)×Int×Int)=>(bif(ae (b.2.2.2<(g.1.length:Int)))then bif ae (0<=b.2.2.2)&&ae (b.2.2.2<(b.1.length:Int))then(b.1[(agC b.2.2.2)]?).bind λv=>bif ae (0<=b.2.2.2)&&ae (b.2.2.2<(b.2.1.length:Int))then(b.2.1[(agC b.2.2.2)]?).bind λw=>(bif(!w)then O (ae (0<=v))else O false).bind λl=>(bif l then(bif(ae (b.2.2.1<0))then O true else bif ae (0<=b.2.2.1)&&ae (b.2.2.1<(b.1.length:Int))then(b.1[(agC b.2.2.1)]?).bind λm=>O (ae (v<m))else U).bind λc12=>O c12 else O false).bind λn=>bif n then O (.inl (b.1,b.2.1,b.2.2.2,(aW (b.2.2.2+1))))else O (.inl (b.1,b.2.1,b.2.2.1,(aW (b.2.2.2+1))))else U else U else O (.inr (b.1,b.2.1,b.2.2.1)):Option (((List Int)×(List Bool)×Int×Int)⊕(((List Int)×(List Bool)×Int))))) (g.1,g.2,(-1),0)).bind λc=>bif(ae (c.2.2<0))then O (.inr c.1)else bif ae (0<=c.2.2)&&ae (c.2.2<(c.2.1.length:Int))then(aX (λ(a:(List Int)×(List Bool)×Int)=>(bif(ae (a.2.2<(e.2.1.length:Int)))then(idx e.2.1 a.2.2).bind λo=>(ni o c.2.2).bind λd=>bif(ae (d<0))then O (.inl (a.1,a.2.1,(aW (a.2.2+1))))else bif ae (0<=c.2.2)&&ae (c.2.2<(a.1.length:Int))then(a.1[(agC c.2.2)]?).bind λp=>(sJ e j a.2.2 p).bind λh=>bif ae (0<=d)&&ae (d<(a.1.length:Int))then(a.1[(agC d)]?).bind λq=>(bif(ae (q<0))then O true else bif ae (0<=d)&&ae (d<(a.1.length:Int))then(a.1[(agC d)]?).bind λr=>O (ae (h<r))else U).bind λs=>bif s then bif ae (0<=d)&&ae (d<(a.1.length:Int))then O (.inl ((a.1.set (agC d) h),a.2.1,(aW (a.2.2+1))))else U else O (.inl (a.1,a.2.1,(aW (a.2.2+1))))else U else U else O (.inr (a.1,a.2.1)):Option (((List Int)×(List Bool)×Int)⊕(((List Int)×(List Bool)))))) (c.1,(c.2.1.set (agC c.2.2) true),0)).bind λi=>O (.inl (i.1,i.2))else U:Option (((List Int)×(List Bool))⊕((List Int))))) ((u.set (agC f) k),(aeU (agC (e.1.length:Int)) (false:Bool)))).bind λt=>O t else U else U
def abm:aR:=⟨[.val dH,.val (.slice aU),vI,vI],[.own (.slice tI)],λx=>nh x.1 x.2.1 x.2.2.1 x.2.2.2⟩
theorem WI:SF 186 abm:=qV {eG [Xi,Wu] [4]with loops:=[(3,⟨[1,2,3,4,20,48,49,52,53,54,55,56,57,58,59,60,61,98,99,100,101,102,103],[.own 9 [] 200009 tI true,.tv 21 tI],[(.exit 0,[.own 9 [] 200009 tI true])]⟩),(8,⟨[1,4],[.own 9 [] 200009 tI true,.own 10 [] 544 .bool true],[(.ret,[.own 8 [] 200009 tI true])]⟩),(10,⟨[1,4,36,98,99,100,101,102,103],[.own 9 [35] 200009 tI true,.own 10 [] 544 .bool true,.tv 11 tI,.tv 37 tI],[(.exit 4,[.own 9 [] 200009 tI true,.own 10 [] 544 .bool true,.tv 11 tI])]⟩),(19,⟨[1,4,11,48,49,52,53,54,55,56,57,58,59,60,61,72,73],[.own 9 [] 200009 tI true,.own 10 [] 544 .bool true,.tv 74 tI],[(.exit 6,[.own 9 [] 200009 tI true,.own 10 [] 544 .bool true])]⟩)]} Tryz.func186
def pW(b:b9)(e:List aO)(a:List Int)(c:Int):Option (Int):=(aX (λ(st2:Int×Int)=>(bif(ae (st2.2<(b.2.1.length:Int)))then(idx b.2.1 st2.2).bind λi=>(ni i c).bind λd=>(bif(ae (0<=d))then(idx a d).bind λj=>O (ae (0<=j))else O false).bind λk=>(bif k then(idx a d).bind λl=>(sJ b e st2.2 l).bind λm=>(idx a c).bind λn=>O (ae (m=n))else O false).bind λf=>(bif f then(bif(ae (st2.1<0))then O true else O (ae (d<st2.1))).bind λg=>O g else O false).bind λc12=>bif c12 then O (.inl (d,(aW (st2.2+1))))else O (.inl (st2.1,(aW (st2.2+1))))else O (.inr st2.1):Option ((Int×Int)⊕(Int)))) ((-1),0)).bind λh=>O h
def acx:aR:=⟨[.val dH,.val (.slice aU),.val (.slice tI),vI],[rI],λx=>pW x.1 x.2.1 x.2.2.1 x.2.2.2⟩
theorem Ym:SF 187 acx:=qV {eG [Xi,Wu] [4]with loops:=[(3,⟨[1,2,3,4,14,15],[.tv 9 tI,.tv 16 tI],[(.exit 0,[.tv 9 tI])]⟩)]} Tryz.func187
def iL(c:b9)(d:List aO)(e:Int)(b:Int)(f:Int):Option ((List Int)×Bool):=(pI c d e b f).bind λr1=>bif(!r1)then O ([],false)else(nh c d e f).bind λr2=>bif ae (0<=b)&&ae (b<(r2.length:Int))then(r2[(agC b)]?).bind λh=>bif(ae (h<0))then O ([],false)else(aX (λ(a:Int×(List Int)×(List Int))=>(bif(!decide (a.1=e))then(pW c d a.2.1 a.1).bind λg=>bif ae (aeP [g]+aeP a.2.2<=lim)then O (.inl (g,a.2.1,([g]++a.2.2)))else U else O (.inr a.2.2):Option ((Int×(List Int)×(List Int))⊕((List Int))))) (b,r2,[b])).bind λi=>O (i,true)else U
def aa9:aR:=⟨[.val dH,.val (.slice aU),vI,vI,vI],[.own (.slice tI),rB],λx=>iL x.1 x.2.1 x.2.2.1 x.2.2.2.1 x.2.2.2.2⟩
theorem aad:SF 139 aa9:=qV {eG [WN,WI,Ym] [5]with loops:=[(7,⟨[1,2,5],[.tv 3 tI,.own 12 [] 400 tI true,.own 13 [] 512 tI true],[(.exit 0,[.own 13 [] 512 tI true])]⟩)]} Tryz.func139
def fk(b:b9)(c:List aO)(d:Int)(a:Int)(e:Int):Option (Int×Bool):=(pI b c d a e).bind λr1=>bif(!r1)then O (0,false)else(nh b c d e).bind λr2=>bif ae (0<=a)&&ae (a<(r2.length:Int))then(r2[(agC a)]?).bind λf=>(su f 0).bind λg=>O (g,(ae (0<=f)))else U
def YX:aR:=⟨[.val dH,.val (.slice aU),vI,vI,vI],[rI,rB],λx=>fk x.1 x.2.1 x.2.2.1 x.2.2.2.1 x.2.2.2.2⟩
theorem acj:SF 140 YX:=qV (eG [WN,WI,Xd] [5]) Tryz.func140
def nD(a:cB)(c:Bytes)(b:List Int):Option (cB×Bytes):=bif(ae (c=ft))then(idx b 0).bind λv=>(idx b 1).bind λw=>(dN a 1 v w).bind λr3=>O (r3.1,r3.2)else bif(ae (c=eV))then(idx b 0).bind λx=>(idx b 1).bind λy=>(dN a 2 x y).bind λt=>O (t.1,t.2)else bif(ae (c=jJ))then(idx b 0).bind λz=>(dN a 3 z 0).bind λu=>O (u.1,u.2)else bif(ae (c=iT))then(idx b 0).bind λA=>(jf a.2.2.2.2.1 A).bind λd=>(kA d.1 d.2).bind λh=>O (a,h)else bif(ae (c=qj))then(idx b 0).bind λi=>(mR a.2.2.2.2.2.1 i).bind λe=>(jW e.1 e.2).bind λj=>O (a,j)else bif(ae (c=sY))then(idx b 0).bind λk=>(idx b 1).bind λl=>(idx b 2).bind λm=>(iL a.1 a.2.1 k l m).bind λf=>(jW f.1 f.2).bind λn=>O (a,n)else(idx b 0).bind λo=>(idx b 1).bind λp=>(idx b 2).bind λq=>(fk a.1 a.2.1 o p q).bind λg=>(dZ g.1).bind λr=>(kA r g.2).bind λs=>O (a,s)
def acm:aR:=⟨[.cK gM,vS,.val (.slice tI)],[rS],λx=>nD x.1 x.2.1 x.2.2⟩
theorem X5:SF 104 acm:=qX (eG [VJ,C7,Vt,ZY,X8,YV,aad,acj]) Tryz.func104
def fl(a:cB)(h:Bytes):Option (cB×Bytes):=(s9 h 32).bind λr1=>(wG r1).bind λr2=>bif(!r2.2.2)then O (a,eE)else bif ae (0<=0)&&ae (0<(r1.length:Int))then(r1[(agC 0)]?).bind λb=>bif(ae (b=cd))then(lA [(a.1.1.length:Int),(a.1.2.1.length:Int)]).bind λo=>O (a,o)else bif(ae (b=dR))then(fJ a.2.2.1 r2.1).bind λk=>(jW k.1 k.2).bind λp=>O (a,p)else bif(ae (b=cu))then(km a r2.1 r2.2.1).bind λl=>O (l.1,l.2)else bif(ae (b=ig))then(gN a r2.2.1).bind λm=>O (m.1,m.2)else bif(ae (b=kx))then(iH a r2.2.1).bind λn=>O (n.1,n.2)else bif(ae (b=oM))then(jh a r2.2.1).bind λc=>O (c.1,c.2)else bif(ae (b=jC))then(gP a r2.2.1).bind λd=>O (d.1,d.2)else bif(ae (b=gY))then(gW a.2.2.1 r2.2.1).bind λe=>(kA e.1 e.2).bind λi=>O (a,i)else bif(ae (b=jq))then(jV a r2.2.1).bind λf=>O (f.1,f.2)else bif ae (0<=0)&&ae (0<(r1.length:Int))then(r1[(agC 0)]?).bind λj=>(nD a j r2.2.1).bind λg=>O (g.1,g.2)else U else U
def C74:aR:=⟨[.cK gM,vS],[rS],λx=>fl x.1 x.2⟩
theorem S74:SF 74 C74:=qX (eG [S85,S92,S6,C7,S95,S96,S97,S98,S99,XV,Vt,Z6,abU,X5]) Tryz.func74
def oO(c:Bytes):Option (cB×Bytes×Bool):=(Bo).bind λr1=>(mP c).bind λr2=>bif(!r2.2)then O (r1,[],false)else(aX (λ(a:(List aO)×(List aO)×(List aO)×(List aV)×Int×Int×(List Int)×(List aT)×(List aO)×(List Int)×(List Int)×Int×Bytes×Int)=>(bif(ae (a.2.2.2.2.2.2.2.2.2.2.2.2.2<(r2.1.length:Int)))then(idx r2.1 a.2.2.2.2.2.2.2.2.2.2.2.2.2).bind λe=>(fl ((a.1,a.2.1,()),a.2.2.1,(a.2.2.2.1,()),(a.2.2.2.2.1,a.2.2.2.2.2.1,a.2.2.2.2.2.2.1,()),a.2.2.2.2.2.2.2.1,a.2.2.2.2.2.2.2.2.1,a.2.2.2.2.2.2.2.2.2.1,a.2.2.2.2.2.2.2.2.2.2.1,a.2.2.2.2.2.2.2.2.2.2.2.1,()) e).bind λb=>bif(ae (b.2=([110,111]:Bytes)))then bif ae (aeP b.1.2.2.2.2.2.2.1+aeP [(aW (a.2.2.2.2.2.2.2.2.2.2.2.2.2+1))]<=lim)then bif ae (aeP b.2+aeP ([10]:Bytes)<=lim)then bif ae (aeP a.2.2.2.2.2.2.2.2.2.2.2.2.1+aeP (b.2++([10]:Bytes))<=lim)then O (.inl (b.1.1.1,b.1.1.2.1,b.1.2.1,b.1.2.2.1.1,b.1.2.2.2.1.1,b.1.2.2.2.1.2.1,b.1.2.2.2.1.2.2.1,b.1.2.2.2.2.1,b.1.2.2.2.2.2.1,(b.1.2.2.2.2.2.2.1++[(aW (a.2.2.2.2.2.2.2.2.2.2.2.2.2+1))]),b.1.2.2.2.2.2.2.2.1,b.1.2.2.2.2.2.2.2.2.1,(a.2.2.2.2.2.2.2.2.2.2.2.2.1++(b.2++([10]:Bytes))),(aW (a.2.2.2.2.2.2.2.2.2.2.2.2.2+1))))else U else U else U else bif(ae (b.2=eE))then bif ae (aeP b.1.2.2.2.2.2.2.2.1+aeP [(aW (a.2.2.2.2.2.2.2.2.2.2.2.2.2+1))]<=lim)then bif ae (aeP b.2+aeP ([10]:Bytes)<=lim)then bif ae (aeP a.2.2.2.2.2.2.2.2.2.2.2.2.1+aeP (b.2++([10]:Bytes))<=lim)then O (.inl (b.1.1.1,b.1.1.2.1,b.1.2.1,b.1.2.2.1.1,b.1.2.2.2.1.1,b.1.2.2.2.1.2.1,b.1.2.2.2.1.2.2.1,b.1.2.2.2.2.1,b.1.2.2.2.2.2.1,b.1.2.2.2.2.2.2.1,(b.1.2.2.2.2.2.2.2.1++[(aW (a.2.2.2.2.2.2.2.2.2.2.2.2.2+1))]),b.1.2.2.2.2.2.2.2.2.1,(a.2.2.2.2.2.2.2.2.2.2.2.2.1++(b.2++([10]:Bytes))),(aW (a.2.2.2.2.2.2.2.2.2.2.2.2.2+1))))else U else U else U else bif ae (aeP b.2+aeP ([10]:Bytes)<=lim)then bif ae (aeP a.2.2.2.2.2.2.2.2.2.2.2.2.1+aeP (b.2++([10]:Bytes))<=lim)then O (.inl (b.1.1.1,b.1.1.2.1,b.1.2.1,b.1.2.2.1.1,b.1.2.2.2.1.1,b.1.2.2.2.1.2.1,b.1.2.2.2.1.2.2.1,b.1.2.2.2.2.1,b.1.2.2.2.2.2.1,b.1.2.2.2.2.2.2.1,b.1.2.2.2.2.2.2.2.1,b.1.2.2.2.2.2.2.2.2.1,(a.2.2.2.2.2.2.2.2.2.2.2.2.1++(b.2++([10]:Bytes))),(aW (a.2.2.2.2.2.2.2.2.2.2.2.2.2+1))))else U else U else O (.inr (a.1,a.2.1,a.2.2.1,a.2.2.2.1,a.2.2.2.2.1,a.2.2.2.2.2.1,a.2.2.2.2.2.2.1,a.2.2.2.2.2.2.2.1,a.2.2.2.2.2.2.2.2.1,a.2.2.2.2.2.2.2.2.2.1,a.2.2.2.2.2.2.2.2.2.2.1,a.2.2.2.2.2.2.2.2.2.2.2.1,a.2.2.2.2.2.2.2.2.2.2.2.2.1)):Option (((List aO)×(List aO)×(List aO)×(List aV)×Int×Int×(List Int)×(List aT)×(List aO)×(List Int)×(List Int)×Int×Bytes×Int)⊕(((List aO)×(List aO)×(List aO)×(List aV)×Int×Int×(List Int)×(List aT)×(List aO)×(List Int)×(List Int)×Int×Bytes))))) (r1.1.1,r1.1.2.1,r1.2.1,r1.2.2.1.1,r1.2.2.2.1.1,r1.2.2.2.1.2.1,r1.2.2.2.1.2.2.1,r1.2.2.2.2.1,r1.2.2.2.2.2.1,r1.2.2.2.2.2.2.1,r1.2.2.2.2.2.2.2.1,r1.2.2.2.2.2.2.2.2.1,[],0)).bind λd=>O (((d.1,d.2.1,()),d.2.2.1,(d.2.2.2.1,()),(d.2.2.2.2.1,d.2.2.2.2.2.1,d.2.2.2.2.2.2.1,()),d.2.2.2.2.2.2.2.1,d.2.2.2.2.2.2.2.2.1,d.2.2.2.2.2.2.2.2.2.1,d.2.2.2.2.2.2.2.2.2.2.1,(r2.1.length:Int),()),d.2.2.2.2.2.2.2.2.2.2.2.2,true)
def C46:aR:=⟨[vS],[.ob gM,rS,rB],λx=>oO x⟩
theorem VE:SF 46 C46:=qV {eG [S5,S73,S74]with loops:=[(7,⟨[6,21,22],[.bx 5 192 [.own 193 aU true,.own 194 aU true,.own 195 aU true,.own 196 bJ true,.pv tI,.pv tI,.own 197 tI true,.own 198 bt true,.own 199 aU true,.own 200 tI true,.own 201 tI true,.pv tI],.tv 8 .str,.tv 23 tI],[(.exit 0,[.bx 5 192 [.own 193 aU true,.own 194 aU true,.own 195 aU true,.own 196 bJ true,.pv tI,.pv tI,.own 197 tI true,.own 198 bt true,.own 199 aU true,.own 200 tI true,.own 201 tI true,.pv tI],.tv 8 .str])]⟩)]} Tryz.func46
def qx(a:Bytes):Option (b9×Bool):=(oO a).bind λr1=>bif(!r1.2.2)then O (([],[],()),false)else O (r1.1.1,true)
def C29:aR:=⟨[vS],[.own dH,rB],λx=>qx x⟩
theorem S29:SF 29 C29:=qV (eG [VE]) Tryz.func29
def eT(b:Bytes)(a:Bytes):Option (Bool):=(bif(ae ((a.length:Int)<=(b.length:Int)))then(sub b (aW ((b.length:Int)-(a.length:Int))) (b.length:Int)).bind λc=>O (ae (c=a))else O false).bind λc2=>O c2
def XM:aR:=⟨[vS,vS],[rB],λx=>eT x.1 x.2⟩
theorem YF:SF 226 XM:=qV (eG []) Tryz.func226
def eQ(b:Bytes)(a:Bytes):Option (Bytes×Bool):=(eT b a).bind λr1=>bif(!r1)then O (b,false)else(sub b 0 (aW ((b.length:Int)-(a.length:Int)))).bind λc=>O (c,true)
def XI:aR:=⟨[vS,vS],[rS,rB],λx=>eQ x.1 x.2⟩
theorem aay:SF 162 XI:=qV (eG [YF]) Tryz.func162
def jw(b:Bytes)(a:Bytes):Option (Bytes×Bool):=(eQ b a).bind λr1=>O (r1.1,r1.2)
def YA:aR:=⟨[vS,vS],[rS,rB],λx=>jw x.1 x.2⟩
theorem Yf:SF 114 YA:=qV (eG [aay]) Tryz.func114
def A7(a:Bytes):Option ((List Bytes)×Bool):=bif(ae (a=[]))then O ([],true)else(jw a ([10]:Bytes)).bind λr1=>bif(!r1.2)then O ([],false)else(tC r1.1 ([10]:Bytes)).bind λr2=>O (r2,true)
def C84:aR:=⟨[vS],[.own (.slice .str),rB],λx=>A7 x⟩
theorem S84:SF 84 C84:=qV (eG [WR,Yf]) Tryz.func84
def gT(a:Bytes):Option ((List Bytes)×Bool):=bif(ae (2000<(a.length:Int)))then O ([],false)else(A7 a).bind λr1=>(bif(!r1.2)then O true else O (ae (40<(r1.1.length:Int)))).bind λc2=>bif c2 then O ([],false)else O (r1.1,true)
def C65:aR:=⟨[vS],[.own (.slice .str),rB],λx=>gT x⟩
theorem x7:SF 65 C65:=qV (eG [S84]) Tryz.func65
def fZ(c:Bytes):Option (Hq×Bool):=(gT c).bind λr1=>bif(!r1.2)then O ((([],[],()),[],([],()),(0,0,[],()),[],[],[],()),false)else(aX (λ(a:(List aO)×(List aO)×(List aO)×(List aV)×Int×Int×(List Int)×(List aT)×(List aO)×(List Bytes)×(List aO)×(List aO)×(List aO)×(List aV)×Int×Int×(List Int)×(List aT)×(List aO)×(List Bytes)×(List Bytes)×Int)=>(bif(ae (a.2.2.2.2.2.2.2.2.2.2.2.2.2.2.2.2.2.2.2.2.2<(r1.1.length:Int)))then bif ae (0<=a.2.2.2.2.2.2.2.2.2.2.2.2.2.2.2.2.2.2.2.2.2)&&ae (a.2.2.2.2.2.2.2.2.2.2.2.2.2.2.2.2.2.2.2.2.2<(a.2.2.2.2.2.2.2.2.2.2.2.2.2.2.2.2.2.2.2.2.1.length:Int))then(a.2.2.2.2.2.2.2.2.2.2.2.2.2.2.2.2.2.2.2.2.1[(agC a.2.2.2.2.2.2.2.2.2.2.2.2.2.2.2.2.2.2.2.2.2)]?).bind λf=>bN ((pV ((a.2.2.2.2.2.2.2.2.2.2.1,a.2.2.2.2.2.2.2.2.2.2.2.1,()),a.2.2.2.2.2.2.2.2.2.2.2.2.1,(a.2.2.2.2.2.2.2.2.2.2.2.2.2.1,()),(a.2.2.2.2.2.2.2.2.2.2.2.2.2.2.1,a.2.2.2.2.2.2.2.2.2.2.2.2.2.2.2.1,a.2.2.2.2.2.2.2.2.2.2.2.2.2.2.2.2.1,()),a.2.2.2.2.2.2.2.2.2.2.2.2.2.2.2.2.2.1,a.2.2.2.2.2.2.2.2.2.2.2.2.2.2.2.2.2.2.1,()) f).bind λd=>bif ae (aeP a.2.2.2.2.2.2.2.2.2.2.2.2.2.2.2.2.2.2.2.1+aeP [d.2]<=lim)then O (.inl (a.1,a.2.1,a.2.2.1,a.2.2.2.1,a.2.2.2.2.1,a.2.2.2.2.2.1,a.2.2.2.2.2.2.1,a.2.2.2.2.2.2.2.1,a.2.2.2.2.2.2.2.2.1,a.2.2.2.2.2.2.2.2.2.1,d.1.1.1,d.1.1.2.1,d.1.2.1,d.1.2.2.1.1,d.1.2.2.2.1.1,d.1.2.2.2.1.2.1,d.1.2.2.2.1.2.2.1,d.1.2.2.2.2.1,d.1.2.2.2.2.2.1,(a.2.2.2.2.2.2.2.2.2.2.2.2.2.2.2.2.2.2.2.1++[d.2]),a.2.2.2.2.2.2.2.2.2.2.2.2.2.2.2.2.2.2.2.2.1,(aW (a.2.2.2.2.2.2.2.2.2.2.2.2.2.2.2.2.2.2.2.2.2+1))))else U) ((pV ((a.2.2.2.2.2.2.2.2.2.2.1,a.2.2.2.2.2.2.2.2.2.2.2.1,()),a.2.2.2.2.2.2.2.2.2.2.2.2.1,(a.2.2.2.2.2.2.2.2.2.2.2.2.2.1,()),(a.2.2.2.2.2.2.2.2.2.2.2.2.2.2.1,a.2.2.2.2.2.2.2.2.2.2.2.2.2.2.2.1,a.2.2.2.2.2.2.2.2.2.2.2.2.2.2.2.2.1,()),a.2.2.2.2.2.2.2.2.2.2.2.2.2.2.2.2.2.1,a.2.2.2.2.2.2.2.2.2.2.2.2.2.2.2.2.2.2.1,()) f).bind λb=>bN (bif ae (aeP a.2.2.2.2.2.2.2.2.2.2.2.2.2.2.2.2.2.2.2.1+aeP [b.2]<=lim)then O (.inl (a.1,a.2.1,a.2.2.1,a.2.2.2.1,a.2.2.2.2.1,a.2.2.2.2.2.1,a.2.2.2.2.2.2.1,a.2.2.2.2.2.2.2.1,a.2.2.2.2.2.2.2.2.1,a.2.2.2.2.2.2.2.2.2.1,b.1.1.1,b.1.1.2.1,b.1.2.1,b.1.2.2.1.1,b.1.2.2.2.1.1,b.1.2.2.2.1.2.1,b.1.2.2.2.1.2.2.1,b.1.2.2.2.2.1,b.1.2.2.2.2.2.1,(a.2.2.2.2.2.2.2.2.2.2.2.2.2.2.2.2.2.2.2.1++[b.2]),a.2.2.2.2.2.2.2.2.2.2.2.2.2.2.2.2.2.2.2.2.1,(aW (a.2.2.2.2.2.2.2.2.2.2.2.2.2.2.2.2.2.2.2.2.2+1))))else U) (bif ae (aeP a.2.2.2.2.2.2.2.2.2.2.2.2.2.2.2.2.2.2.2.1+aeP [b.2]<=lim)then O (.inl (a.1,a.2.1,a.2.2.1,a.2.2.2.1,a.2.2.2.2.1,a.2.2.2.2.2.1,a.2.2.2.2.2.2.1,a.2.2.2.2.2.2.2.1,a.2.2.2.2.2.2.2.2.1,a.2.2.2.2.2.2.2.2.2.1,b.1.1.1,b.1.1.2.1,b.1.2.1,b.1.2.2.1.1,b.1.2.2.2.1.1,b.1.2.2.2.1.2.1,b.1.2.2.2.1.2.2.1,b.1.2.2.2.2.1,b.1.2.2.2.2.2.1,(a.2.2.2.2.2.2.2.2.2.2.2.2.2.2.2.2.2.2.2.1++[b.2]),a.2.2.2.2.2.2.2.2.2.2.2.2.2.2.2.2.2.2.2.2.1,(aW (a.2.2.2.2.2.2.2.2.2.2.2.2.2.2.2.2.2.2.2.2.2+1))))else U))else U else O (.inr (a.1,a.2.1,a.2.2.1,a.2.2.2.1,a.2.2.2.2.1,a.2.2.2.2.2.1,a.2.2.2.2.2.2.1,a.2.2.2.2.2.2.2.1,a.2.2.2.2.2.2.2.2.1,a.2.2.2.2.2.2.2.2.2.1,a.2.2.2.2.2.2.2.2.2.2.1,a.2.2.2.2.2.2.2.2.2.2.2.1,a.2.2.2.2.2.2.2.2.2.2.2.2.1,a.2.2.2.2.2.2.2.2.2.2.2.2.2.1,a.2.2.2.2.2.2.2.2.2.2.2.2.2.2.1,a.2.2.2.2.2.2.2.2.2.2.2.2.2.2.2.1,a.2.2.2.2.2.2.2.2.2.2.2.2.2.2.2.2.1,a.2.2.2.2.2.2.2.2.2.2.2.2.2.2.2.2.2.1,a.2.2.2.2.2.2.2.2.2.2.2.2.2.2.2.2.2.2.1,a.2.2.2.2.2.2.2.2.2.2.2.2.2.2.2.2.2.2.2.1)):Option (((List aO)×(List aO)×(List aO)×(List aV)×Int×Int×(List Int)×(List aT)×(List aO)×(List Bytes)×(List aO)×(List aO)×(List aO)×(List aV)×Int×Int×(List Int)×(List aT)×(List aO)×(List Bytes)×(List Bytes)×Int)⊕(((List aO)×(List aO)×(List aO)×(List aV)×Int×Int×(List Int)×(List aT)×(List aO)×(List Bytes)×(List aO)×(List aO)×(List aO)×(List aV)×Int×Int×(List Int)×(List aT)×(List aO)×(List Bytes)))))) ([],[],[],[],0,0,[],[],[],[],[(0,0,20,())],[],[],[(([97]:Bytes),[1],())],7,10,[],[],[],[],r1.1,0)).bind λe=>O (((e.2.2.2.2.2.2.2.2.2.2.1,e.2.2.2.2.2.2.2.2.2.2.2.1,()),e.2.2.2.2.2.2.2.2.2.2.2.2.1,(e.2.2.2.2.2.2.2.2.2.2.2.2.2.1,()),(e.2.2.2.2.2.2.2.2.2.2.2.2.2.2.1,e.2.2.2.2.2.2.2.2.2.2.2.2.2.2.2.1,e.2.2.2.2.2.2.2.2.2.2.2.2.2.2.2.2.1,()),e.2.2.2.2.2.2.2.2.2.2.2.2.2.2.2.2.2.1,e.2.2.2.2.2.2.2.2.2.2.2.2.2.2.2.2.2.2.1,e.2.2.2.2.2.2.2.2.2.2.2.2.2.2.2.2.2.2.2,()),true)
def C47:aR:=⟨[vS],[.own xn,rB],λx=>fZ x⟩
theorem VG:SF 47 C47:=qV {eG [x7]with loops:=[(6,⟨[27],[.bx 2 32 [.own 300032 aU true,.own 300033 aU true,.own 300034 aU true,.own 300035 bJ true,.pv tI,.pv tI,.own 300038 tI true,.own 300039 bt true,.own 300040 aU true,.own 300041 .str true],.bx 6 96 [.own 288 aU true,.own 300097 aU true,.own 300098 aU true,.own 352 bJ true,.pv tI,.pv tI,.own 300102 tI true,.own 300103 bt true,.own 300104 aU true,.own 300105 .str true],.own 26 [] 176 .str true,.tv 28 tI],[(.exit 0,[.bx 2 32 [.own 300032 aU true,.own 300033 aU true,.own 300034 aU true,.own 300035 bJ true,.pv tI,.pv tI,.own 300038 tI true,.own 300039 bt true,.own 300040 aU true,.own 300041 .str true],.bx 6 96 [.own 288 aU true,.own 300097 aU true,.own 300098 aU true,.own 352 bJ true,.pv tI,.pv tI,.own 300102 tI true,.own 300103 bt true,.own 300104 aU true,.own 300105 .str true]])]⟩)],mv:=true,every:=[8],keepc:=[(75,P6)]} Tryz.func47 (hI:=NP Qk ⟨_,Tryz.func75,by kernel_rfl,by kernel_rfl⟩ kQ)
def kV(a:Bytes):Option (b9×Bool):=(fZ a).bind λr1=>O (r1.1.1,r1.2)
def C30:aR:=⟨[vS],[.own dH,rB],λx=>kV x⟩
theorem S30:SF 30 C30:=qV (eG [VG]) Tryz.func30
def lQ(a:Bytes):Option (Int×Int×Int×Bool):=(oO a).bind λr1=>bif(!r1.2.2)then O (0,0,0,false)else O ((r1.1.2.2.2.2.2.2.1.length:Int),(r1.1.2.2.2.2.2.2.2.1.length:Int),(aW ((aW (r1.1.2.2.2.2.2.2.2.2.1-(r1.1.2.2.2.2.2.2.1.length:Int)))-(r1.1.2.2.2.2.2.2.2.1.length:Int))),true)
def C12:aR:=⟨[vS],[rI,rI,rI,rB],λx=>lQ x⟩
theorem S12:SF 12 C12:=qV (eG [VE]) Tryz.func12
def jU(b:Bytes):Option (Int×Int×Int×Bool):=(fZ b).bind λr1=>(aX (λ(a:Int×Int×Int×(List Bytes)×Int)=>(bif(ae (a.2.2.2.2<(r1.1.2.2.2.2.2.2.1.length:Int)))then bif ae (0<=a.2.2.2.2)&&ae (a.2.2.2.2<(a.2.2.2.1.length:Int))then(a.2.2.2.1[(agC a.2.2.2.2)]?).bind λd=>bif(ae (d=([110,111]:Bytes)))then O (.inl ((aW (a.1+1)),a.2.1,a.2.2.1,a.2.2.2.1,(aW (a.2.2.2.2+1))))else bif(ae (d=eE))then O (.inl (a.1,(aW (a.2.1+1)),a.2.2.1,a.2.2.2.1,(aW (a.2.2.2.2+1))))else O (.inl (a.1,a.2.1,(aW (a.2.2.1+1)),a.2.2.2.1,(aW (a.2.2.2.2+1))))else U else O (.inr (a.1,a.2.1,a.2.2.1)):Option ((Int×Int×Int×(List Bytes)×Int)⊕((Int×Int×Int))))) (0,0,0,r1.1.2.2.2.2.2.2.1,0)).bind λc=>O (c.1,c.2.1,c.2.2,r1.2)
def C13:aR:=⟨[vS],[rI,rI,rI,rB],λx=>jU x⟩
theorem y9:SF 13 C13:=qV {eG [VG]with loops:=[(4,⟨[7,20],[.tv 8 tI,.tv 9 tI,.tv 10 tI,.own 19 [] 247 .str true,.tv 21 tI],[(.exit 0,[.tv 8 tI,.tv 9 tI,.tv 10 tI])]⟩)]} Tryz.func13
def jr(a:Bytes):Option (Bool):=bif(ae (1048576<(a.length:Int)))then O true else(lQ a).bind λr1=>(jU a).bind λr2=>(bif(!decide (r2.1=r1.1))then O true else O (!decide (r2.2.1=r1.2.1))).bind λc3=>(bif c3 then O true else O (!decide (r2.2.2.1=r1.2.2.1))).bind λc4=>(bif c4 then O true else O (r2.2.2.2 !=r1.2.2.2)).bind λc5=>bif c5 then O false else O true
def C4:aR:=⟨[vS],[rB],λx=>jr x⟩
theorem S4:SF 4 C4:=qV (eG [S12,y9]) Tryz.func4
def kB(d:Bytes):Option ((List Int)×Bool):=(oO d).bind λr1=>bif(!r1.2.2)then O ([],false)else bN (bN ((iR r1.1.2.2.2.2.2.2.1).bind λr2=>bif ae (aeP r2+aeP r1.1.2.2.2.2.2.2.2.1<=lim)then(aX (λ(c:(List Int)×(List Int)×Int)=>(bif(ae (c.2.2<((r2++r1.1.2.2.2.2.2.2.2.1).length:Int)))then bif ae (0<=c.2.2)&&ae (c.2.2<(c.2.1.length:Int))then(c.2.1[(agC c.2.2)]?).bind λn=>(ko c.1 n).bind λo=>bif o then O (.inl (c.1,c.2.1,(aW (c.2.2+1))))else(nj c.1 n).bind λp=>O (.inl (p,c.2.1,(aW (c.2.2+1))))else U else O (.inr c.1):Option (((List Int)×(List Int)×Int)⊕((List Int))))) ([],(r2++r1.1.2.2.2.2.2.2.2.1),0)).bind λq=>O (q,true)else U) ((iR r1.1.2.2.2.2.2.2.1).bind λh=>bif ae (aeP h+aeP r1.1.2.2.2.2.2.2.2.1<=lim)then(aX (λ(a:(List Int)×(List Int)×Int)=>(bif(ae (a.2.2<((h++r1.1.2.2.2.2.2.2.2.1).length:Int)))then bif ae (0<=a.2.2)&&ae (a.2.2<(a.2.1.length:Int))then(a.2.1[(agC a.2.2)]?).bind λf=>(ko a.1 f).bind λi=>bif i then O (.inl (a.1,a.2.1,(aW (a.2.2+1))))else(nj a.1 f).bind λj=>O (.inl (j,a.2.1,(aW (a.2.2+1))))else U else O (.inr a.1):Option (((List Int)×(List Int)×Int)⊕((List Int))))) ([],(h++r1.1.2.2.2.2.2.2.2.1),0)).bind λk=>O (k,true)else U)) ((iR r1.1.2.2.2.2.2.2.1).bind λe=>bif ae (aeP e+aeP r1.1.2.2.2.2.2.2.2.1<=lim)then(aX (λ(b:(List Int)×(List Int)×Int)=>(bif(ae (b.2.2<((e++r1.1.2.2.2.2.2.2.2.1).length:Int)))then bif ae (0<=b.2.2)&&ae (b.2.2<(b.2.1.length:Int))then(b.2.1[(agC b.2.2)]?).bind λg=>(ko b.1 g).bind λc20=>bif c20 then O (.inl (b.1,b.2.1,(aW (b.2.2+1))))else(nj b.1 g).bind λl=>O (.inl (l,b.2.1,(aW (b.2.2+1))))else U else O (.inr b.1):Option (((List Int)×(List Int)×Int)⊕((List Int))))) ([],(e++r1.1.2.2.2.2.2.2.2.1),0)).bind λm=>O (m,true)else U)
def C14:aR:=⟨[vS],[.own (.slice tI),rB],λx=>kB x⟩
theorem S14:SF 14 C14:=qV {eG [VE,V2]with loops:=[(6,⟨[28],[.own 7 [] 200007 tI true,.own 27 [] 352 tI true,.tv 29 tI],[(.exit 0,[.own 7 [] 200007 tI true])]⟩)],every:=[5],sel:=[(51,vp)]} Tryz.func14 (hI:=Ep Ds ⟨_,Tryz.func51,by kernel_rfl,by kernel_rfl⟩ kQ)
def jl(b:Bytes):Option ((List Int)×Bool):=(fZ b).bind λr1=>(aX (λ(a:(List Int)×(List Bytes)×Int)=>(bif(ae (a.2.2<(r1.1.2.2.2.2.2.2.1.length:Int)))then bif ae (0<=a.2.2)&&ae (a.2.2<(a.2.1.length:Int))then(a.2.1[(agC a.2.2)]?).bind λc=>(bif(ae (c=([110,111]:Bytes)))then O true else O (ae (c=eE))).bind λc5=>bif c5 then bif ae (aeP a.1+aeP [(aW (a.2.2+1))]<=lim)then O (.inl ((a.1++[(aW (a.2.2+1))]),a.2.1,(aW (a.2.2+1))))else U else O (.inl (a.1,a.2.1,(aW (a.2.2+1))))else U else O (.inr a.1):Option (((List Int)×(List Bytes)×Int)⊕((List Int))))) ([],r1.1.2.2.2.2.2.2.1,0)).bind λd=>O (d,r1.2)
def C15:aR:=⟨[vS],[.own (.slice tI),rB],λx=>jl x⟩
theorem S15:SF 15 C15:=qV {eG [VG]with loops:=[(4,⟨[5,16],[.own 6 [] 200006 tI true,.own 15 [] 183 .str true,.tv 17 tI],[(.exit 0,[.own 6 [] 200006 tI true])]⟩)]} Tryz.func15
def mo(a:List Int)(b:List Int):Option (Bool):=
 bif(!decide ((a.length:Int)=(b.length:Int)))then
 O false
 else
 (aX (λ(st2:Int)=>(
 bif(ae (st2<(a.length:Int)))then
 (idx a st2).bind λc=>
 (idx b st2).bind λd=>
 bif(!decide (c=d))then
 O (.inr (.inr false))
 else
 O (.inl (aW (st2+1)))
 else
 O (.inr (.inl ())):Option ((Int)⊕(Unit⊕Bool)))) 0).bind λe=>
 match e with
 |.inl _=>
  O true
 |.inr f=>
  O f
def jO(a:Bytes):Option ((List aT)×Bool):=(oO a).bind λr1=>bif(!r1.2.2)then O ([],false)else O (r1.1.2.2.2.2.1,true)
def C19:aR:=⟨[vS],[.own (.slice bt),rB],λx=>jO x⟩
theorem S19:SF 19 C19:=qV (eG [VE]) Tryz.func19
def gy(a:Bytes):Option ((List aT)×Bool):=(fZ a).bind λr1=>O (r1.1.2.2.2.2.1,r1.2)
def C20:aR:=⟨[vS],[.own (.slice bt),rB],λx=>gy x⟩
theorem S20:SF 20 C20:=qV (eG [VG]) Tryz.func20
def nL(a:Bytes):Option (bE×Bool):=(oO a).bind λr1=>bif(!r1.2.2)then O (([],()),false)else O (r1.1.2.2.1,true)
def C24:aR:=⟨[vS],[.own cO,rB],λx=>nL x⟩
theorem S24:SF 24 C24:=qV (eG [VE]) Tryz.func24
def jQ(a:Bytes):Option (bE×Bool):=(fZ a).bind λr1=>O (r1.1.2.2.1,r1.2)
def C25:aR:=⟨[vS],[.own cO,rB],λx=>jQ x⟩
theorem S25:SF 25 C25:=qV (eG [VG]) Tryz.func25
def qF(a:Bytes):Option (Bytes):=(oO a).bind λr1=>O r1.2.1
def C10:aR:=⟨[vS],[rS],λx=>qF x⟩
theorem C5:SF 10 C10:=qV (eG [VE]) Tryz.func10
end
end Sh
namespace Sh
open Go Go.Ab Go.Proofs Go.Shelf Go.RowKit Go.Lib
theorem GR(W:World)(o:Obj):Lib.IsBuilderF 76 5 (W.heap.size+1) (W.heap.size+1) (Lib.byteCells []) ((W.alloc o).alloc (.cells #[.pointer U,.slice U 0 0] 76)):=by refine .inl ⟨aB _,.slice U 0 0,?_,⟨rfl,.inl ⟨rfl,rfl⟩⟩,by simp[Value.ownBlock]⟩;show((W.heap.push _).push _)[W.heap.size+1]? =_;rw[show W.heap.size+1=(W.heap.push o).size by simp];exact Array.getElem?_push_size
set_option maxHeartbeats 4000000 in
set_option maxRecDepth 100000 in
theorem SU(x:ByteArray)(w:World)(K:World->Prop)(hR:Calls Tryz.prog 47 #[.string x] w fun e w'=>(∃(p0 p1 p2 p3 p6 p7 p8 p9:Option Addr) (n0 n1 n2 n3 n6 n7 n8 n9 k0 k1 k2 k3 k6 k7 k8 k9:Nat) (z4 z5:Int),e=.returned (.tuple #[.agg #[.slice p0 n0 k0,.slice p1 n1 k1,.slice p2 n2 k2,.slice p3 n3 k3,.int .i64 z4,.int .i64 z5,.slice p6 n6 k6,.slice p7 n7 k7,.slice p8 n8 k8,.slice p9 n9 k9],.bool false]))/\K w'):Calls Tryz.prog 11 #[.string x] w fun e w'=>e=.returned (.string ⟨⟨[]⟩⟩)/\∃W,K W/\Below W.heap.size W w':=by go_enter Tryz.func11,Tryz.ntmps11;go_wp2_with (go_at_call 47;refine hR.mono ?_;rintro e w' ⟨⟨p0,p1,p2,p3,p6,p7,p8,p9,n0,n1,n2,n3,n6,n7,n8,n9,k0,k1,k2,k3,k6,k7,k8,k9,z4,z5,rfl⟩,hK⟩);go_ret;exact⟨rfl,_,hK,kg _ _⟩
set_option maxHeartbeats 4000000 in
set_option maxRecDepth 100000 in
theorem SG(x:ByteArray)(w:World)(K:World->Prop)(hR:Calls Tryz.prog 47 #[.string x] w fun e w'=>(∃(p0 p1 p2 p3 p6 p7 p8 p9:Option Addr) (n0 n1 n2 n3 n6 n7 n8 k0 k1 k2 k3 k6 k7 k8 k9:Nat) (z4 z5:Int),e=.returned (.tuple #[.agg #[.slice p0 n0 k0,.slice p1 n1 k1,.slice p2 n2 k2,.slice p3 n3 k3,.int .i64 z4,.int .i64 z5,.slice p6 n6 k6,.slice p7 n7 k7,.slice p8 n8 k8,.slice p9 0 k9],.bool true]))/\K w'):Calls Tryz.prog 11 #[.string x] w fun e w'=>e=.returned (.string ⟨⟨[]⟩⟩)/\∃W,K W/\Below W.heap.size W w':=by go_enter Tryz.func11,Tryz.ntmps11;go_wp2_with (go_at_call 47;refine hR.mono ?_;rintro e W ⟨⟨p0,p1,p2,p3,p6,p7,p8,p9,n0,n1,n2,n3,n6,n7,n8,k0,k1,k2,k3,k6,k7,k8,k9,z4,z5,rfl⟩,hK⟩);refine wp_loop_rounds 1 ?_;rw[rounds_succ];have HC:=Lib.hid (Builder_String_any_f (W.heap.size+1) (W.heap.size+1) [] _ (GR W (.cells #[.slice p0 n0 k0,.slice p1 n1 k1,.slice p2 n2 k2,.slice p3 n3 k3,.int .i64 z4,.int .i64 z5,.slice p6 n6 k6,.slice p7 n7 k7,.slice p8 n8 k8,.slice p9 0 k9] 71)) (by rw[size_alloc,size_alloc];omega));go_wp2_with (go_at_call 49;refine HC.out.mono ?_;rintro e w' ⟨rfl,hb⟩);go_ret;exact⟨rfl,_,hK,((kg W _).trans ((kg (W.alloc _) _).mono (by rw[size_alloc];omega))).trans (hb.2.mono (afR _))⟩
set_option maxHeartbeats 4000000 in
set_option maxRecDepth 100000 in
theorem Tm(x:ByteArray)(w:World)(n:Nat)(nm:Nat->Bytes)(hn:n<=999999)(hnm:∀i,i<n->(nm i).length<=999999999)(ht:(oN (fun i=>nm i++[10]) n).length<=140737488355328)(K:World->Prop)(hR:Calls Tryz.prog 47 #[.string x] w fun e W=>(∃(p0 p1 p2 p3 p6 p7 p8:Option Addr) (n0 n1 n2 n3 n6 n7 n8 k0 k1 k2 k3 k6 k7 k8 k9:Nat) (z4 z5:Int) (g:Nat),e=.returned (.tuple #[.agg #[.slice p0 n0 k0,.slice p1 n1 k1,.slice p2 n2 k2,.slice p3 n3 k3,.int .i64 z4,.int .i64 z5,.slice p6 n6 k6,.slice p7 n7 k7,.slice p8 n8 k8,.slice (O ⟨g,0,U⟩) n k9],.bool true])/\g<W.heap.size/\∀i,i<n->W.cell? ⟨g,i,U⟩=O (.string ⟨⟨nm i⟩⟩))/\K W):Calls Tryz.prog 11 #[.string x] w fun e w'=>e=.returned (.string ⟨⟨oN (fun i=>nm i++[10]) n⟩⟩)/\∃W,K W/\Below W.heap.size W w':=by go_enter Tryz.func11,Tryz.ntmps11;go_wp2_with (go_at_call 47;refine hR.mono ?_;rintro e W ⟨⟨p0,p1,p2,p3,p6,p7,p8,n0,n1,n2,n3,n6,n7,n8,k0,k1,k2,k3,k6,k7,k8,k9,z4,z5,g,rfl,hg,hl⟩,hK⟩);have H0:=Lib.hid hl;have HN:=Lib.hid hnm;have HK:=Lib.hid hK;clear hl hnm hK hR;go_loopg [18] n (fun gg s18 wr=>∃(i:Nat),s18=.int .i64 i/\i<=n/\n-i<=gg/\Hid (Lib.IsBuilderF 76 5 (W.heap.size+1) (W.heap.size+1) (Lib.byteCells (oN (fun i=>nm i++[10]) i)) wr)/\Hid (Below (W.heap.size+1) (W.alloc (.cells #[.slice p0 n0 k0,.slice p1 n1 k1,.slice p2 n2 k2,.slice p3 n3 k3,.int .i64 z4,.int .i64 z5,.slice p6 n6 k6,.slice p7 n7 k7,.slice p8 n8 k8,.slice (O ⟨g,0,U⟩) n k9] 71)) wr));(case atStart=>exact⟨0,rfl,afc n,aB _,Lib.hid (GR W _),Lib.hid (Below.alloc (Below.refl _ _) (Nat.le_of_eq (size_alloc _ _).symm) _)⟩);case round=>obtain⟨i,rfl,hin,hgg,hB,hL⟩:=hrel;(have hsz:W.heap.size+1<=wr.heap.size:=by have:=hL.out.size;rwa [size_alloc]at this);have old:∀q,q<W.heap.size->wr.heap[q]? =W.heap[q]? :=fun q hq=>(hL.out.block q (by omega)).trans ((kg W _).block q hq);by_cases hlt:i<n;{(have hltz:(i:Int)<(n:Int):=by omega);have c0:=(World.cell?_of_block (a:=⟨g,i,U⟩) (old g hg)).trans (H0.out i hlt);have hlen:(ByteArray.mk ⟨nm i⟩).size<=999999999:=HN.out i hlt;have HC:=Lib.hid (MZ (W.heap.size+1) (W.heap.size+1) (Lib.byteCells (oN (fun i=>nm i++[10]) i)) ⟨⟨nm i++[10]⟩⟩ wr hB.out (by have:=H4 (fun i=>nm i++[10]) (i+1) (n-(i+1));rw[show i+1+(n-(i+1))=n by omega]at this;have h2:(oN (fun i=>nm i++[10]) (i+1)).length=(oN (fun i=>nm i++[10]) i).length+(nm i++[10]).length:=aG;have h3:(ByteArray.mk ⟨nm i++[10]⟩).size=(nm i++[10]).length:=rfl;rw[Lib.byteCells_length];omega) hsz);have hap:(ByteArray.mk ⟨nm i⟩++ByteArray.mk #[10])=ByteArray.mk ⟨nm i++[10]⟩:=F8 (nm i) [10];have HX:Hid (nm i++[10]=(ByteArray.mk ⟨nm i++[10]⟩).data.toList):=Lib.hid rfl;generalize hy:ByteArray.mk ⟨nm i++[10]⟩=y at HC hap HX;generalize hz:ByteArray.mk ⟨nm i⟩=z at c0 hap hlen;clear hy hz;go_wp2_with (first|(go_at_call 48;rw[hap];refine HC.out.mono ?_;rintro e w' ⟨rfl,hb⟩)|(go_at_call 48;refine HC.out.mono ?_;rintro e w' ⟨rfl,hb⟩));have HB:=Lib.hid hb;clear hb HC;go_roundg (n-(i+1));(case measure=>omega);case rel=>exact⟨i+1,by go_num,by omega,aB _,Lib.hid (.inr (by have:=HB.out.1;rw[Lib.strCells_eq,<-HX.out,<-Lib.byteCells_append]at this;exact this)),Lib.hid (hL.out.trans HB.out.2)⟩};{(obtain rfl:i=n:=by omega);(have hltz:¬(i:Int)<(i:Int):=by omega);have HC:=Lib.hid (Builder_String_any_f (W.heap.size+1) (W.heap.size+1) (oN (fun i=>nm i++[10]) i) wr hB.out hsz);go_wp2_with (go_at_call 49;refine HC.out.mono ?_;rintro e w' ⟨rfl,hb⟩);go_ret;exact⟨rfl,_,HK.out,(kg W _).trans ((hL.out.trans hb.2).mono (afR _))⟩}
theorem lJ{w:World}{t:Ty}{cs:List Value}{x:List t.den}{F:bu}(h:Own w (.slice t) cs x F):∃p n k,cs=[.slice p n k]:=by obtain⟨v,rfl,h⟩:=h;rcases h with ⟨⟨a,rfl⟩,_⟩|⟨g,cap,_,_,_,rfl,_⟩;{exact⟨_,_,_,rfl⟩};{exact⟨_,_,_,rfl⟩}
def Hb(l:List Bytes):Bytes:=l.flatMap λx=>x++[10]
noncomputable def gO(s:Bytes):Option Bytes:=(fZ s).bind λr=>if r.2=false then O []else if r.1.2.2.2.2.2.2.1.length<=999999/\(∀x∈r.1.2.2.2.2.2.2.1,x.length<=999999999)/\(Hb r.1.2.2.2.2.2.2.1).length<=140737488355328 then O (Hb r.1.2.2.2.2.2.2.1)else U
theorem CJ(l:List Bytes):oN (λi=>(l[i]?.getD [])++[10]) l.length=Hb l:=by rw[ye];(have e:(List.range l.length).map (λi=>l[i]?.getD [])=l:=by apply List.ext_getElem?;intro i;by_cases h:i<l.length<;>simp[h]);unfold Hb;(conv=>rhs;rw[<-e]);rw[List.flatMap_map]
theorem Fh:Sound Tryz.prog 11 ⟨[.val .str],[.val .str],λx=>gO x⟩:=by intro w args x r S N hT X d P c;have f:=d;obtain⟨v1,r1,rfl,⟨d1,rfl,k1⟩,rfl,F⟩:=d;obtain⟨rfl,l1⟩:=k1;change Bytes at x;have c:gO x=O r:=c;unfold gO at c;cases hq:fZ x with|none=>rw[hq]at c;cases c|some q=>rw[hq,ah]at c;have I:=VG.1 w [.string ⟨⟨x⟩⟩] x q S N hT X f P hq;obtain⟨Y,b⟩:=q;obtain⟨⟨q0,q1,_⟩,q2,⟨q3,_⟩,⟨q4,q5,q6,_⟩,q7,q8,ls,_⟩:=Y;simp only at c;(have key:Calls Tryz.prog 47 #[.string ⟨⟨x⟩⟩] w λe W=>∃v9 J,(∃(k m n o p s t:Option Addr) (u z A n3 n6 n7 n8 k0 k1 k2 k3 B C D:Nat) (z4 z5:Int),e=.returned (.tuple #[.agg #[.slice k u k0,.slice m z k1,.slice n A k2,.slice o n3 k3,.int .i64 z4,.int .i64 z5,.slice p n6 B,.slice s n7 C,.slice t n8 D,v9],.bool b]))/\Own W (.slice .str) [v9] ls J/\Old w W:=by refine I.mono λe W hk=> ?_;obtain⟨vs,S',L,Q,rfl,g1,g2,g3,⟨g4,g5⟩,g6,g7⟩:=hk;obtain⟨va,ra,G,H,rfl,⟨ds,rfl,ho⟩,⟨vb,rb,rfl,⟨Z,rfl,rfl⟩,rfl,_⟩,_⟩:=g5;obtain⟨_,_,_,_,rfl,⟨_,_,_,_,rfl,ha,⟨_,_,_,_,rfl,R,⟨rfl,_⟩,_⟩,_⟩,⟨_,_,_,_,rfl,hc,⟨_,_,_,_,rfl,⟨_,_,_,_,rfl,hd,⟨rfl,_⟩,_⟩,⟨_,_,_,_,rfl,⟨_,_,_,_,rfl,⟨⟨rfl,_⟩,_⟩,⟨_,_,_,_,rfl,⟨⟨rfl,_⟩,_⟩,⟨_,_,_,_,rfl,he,⟨rfl,_⟩,_⟩,_⟩,_⟩,⟨_,_,_,_,rfl,hf,⟨_,_,_,_,rfl,hg,⟨_,_,_,J,rfl,hl,⟨rfl,_⟩,_⟩,_⟩,_⟩,_⟩,_⟩,_⟩,_⟩:=ho;obtain⟨k,u,k0,rfl⟩:=lJ ha;obtain⟨m,z,k1,rfl⟩:=lJ R;obtain⟨n,A,k2,rfl⟩:=lJ hc;obtain⟨o,n3,k3,rfl⟩:=lJ hd;obtain⟨p,n6,B,rfl⟩:=lJ he;obtain⟨s,n7,C,rfl⟩:=lJ hf;obtain⟨t,n8,D,rfl⟩:=lJ hg;obtain⟨v9,rfl,T⟩:=hl;exact⟨v9,_,⟨k,m,n,o,p,s,t,u,z,A,n3,n6,n7,n8,k0,k1,k2,k3,B,C,D,_,_,rfl⟩,⟨v9,rfl,T⟩,⟨g1.os,g1.tape,g1.output,g1.size,λq hq _=>g1.block q hq (F q),g1.fz⟩⟩);(have fin:∀y:Bytes,y=r->y.length<=140737488355328->(Calls Tryz.prog 11 #[.string ⟨⟨x⟩⟩] w λe w'=>e=.returned (.string ⟨⟨y⟩⟩)/\∃W,Old w W/\Below W.heap.size W w')->Calls Tryz.prog 11 #[.string ⟨⟨x⟩⟩] w λe w'=>∃(vs:List Value) (S' L Q:bu),e=.returned (ur vs)/\iu w w' N/\(∀q,S q->S' q)/\(∀q,S' q->S q\/(w.heap.size<=q/\q<w'.heap.size))/\((∀q,¬L q)/\cV S' w' [.val .str] vs r Q)/\(∀q,L q->(N q\/w.heap.size<=q)/\q<w'.heap.size/\¬S' q)/\(∀q,Q q->w.heap.size<=q/\q<w'.heap.size/\¬S' q/\¬L q):=λy E hlen hc=>by subst E;refine Calls.mono hc ?_;rintro e w' ⟨rfl,W,hp,R⟩;have ho:=Old.trans hp (iu.of_below R _);exact sD X ⟨ho.os,ho.tape,ho.output,ho.size,λq hq _=>ho.block q hq λh=>h,ho.fz⟩ (y:=y) (aC hlen (by decide)));cases b with|false=>rw[aN rfl]at c;injection c with c;refine fin [] c (afc _) (SU _ _ (Old w) (key.mono λe W hk=> ?_));obtain⟨v9,J,⟨k,m,n,o,p,s,t,u,z,A,n3,n6,n7,n8,k0,k1,k2,k3,B,C,D,z4,z5,rfl⟩,hl,hp⟩:=hk;obtain⟨p9,n9,k9,h9⟩:=lJ hl;cases h9;exact⟨⟨_,_,_,_,_,_,_,_,_,_,_,_,_,_,_,_,_,_,_,_,_,_,_,_,_,_,rfl⟩,hp⟩|true=>rw[aM (by decide)]at c;split at c;rotate_left;{cases c};rename_i hc;obtain⟨c1,c2,c3⟩:=hc;injection c with c;by_cases K:ls=[];{subst K;refine fin [] c (afc _) (SG _ _ (Old w) (key.mono λe W hk=> ?_));obtain⟨v9,J,⟨k,m,n,o,p,s,t,u,z,A,n3,n6,n7,n8,k0,k1,k2,k3,B,C,D,z4,z5,rfl⟩,⟨v,V,hl⟩,hp⟩:=hk;cases V;rcases hl with ⟨⟨a,rfl⟩,_⟩|⟨g,cap,_,_,_,rfl,_⟩;{exact⟨⟨_,_,_,_,_,_,_,_,_,_,_,_,_,_,_,_,_,_,_,_,_,_,_,_,_,rfl⟩,hp⟩};{exact⟨⟨_,_,_,_,_,_,_,_,_,_,_,_,_,_,_,_,_,_,_,_,_,_,_,_,_,rfl⟩,hp⟩}};{have j:∀i,i<ls.length->∃y,ls[i]? =O y/\ls[i]?.getD []=y:=λi hi=>⟨ls[i],aJ hi,by rw[aJ hi];rfl⟩;have:=Tm ⟨⟨x⟩⟩ w ls.length (λi=>ls[i]?.getD []) c1 (λi hi=>by obtain⟨y,h1,M⟩:=j i hi;show(ls[i]?.getD []).length<=_;rw[M];exact c2 y (aF h1)) (by rw[CJ];exact c3) (Old w) (key.mono λe W hk=>by obtain⟨v9,J,⟨k,m,n,o,p,s,t,u,z,A,n3,n6,n7,n8,k0,k1,k2,k3,B,C,D,z4,z5,rfl⟩,⟨v,V,hl⟩,hp⟩:=hk;cases V;rcases hl with ⟨_,h,_⟩|⟨g,cap,cur,te,Fs,rfl,M,h3,h4,h5,h6,_⟩;{exact absurd h K};{refine⟨⟨_,_,_,_,_,_,_,_,_,_,_,_,_,_,_,_,_,_,_,_,_,_,_,_,g,rfl,Ab.lt_of_heap M,λi hi=> ?_⟩,hp⟩;obtain⟨y,g1,g2⟩:=j i hi;have E:=h6 i y g1;obtain⟨⟨E,_⟩,_⟩:=E;rw[g2];unfold World.cell?;rw[M];simp only[Ty.size,Nat.mul_one]at E;(have:cur[i]? =O (.string ⟨⟨y⟩⟩):=by have e:=congrArg (λl=>l[0]?) E;simpa using e);simpa using this});rw[CJ]at this;exact fin _ c c3 this}
end Sh
namespace Sh
open Go Go.Ab Go.Proofs
set_option maxRecDepth 100000
noncomputable section
def C11:aR:=⟨[vS],[rS],λx=>gO x⟩
theorem S7:SF 11 C11:=⟨Fh,qN Tryz.func11 (by kernel_rfl)⟩
def mj(a:Bytes):Option (Bool):=bif(ae (1048576<(a.length:Int)))then O true else(qF a).bind λr1=>(gO a).bind λr2=>bif(!decide (r2=r1))then O false else O true
def C3:aR:=⟨[vS],[rB],λx=>mj x⟩
theorem S3:SF 3 C3:=qV (eG [C5,S7]) Tryz.func3
def lZ(a:cF):Option (cF×Int):=(bif(ae (a.2.1<(a.1.length:Int)))then(idx a.1 a.2.1).bind λc=>O (a.1,a.2.1,a.2.2.1,(aW c))else O (a.1,a.2.1,a.2.2.1,0)).bind λb=>bif(ae ((aW (b.2.1+1))<=(b.1.length:Int)))then O ((b.1,(aW (b.2.1+1)),(IntKind.u64.wrap ((IntKind.u64.wrap ((IntKind.u64.wrap (b.2.2.1*6364136223846793005))+(IntKind.u64.wrap b.2.2.2)))+1442695040888963407)),()),b.2.2.2)else O ((b.1,(aW (b.2.1+1)),(IntKind.u64.wrap ((IntKind.u64.wrap ((IntKind.u64.wrap (b.2.2.1*6364136223846793005))+(IntKind.u64.wrap b.2.2.2)))+1442695040888963407)),()),(aW (vC .and .u64 (uE .shr .u64 (IntKind.u64.wrap ((IntKind.u64.wrap ((IntKind.u64.wrap (b.2.2.1*6364136223846793005))+(IntKind.u64.wrap b.2.2.2)))+1442695040888963407)) 40) 255)))
def C81:aR:=⟨[.dt w7],[rI],λx=>lZ x⟩
theorem S81:SF 81 C81:=qB {eG []with joins:=[(4,⟨[],[],[(.normal,[.bx 0 100000 [.pv (.slice (.int .u8)),.pv tI,.pv (.int .u64)],.tv 3 tI])]⟩)]} Tryz.func81
def dD(b:cF)(a:Int):Option (cF×Int):=bif(ae (a<=1))then O (b,0)else(lZ b).bind λr1=>bif(ae (200<a))then(lZ r1.1).bind λr2=>bif(!decide (a=0))then O (r2.1,(agB (aW ((aW (r1.2*256))+r2.2)) a))else U else bif(!decide (a=0))then O (r1.1,(agB r1.2 a))else U
def C63:aR:=⟨[.dt w7,vI],[rI],λx=>dD x.1 x.2⟩
theorem Xr:SF 63 C63:=qB (eG [S81]) Tryz.func63
def nX(a:cF)(b:Int):Option (cF×Bool):=(dD a b).bind λr1=>O (r1.1,(ae (r1.2=0)))
def C62:aR:=⟨[.dt w7,vI],[rB],λx=>nX x.1 x.2⟩
theorem C8:SF 62 C62:=qB (eG [Xr]) Tryz.func62
def bX(b:cF)(a:List Bytes):Option (cF×Bytes):=(dD b (a.length:Int)).bind λr1=>(idx a r1.2).bind λc=>O (r1.1,c)
def C83:aR:=⟨[.dt w7,.val (.slice .str)],[rS],λx=>bX x.1 x.2⟩
theorem S83:SF 83 C83:=qB (eG [Xr]) Tryz.func83
def gv(H:cF):Option (cF×Bytes):=(dD H 4).bind λr1=>(dZ r1.2).bind λr2=>(dD r1.1 4).bind λr3=>(dZ r3.2).bind λr=>(dD r3.1 22).bind λb=>(bif(ae (b.2=0))then O (b.1.1,b.1.2.1,b.1.2.2.1,(ae (b.2=0)))else O (b.1.1,b.1.2.1,b.1.2.2.1,(ae (b.2=1)))).bind λq=>bif q.2.2.2 then(bX (q.1,q.2.1,q.2.2.1,()) [([53]:Bytes),([51,48]:Bytes),([49,48,48,48]:Bytes)]).bind λE=>bif ae (aeP ([116,111,119,101,114,32]:Bytes)+aeP E.2<=lim)then bif ae (aeP (([116,111,119,101,114,32]:Bytes)++E.2)+aeP ([32]:Bytes)<=lim)then bif ae (aeP ((([116,111,119,101,114,32]:Bytes)++E.2)++([32]:Bytes))+aeP r2<=lim)then bif ae (aeP (((([116,111,119,101,114,32]:Bytes)++E.2)++([32]:Bytes))++r2)+aeP ([32,52,48]:Bytes)<=lim)then O (E.1,((((([116,111,119,101,114,32]:Bytes)++E.2)++([32]:Bytes))++r2)++([32,52,48]:Bytes)))else U else U else U else U else(bif(ae (b.2=2))then O (q.1,q.2.1,q.2.2.1,(ae (b.2=2)))else O (q.1,q.2.1,q.2.2.1,(ae (b.2=3)))).bind λj=>bif j.2.2.2 then bif ae (aeP ([108,105,110,107,32]:Bytes)+aeP r2<=lim)then bif ae (aeP (([108,105,110,107,32]:Bytes)++r2)+aeP ([32]:Bytes)<=lim)then bif ae (aeP ((([108,105,110,107,32]:Bytes)++r2)++([32]:Bytes))+aeP r<=lim)then bif ae (aeP (((([108,105,110,107,32]:Bytes)++r2)++([32]:Bytes))++r)+aeP ([32]:Bytes)<=lim)then(bX (j.1,j.2.1,j.2.2.1,()) [([53]:Bytes),([50,48]:Bytes),([54,48]:Bytes),([54,49]:Bytes)]).bind λI=>bif ae (aeP ((((([108,105,110,107,32]:Bytes)++r2)++([32]:Bytes))++r)++([32]:Bytes))+aeP I.2<=lim)then O (I.1,(((((([108,105,110,107,32]:Bytes)++r2)++([32]:Bytes))++r)++([32]:Bytes))++I.2))else U else U else U else U else U else bif(ae (b.2=4))then bif ae (aeP ([102,111,103,32]:Bytes)+aeP r2<=lim)then bif ae (aeP (([102,111,103,32]:Bytes)++r2)+aeP ([32]:Bytes)<=lim)then(bX (j.1,j.2.1,j.2.2.1,()) [([48]:Bytes),([49,48]:Bytes),([53,48]:Bytes)]).bind λk=>bif ae (aeP ((([102,111,103,32]:Bytes)++r2)++([32]:Bytes))+aeP k.2<=lim)then bif ae (aeP (((([102,111,103,32]:Bytes)++r2)++([32]:Bytes))++k.2)+aeP ([32]:Bytes)<=lim)then(bX k.1 [([52,48]:Bytes),([54,48]:Bytes),([49,48,48,48,49]:Bytes)]).bind λs=>bif ae (aeP ((((([102,111,103,32]:Bytes)++r2)++([32]:Bytes))++k.2)++([32]:Bytes))+aeP s.2<=lim)then O (s.1,(((((([102,111,103,32]:Bytes)++r2)++([32]:Bytes))++k.2)++([32]:Bytes))++s.2))else U else U else U else U else U else(bif(ae (b.2=5))then O (j.1,j.2.1,j.2.2.1,(ae (b.2=5)))else O (j.1,j.2.1,j.2.2.1,(ae (b.2=6)))).bind λd=>bif d.2.2.2 then(bX (d.1,d.2.1,d.2.2.1,()) [([102,105,114,115,116,32]:Bytes),([119,97,121,32]:Bytes)]).bind λg=>bif ae (aeP g.2+aeP r2<=lim)then bif ae (aeP (g.2++r2)+aeP ([32]:Bytes)<=lim)then bif ae (aeP ((g.2++r2)++([32]:Bytes))+aeP r<=lim)then bif ae (aeP (((g.2++r2)++([32]:Bytes))++r)+aeP ([32]:Bytes)<=lim)then(bX g.1 [([48]:Bytes),([49,53]:Bytes),([57,57,57,57]:Bytes)]).bind λt=>bif ae (aeP ((((g.2++r2)++([32]:Bytes))++r)++([32]:Bytes))+aeP t.2<=lim)then O (t.1,(((((g.2++r2)++([32]:Bytes))++r)++([32]:Bytes))++t.2))else U else U else U else U else U else(bif(ae (b.2=7))then O (d.1,d.2.1,d.2.2.1,(ae (b.2=7)))else O (d.1,d.2.1,d.2.2.1,(ae (b.2=8)))).bind λe=>bif e.2.2.2 then(bX (e.1,e.2.1,e.2.2.1,()) [([97]:Bytes),([98]:Bytes),([97,98]:Bytes),QC,Cb]).bind λl=>bif ae (aeP ([112,104,114,97,115,101,32]:Bytes)+aeP l.2<=lim)then bif ae (aeP (([112,104,114,97,115,101,32]:Bytes)++l.2)+aeP ([32]:Bytes)<=lim)then(bX l.1 [([49]:Bytes),([50]:Bytes),([53,32,55]:Bytes),([51,32,51,32,51]:Bytes),([54,49]:Bytes),([49,32,50,32,51,32,52]:Bytes)]).bind λu=>bif ae (aeP ((([112,104,114,97,115,101,32]:Bytes)++l.2)++([32]:Bytes))+aeP u.2<=lim)then O (u.1,(((([112,104,114,97,115,101,32]:Bytes)++l.2)++([32]:Bytes))++u.2))else U else U else U else(bif(ae (b.2=9))then O (e.1,e.2.1,e.2.2.1,(ae (b.2=9)))else O (e.1,e.2.1,e.2.2.1,(ae (b.2=10)))).bind λc=>bif c.2.2.2 then(bX (c.1,c.2.1,c.2.2.1,()) [([97]:Bytes),([97,97]:Bytes),([97,98]:Bytes),QC,Vz,([122,122]:Bytes)]).bind λv=>bif ae (aeP ([99,111,100,101,32]:Bytes)+aeP v.2<=lim)then O (v.1,(([99,111,100,101,32]:Bytes)++v.2))else U else bif(ae (b.2=11))then(bX (c.1,c.2.1,c.2.2.1,()) [([49]:Bytes),([49,32,49]:Bytes),([50,32,49]:Bytes),([53,32,55]:Bytes),([51,32,51,32,51]:Bytes),([48]:Bytes),([54,49]:Bytes)]).bind λw=>bif ae (aeP ([114,101,97,100,32]:Bytes)+aeP w.2<=lim)then O (w.1,(([114,101,97,100,32]:Bytes)++w.2))else U else bif(ae (b.2=12))then(bX (c.1,c.2.1,c.2.2.1,()) [([53]:Bytes),([49,32,50,32,51]:Bytes),([54,48,32,54,48,32,54,48,32,54,48]:Bytes),([54,49]:Bytes)]).bind λx=>bif ae (aeP ([104,105,100,101,32]:Bytes)+aeP x.2<=lim)then O (x.1,(([104,105,100,101,32]:Bytes)++x.2))else U else(bif(ae (b.2=13))then O (c.1,c.2.1,c.2.2.1,(ae (b.2=13)))else O (c.1,c.2.1,c.2.2.1,(ae (b.2=14)))).bind λf=>bif f.2.2.2 then(bX (f.1,f.2.1,f.2.2.1,()) [([55]:Bytes),([49,50]:Bytes),([57,57,57]:Bytes),([49,48,48,48]:Bytes)]).bind λm=>bif ae (aeP ([97,99,99,101,112,116,32]:Bytes)+aeP m.2<=lim)then bif ae (aeP (([97,99,99,101,112,116,32]:Bytes)++m.2)+aeP ([32]:Bytes)<=lim)then bif ae (aeP ((([97,99,99,101,112,116,32]:Bytes)++m.2)++([32]:Bytes))+aeP r2<=lim)then O (m.1,(((([97,99,99,101,112,116,32]:Bytes)++m.2)++([32]:Bytes))++r2))else U else U else U else(bif(ae (b.2=15))then O (f.1,f.2.1,f.2.2.1,(ae (b.2=15)))else O (f.1,f.2.1,f.2.2.1,(ae (b.2=16)))).bind λa=>bif a.2.2.2 then(bX (a.1,a.2.1,a.2.2.1,()) [([55]:Bytes),([49,50]:Bytes),([57,57,57]:Bytes)]).bind λn=>bif ae (aeP ([97,114,114,105,118,101,100,32]:Bytes)+aeP n.2<=lim)then bif ae (aeP (([97,114,114,105,118,101,100,32]:Bytes)++n.2)+aeP ([32]:Bytes)<=lim)then bif ae (aeP ((([97,114,114,105,118,101,100,32]:Bytes)++n.2)++([32]:Bytes))+aeP r2<=lim)then O (n.1,(((([97,114,114,105,118,101,100,32]:Bytes)++n.2)++([32]:Bytes))++r2))else U else U else U else bif(ae (b.2=17))then(bX (a.1,a.2.1,a.2.2.1,()) [([102,97,105,108,32]:Bytes),([119,104,101,114,101,32]:Bytes),([119,104,101,114,101,32]:Bytes)]).bind λy=>(bX y.1 [([55]:Bytes),([49,50]:Bytes),([53]:Bytes)]).bind λz=>bif ae (aeP y.2+aeP z.2<=lim)then O (z.1,(y.2++z.2))else U else bif(ae (b.2=18))then bif(ae (b.2=18))then(bX (a.1,a.2.1,a.2.2.1,()) [([49]:Bytes),([50]:Bytes),([51,49]:Bytes)]).bind λh=>bif ae (aeP ([115,104,105,102,116,32]:Bytes)+aeP h.2<=lim)then bif ae (aeP (([115,104,105,102,116,32]:Bytes)++h.2)+aeP ([32]:Bytes)<=lim)then(bX h.1 [([48]:Bytes),([56]:Bytes),([50,48]:Bytes)]).bind λo=>bif ae (aeP ((([115,104,105,102,116,32]:Bytes)++h.2)++([32]:Bytes))+aeP o.2<=lim)then bif ae (aeP (((([115,104,105,102,116,32]:Bytes)++h.2)++([32]:Bytes))++o.2)+aeP ([32]:Bytes)<=lim)then(bX o.1 [([54]:Bytes),([49,54]:Bytes),([49,54,57]:Bytes)]).bind λA=>bif ae (aeP ((((([115,104,105,102,116,32]:Bytes)++h.2)++([32]:Bytes))++o.2)++([32]:Bytes))+aeP A.2<=lim)then O (A.1,(((((([115,104,105,102,116,32]:Bytes)++h.2)++([32]:Bytes))++o.2)++([32]:Bytes))++A.2))else U else U else U else U else U else bif(ae (b.2=20))then(bX (a.1,a.2.1,a.2.2.1,()) [([48]:Bytes),([57]:Bytes),([50,49]:Bytes),([49,54,56]:Bytes)]).bind λB=>bif ae (aeP ([100,117,116,121,32]:Bytes)+aeP B.2<=lim)then O (B.1,(([100,117,116,121,32]:Bytes)++B.2))else U else(bX (a.1,a.2.1,a.2.2.1,()) ([cd,T9,[],dR,([99,111,100,101,32,65]:Bytes),([112,104,114,97,115,101,32,53,32,53]:Bytes),([102,105,114,115,116,32,48,32,48]:Bytes),([116,111,119,101,114,115,32,49]:Bytes),([100,117,116,121,32,120]:Bytes),([104,105,100,101,32,48,49]:Bytes),([119,104,101,114,101,32,49,48,48,48,48,48]:Bytes),([104,105,100,101,32,49,32,49,32,49,32,49,32,49,32,49,32,49,32,49,32,49,32,49,32,49,32,49,32,49,32,49,32,49,32,49,32,49,32,49,32,49,32,49]:Bytes),([114,101,97,100,32,49,32,49,32,49,32,49,32,49,32,49,32,49,32,49,32,49,32,49,32,49,32,49,32,49,32,49,32,49,32,49,32,49,32,49,32,49,32,49,32,49]:Bytes)]:List Bytes)).bind λF=>O (F.1,F.2)else bif(ae (b.2=19))then(bX (a.1,a.2.1,a.2.2.1,()) [([49]:Bytes),([50]:Bytes),([51,49]:Bytes)]).bind λi=>bif ae (aeP ([115,104,105,102,116,32]:Bytes)+aeP i.2<=lim)then bif ae (aeP (([115,104,105,102,116,32]:Bytes)++i.2)+aeP ([32]:Bytes)<=lim)then(bX i.1 [([48]:Bytes),([56]:Bytes),([50,48]:Bytes)]).bind λp=>bif ae (aeP ((([115,104,105,102,116,32]:Bytes)++i.2)++([32]:Bytes))+aeP p.2<=lim)then bif ae (aeP (((([115,104,105,102,116,32]:Bytes)++i.2)++([32]:Bytes))++p.2)+aeP ([32]:Bytes)<=lim)then(bX p.1 [([54]:Bytes),([49,54]:Bytes),([49,54,57]:Bytes)]).bind λC=>bif ae (aeP ((((([115,104,105,102,116,32]:Bytes)++i.2)++([32]:Bytes))++p.2)++([32]:Bytes))+aeP C.2<=lim)then O (C.1,(((((([115,104,105,102,116,32]:Bytes)++i.2)++([32]:Bytes))++p.2)++([32]:Bytes))++C.2))else U else U else U else U else U else bif(ae (b.2=20))then(bX (a.1,a.2.1,a.2.2.1,()) [([48]:Bytes),([57]:Bytes),([50,49]:Bytes),([49,54,56]:Bytes)]).bind λD=>bif ae (aeP ([100,117,116,121,32]:Bytes)+aeP D.2<=lim)then O (D.1,(([100,117,116,121,32]:Bytes)++D.2))else U else(bX (a.1,a.2.1,a.2.2.1,()) ([cd,T9,[],dR,([99,111,100,101,32,65]:Bytes),([112,104,114,97,115,101,32,53,32,53]:Bytes),([102,105,114,115,116,32,48,32,48]:Bytes),([116,111,119,101,114,115,32,49]:Bytes),([100,117,116,121,32,120]:Bytes),([104,105,100,101,32,48,49]:Bytes),([119,104,101,114,101,32,49,48,48,48,48,48]:Bytes),([104,105,100,101,32,49,32,49,32,49,32,49,32,49,32,49,32,49,32,49,32,49,32,49,32,49,32,49,32,49,32,49,32,49,32,49,32,49,32,49,32,49,32,49]:Bytes),([114,101,97,100,32,49,32,49,32,49,32,49,32,49,32,49,32,49,32,49,32,49,32,49,32,49,32,49,32,49,32,49,32,49,32,49,32,49,32,49,32,49,32,49,32,49]:Bytes)]:List Bytes)).bind λG=>O (G.1,G.2)
def C64:aR:=⟨[.dt w7],[rS],λx=>gv x⟩
theorem S64:SF 64 C64:=qB {eG [Xr,VJ,S83]with joins:=[(5,⟨[3,4,12],[],[(.normal,[.bx 0 100000 [.pv (.slice (.int .u8)),.pv tI,.pv (.int .u64)],.tv 13 .bool])]⟩),(8,⟨[3,4,12],[],[(.normal,[.bx 0 100000 [.pv (.slice (.int .u8)),.pv tI,.pv (.int .u64)],.tv 24 .bool])]⟩),(13,⟨[3,4,12],[],[(.normal,[.bx 0 100000 [.pv (.slice (.int .u8)),.pv tI,.pv (.int .u64)],.tv 51 .bool])]⟩),(16,⟨[3,12],[],[(.normal,[.bx 0 100000 [.pv (.slice (.int .u8)),.pv tI,.pv (.int .u64)],.tv 67 .bool])]⟩),(19,⟨[3,12],[],[(.normal,[.bx 0 100000 [.pv (.slice (.int .u8)),.pv tI,.pv (.int .u64)],.tv 79 .bool])]⟩),(26,⟨[3,12],[],[(.normal,[.bx 0 100000 [.pv (.slice (.int .u8)),.pv tI,.pv (.int .u64)],.tv 98 .bool])]⟩),(29,⟨[3,12],[],[(.normal,[.bx 0 100000 [.pv (.slice (.int .u8)),.pv tI,.pv (.int .u64)],.tv 108 .bool])]⟩)]} Tryz.func64
def jI(d:List Int):Option (Bytes):=(((nX (d,0,0,()) 5).bind λr1=>bif(!r1.2)then O (r1.1.1,r1.1.2.1,r1.1.2.2.1,([116,111,119,101,114,32,49,48,32,48,32,52,48,10,116,111,119,101,114,32,50,48,32,53,32,52,48,10,108,105,110,107,32,48,32,49,32,50,48,10,108,105,110,107,32,49,32,50,32,51,48,10,112,104,114,97,115,101,32,98,32,50,10,97,99,99,101,112,116,32,55,32,50,10]:Bytes))else O (r1.1.1,r1.1.2.1,r1.1.2.2.1,[]):Option (((List Int)×Int×Int×Bytes)))).bind λi=>(dD (i.1,i.2.1,i.2.2.1,()) 18).bind λr3=>(aX (λ(a:(List Int)×Int×Int×Bytes×Int)=>(bif(ae (0<=a.2.2.2.2))then(gv (a.1,a.2.1,a.2.2.1,())).bind λe=>bif ae (aeP e.2+aeP ([10]:Bytes)<=lim)then bif ae (aeP a.2.2.2.1+aeP (e.2++([10]:Bytes))<=lim)then O (.inl (e.1.1,e.1.2.1,e.1.2.2.1,(a.2.2.2.1++(e.2++([10]:Bytes))),(aW (a.2.2.2.2-1))))else U else U else O (.inr (a.1,a.2.1,a.2.2.1,a.2.2.2.1)):Option (((List Int)×Int×Int×Bytes×Int)⊕(((List Int)×Int×Int×Bytes))))) (r3.1.1,r3.1.2.1,r3.1.2.2.1,i.2.2.2,r3.2)).bind λf=>(dD (f.1,f.2.1,f.2.2.1,()) 30).bind λg=>bif(ae (g.2=0))then(sub f.2.2.2 0 (aW ((f.2.2.2.length:Int)-1))).bind λm=>O m else bif(ae (g.2=1))then(dD g.1 2).bind λj=>(aX (λ(b:Bytes×Int)=>(bif(ae (0<b.2))then bif ae (aeP b.1+aeP ([116,111,119,101,114,115,10]:Bytes)<=lim)then O (.inl ((b.1++([116,111,119,101,114,115,10]:Bytes)),(aW (b.2-1))))else U else O (.inr b.1):Option ((Bytes×Int)⊕(Bytes)))) ([],(aW (40+j.2)))).bind λk=>O k else bif(ae (g.2=2))then O []else bif(ae (g.2=3))then(dD g.1 2).bind λl=>(aX (λ(c:Bytes)=>(bif(ae ((c.length:Int)<(aW (1999+l.2))))then bif ae (aeP c+aeP ([120]:Bytes)<=lim)then O (.inl (c++([120]:Bytes)))else U else O (.inr c):Option ((Bytes)⊕(Bytes)))) ([116,111,119,101,114,115,10]:Bytes)).bind λh=>bif ae (aeP h+aeP ([10]:Bytes)<=lim)then O (h++([10]:Bytes))else U else O f.2.2.2
def C34:aR:=⟨[.val (.slice (.int .u8))],[rS],λx=>jI x⟩
theorem S8:SF 34 C34:=qV {eG [C8,Xr,S64]with loops:=[(6,⟨[],[.bx 3 160 [.pv (.slice (.int .u8)),.pv tI,.pv (.int .u64)],.tv 4 .str,.tv 5 tI],[(.exit 0,[.bx 3 160 [.pv (.slice (.int .u8)),.pv tI,.pv (.int .u64)],.tv 4 .str])]⟩),(15,⟨[],[.tv 4 .str,.tv 6 tI],[(.exit 3,[.tv 4 .str])]⟩),(23,⟨[7],[.tv 4 .str],[(.exit 5,[.tv 4 .str])]⟩)],joins:=[(5,⟨[],[],[(.normal,[.bx 3 160 [.pv (.slice (.int .u8)),.pv tI,.pv (.int .u64)],.tv 4 .str])]⟩)]} Tryz.func34
def jy(a:List Int):Option (Bytes×Bytes):=(jI a).bind λr1=>(gv (a,0,0,())).bind λr2=>bif ae (aeP r2.2+aeP ([10]:Bytes)<=lim)then(nX r2.1 10).bind λr3=>bif r3.2 then O (r1,cd)else O (r1,(r2.2++([10]:Bytes)))else U
def C35:aR:=⟨[.val (.slice (.int .u8))],[rS,rS],λx=>jy x⟩
theorem S35:SF 35 C35:=qV (eG [S8,C8,S64]) Tryz.func35
def nA(a:Bytes)(b:Bytes):Option (Bytes×Bool):=(gT a).bind λr1=>(gT b).bind λr2=>bif ae (aeP a+aeP b<=lim)then(gT (a++b)).bind λr3=>(bif(!r1.2)then O true else O (!r2.2)).bind λc4=>(bif c4 then O true else O (!r3.2)).bind λc5=>bif c5 then O ([],false)else bif ae (aeP a+aeP b<=lim)then O ((a++b),true)else U else U
def C36:aR:=⟨[vS,vS],[rS,rB],λx=>nA x.1 x.2⟩
theorem S36:SF 36 C36:=qV (eG [x7]) Tryz.func36
def nH(a:Bytes)(b:Bytes):Option (Bytes×Bool):=(mP a).bind λr1=>(mP b).bind λr2=>bif ae (aeP a+aeP b<=lim)then(mP (a++b)).bind λr3=>(bif(!r1.2)then O true else O (!r2.2)).bind λc4=>(bif c4 then O true else O (!r3.2)).bind λc5=>bif c5 then O ([],false)else bif ae (aeP a+aeP b<=lim)then O ((a++b),true)else U else U
def C37:aR:=⟨[vS,vS],[rS,rB],λx=>nH x.1 x.2⟩
theorem S37:SF 37 C37:=qV (eG [S5]) Tryz.func37
def zY(a:List Int)(b:List Int):Option (Bool):=
 bif(!decide ((a.length:Int)=(b.length:Int)))then
 O false
 else
 (aX (λ(st2:Int)=>(
 bif(ae (st2<(a.length:Int)))then
 (idx a st2).bind λc=>
 (idx b st2).bind λd=>
 bif(!decide (c=d))then
 O (.inr (.inr false))
 else
 O (.inl (aW (st2+1)))
 else
 O (.inr (.inl ())):Option ((Int)⊕(Unit⊕Bool)))) 0).bind λe=>
 match e with
 |.inl _=>
  O true
 |.inr f=>
  O f
def C38:aR:=⟨[.val (.slice tI),.val (.slice tI)],[rB],λx=>zY x.1 x.2⟩
theorem YO:SF 38 C38:=qV {eG []with loops:=[(4,⟨[0,1,12],[.tv 13 tI],[(.exit 0,[]),(.ret,[.tv 4 .bool])]⟩)]} Tryz.func38
def AO(a:List Int)(b:Int):Option (Bool):=
 (aX (λ(st2:Int)=>(
 bif(ae (st2<(a.length:Int)))then
 (idx a st2).bind λc=>
 bif(ae (c=b))then
 O (.inr (.inr true))
 else
 O (.inl (aW (st2+1)))
 else
 O (.inr (.inl ())):Option ((Int)⊕(Unit⊕Bool)))) 0).bind λo4=>
 match o4 with
 |.inl _=>
  O false
 |.inr y6=>
  O y6
def C39:aR:=⟨[.val (.slice tI),vI],[rB],λx=>AO x.1 x.2⟩
theorem S39:SF 39 C39:=qV {eG []with loops:=[(2,⟨[1,7,8],[.tv 9 tI],[(.exit 0,[]),(.ret,[.tv 4 .bool])]⟩)]} Tryz.func39
def DI(b:b9)(c:b9):Option (Bool):=
 (bif(!decide ((b.1.length:Int)=(c.1.length:Int)))then
 O true
 else
 O (!decide ((b.2.1.length:Int)=(c.2.1.length:Int)))).bind λc1=>
 bif c1 then
 O false
 else
 (aX (λ(d:Int)=>(
 bif(ae (d<(b.1.length:Int)))then
 (idx b.1 d).bind λg=>
 (idx c.1 d).bind λh=>
 bif(!(ae (g.1=h.1)&& (ae (g.2.1=h.2.1)&& (ae (g.2.2.1=h.2.2.1)&&true))))then
 O (.inr (.inr false))
 else
 O (.inl (aW (d+1)))
 else
 O (.inr (.inl ())):Option ((Int)⊕(Unit⊕Bool)))) 0).bind λk=>
 match k with
 |.inl _=>
  (aX (λ(a:Int)=>(
  bif(ae (a<(b.2.1.length:Int)))then
  (idx b.2.1 a).bind λe=>
  (idx c.2.1 a).bind λf=>
  bif(!(ae (e.1=f.1)&& (ae (e.2.1=f.2.1)&& (ae (e.2.2.1=f.2.2.1)&&true))))then
  O (.inr (.inr false))
  else
  O (.inl (aW (a+1)))
  else
  O (.inr (.inl ())):Option ((Int)⊕(Unit⊕Bool)))) 0).bind λi=>
  match i with
  |.inl _=>
   O true
  |.inr j=>
   O j
 |.inr l=>
  O l
def C40:aR:=⟨[.val dH,.val dH],[rB],λx=>DI x.1 x.2⟩
theorem S40:SF 40 C40:=qV {eG []with ro:=[2,3],loops:=[(4,⟨[2,3,25],[.tv 26 tI],[(.exit 0,[]),(.ret,[.tv 4 .bool])]⟩),(10,⟨[2,3,43],[.tv 44 tI],[(.exit 2,[]),(.ret,[.tv 4 .bool])]⟩)],eqs:=[(104,aU),(106,aU)]} Tryz.func40 (hI:=SQ (by kernel_rfl) kQ)
def yX(a:bE)(b:bE):Option (Bool):=
 bif(!decide ((a.1.length:Int)=(b.1.length:Int)))then
 O false
 else
 (aX (λ(st2:Int)=>(
 bif(ae (st2<(a.1.length:Int)))then
 (idx a.1 st2).bind λd=>
 (idx b.1 st2).bind λe=>
 (bif(!decide (d.1=e.1))then
 O true
 else
 (idx b.1 st2).bind λf=>
 (zY d.2.1 f.2.1).bind λg=>
 O (!g)).bind λh=>
 bif h then
 O (.inr (.inr false))
 else
 O (.inl (aW (st2+1)))
 else
 O (.inr (.inl ())):Option ((Int)⊕(Unit⊕Bool)))) 0).bind λi=>
 match i with
 |.inl _=>
  O true
 |.inr c=>
  O c
def C41:aR:=⟨[.val cO,.val cO],[rB],λx=>yX x.1 x.2⟩
theorem S41:SF 41 C41:=qV {eG [YO] [2,3]with loops:=[(4,⟨[3,15,16],[.tv 17 tI],[(.exit 0,[]),(.ret,[.tv 4 .bool])]⟩)]} Tryz.func41
def qI(b:List aT)(a:List aT):Option (Bool):=
 bif(!decide ((b.length:Int)=(a.length:Int)))then
 O false
 else
 (aX (λ(st2:Int)=>(
 bif(ae (st2<(b.length:Int)))then
 (idx b st2).bind λc=>
 (idx a st2).bind λh=>
 (bif(!decide (c.1=h.1))then
 O true
 else
 (idx a st2).bind λi=>
 O (!decide (c.2.1=i.2.1))).bind λj=>
 (bif j then
 O true
 else
 (idx a st2).bind λk=>
 O (!decide (c.2.2.2.1=k.2.2.2.1))).bind λl=>
 (bif l then
 O true
 else
 (idx a st2).bind λm=>
 (zY c.2.2.1 m.2.2.1).bind λd=>
 O (!d)).bind λe=>
 bif e then
 O (.inr (.inr false))
 else
 O (.inl (aW (st2+1)))
 else
 O (.inr (.inl ())):Option ((Int)⊕(Unit⊕Bool)))) 0).bind λf=>
 match f with
 |.inl _=>
  O true
 |.inr g=>
  O g
def C42:aR:=⟨[.val (.slice bt),.val (.slice bt)],[rB],λx=>qI x.1 x.2⟩
theorem S42:SF 42 C42:=qV {eG [YO]with loops:=[(4,⟨[1,12,13],[.tv 14 tI],[(.exit 0,[]),(.ret,[.tv 4 .bool])]⟩)]} Tryz.func42
def vL(b:List Int)(c:List Int):Option (Bool):=
 bif(ae (1048576<(aW ((b.length:Int)+(c.length:Int)))))then
 O true
 else
 (jI b).bind λr1=>
 (gO r1).bind λr2=>
 (qF r1).bind λr3=>
 (jl r1).bind λu=>
 (kB r1).bind λs=>
 (jy c).bind λn=>
 (nA n.1 n.2).bind λt=>
 (nH n.1 n.2).bind λr8=>
 (bif(!decide (r2=r3))then
 O true
 else
 O (u.2 !=s.2)).bind λc9=>
 (bif c9 then
 O true
 else
 (zY u.1 s.1).bind λv=>
 O (!v)).bind λw=>
 (bif w then
 O true
 else
 O (t.2 !=r8.2)).bind λc12=>
 (bif c12 then
 O true
 else
 O (!decide (t.1=r8.1))).bind λx=>
 bif x then
 O false
 else
 ((bif t.2 then
 (gO n.1).bind λf=>
 (gO t.1).bind λo=>
 (bif(ae ((o.length:Int)<(f.length:Int)))then
 O true
 else
 (sub o 0 (f.length:Int)).bind λy=>
 O (!decide (y=f))).bind λz=>
 bif z then
 O (.inr false)
 else
 O (.inl s.1)
 else
 O (.inl s.1):Option ((List Int)⊕Bool))).bind λA=>
 match A with
 |.inl B=>
  bif(!u.2)then
  O (ae (r2=[]))
  else
  (aX (λ(a:(List Int)×Bytes×Int×Int)=>(
  bif(ae (a.2.2.2<(r1.length:Int)))then
  (AO a.1 a.2.2.1).bind λC=>
  bif(!C)then
  (sub r1 a.2.2.2 (aW (a.2.2.2+1))).bind λg=>
  bif ae (aeP a.2.1+aeP g<=lim)then
  (idx r1 a.2.2.2).bind λD=>
  bif(ae ((D.toNat:Int)=10))then
  O (.inl (a.1,(a.2.1++g),(aW (a.2.2.1+1)),(aW (a.2.2.2+1))))
  else
  O (.inl (a.1,(a.2.1++g),a.2.2.1,(aW (a.2.2.2+1))))
  else
  U
  else
  (idx r1 a.2.2.2).bind λE=>
  bif(ae ((E.toNat:Int)=10))then
  O (.inl (a.1,a.2.1,(aW (a.2.2.1+1)),(aW (a.2.2.2+1))))
  else
  O (.inl (a.1,a.2.1,a.2.2.1,(aW (a.2.2.2+1))))
  else
  O (.inr (a.1,a.2.1,a.2.2.1)):Option (((List Int)×Bytes×Int×Int)⊕(((List Int)×Bytes×Int))))) (B,[],1,0)).bind λe=>
  (kV r1).bind λh=>
  (kV e.2.1).bind λp=>
  (qx r1).bind λi=>
  (jQ r1).bind λj=>
  (jQ e.2.1).bind λq=>
  (nL r1).bind λk=>
  (gy r1).bind λl=>
  (gy e.2.1).bind λr=>
  (jO r1).bind λm=>
  (jU r1).bind λd=>
  (bif h.2 then
  O p.2
  else
  O false).bind λF=>
  (bif F then
  O i.2
  else
  O false).bind λG=>
  (bif G then
  (DI h.1 i.1).bind λH=>
  O H
  else
  O false).bind λI=>
  (bif I then
  (DI p.1 i.1).bind λJ=>
  O J
  else
  O false).bind λK=>
  (bif K then
  O j.2
  else
  O false).bind λL=>
  (bif L then
  O q.2
  else
  O false).bind λM=>
  (bif M then
  O k.2
  else
  O false).bind λc46=>
  (bif c46 then
  (yX j.1 k.1).bind λN=>
  O N
  else
  O false).bind λP=>
  (bif P then
  (yX q.1 k.1).bind λQ=>
  O Q
  else
  O false).bind λR=>
  (bif R then
  O l.2
  else
  O false).bind λc51=>
  (bif c51 then
  O r.2
  else
  O false).bind λS=>
  (bif S then
  O m.2
  else
  O false).bind λc53=>
  (bif c53 then
  (qI l.1 m.1).bind λT=>
  O T
  else
  O false).bind λV=>
  (bif V then
  (qI r.1 m.1).bind λW=>
  O W
  else
  O false).bind λX=>
  (bif X then
  O d.2.2.2
  else
  O false).bind λY=>
  (bif Y then
  O (ae ((aW (d.1+d.2.1))=(e.1.length:Int)))
  else
  O false).bind λc59=>
  (bif c59 then
  O (ae ((aW ((aW (d.1+d.2.1))+d.2.2.1))=(aW (e.2.2-1))))
  else
  O false).bind λZ=>
  (bif Z then
  (pj h.1).bind λaa=>
  O aa
  else
  O false).bind λab=>
  (bif ab then
  (nO j.1).bind λac=>
  O ac
  else
  O false).bind λad=>
  (bif ad then
  (cD l.1).bind λaf=>
  O af
  else
  O false).bind λag=>
  O ag
 |.inr al=>
  O al
def C9:aR:=⟨[.val (.slice (.int .u8)),.val (.slice (.int .u8))],[rB],λx=>vL x.1 x.2⟩
theorem S9:SF 9 C9:=qV {eG [C5,S7,y9,S14,S15,S19,S20,S24,S25,S29,S30,S8,S35,S36,S37,YO,S39,S40,S41,S42,Wl,Xt,VL]with loops:=[(21,⟨[5,207,210,213,214,215,218,219,220,223,226,229,232,233,234,237,238,239,242,245,248,251,252,253,256,257,258,261,264,265,266,267,268,269,272,273,274,275,276,277,278,279,282,283,286,287,290,291],[.own 10 [] 1024 tI true,.tv 20 .str,.tv 21 tI,.tv 22 tI],[(.exit 0,[.own 10 [] 1024 tI true,.tv 20 .str,.tv 21 tI])]⟩)],joins:=[(17,⟨[5,6,9],[],[(.normal,[.own 10 [] 1024 tI true]),(.ret,[.tv 4 .bool])]⟩)]} Tryz.func9
end
end Sh
