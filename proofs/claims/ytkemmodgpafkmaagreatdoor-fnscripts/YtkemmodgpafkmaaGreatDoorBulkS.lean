/-
  ReadMessage: the ways to read, both ways the same.
-/
import Derived.Test.YtkemmodgpafkmaaGreatDoorSPK5
import Derived.Test.YtkemmodgpafkmaaGreatDoorXOps
import Derived.Test.YtkemmodgpafkmaaGreatDoorXStr
import Derived.Test.YtkemmodgpafkmaaGreatDoorSFns3
import Derived.Test.YtkemmodgpafkmaaGreatDoorSB5
import Derived.Test.YtkemmodgpafkmaaGreatDoorRows
import Derived.KernelRfl
open Bool renaming and_false->ag1,and_self->ag2,false_or->aeo,not_false->ag5,not_true->afl,or_eq_false_iff->aeq,or_eq_true->af8,true_and->ag6
open Decidable renaming decide->ae
open Int renaming le_refl->aes,le_trans->aet,toNat->agC
open List renaming all_eq_true->aga,append_nil->aew,cons_append->agc,countP_append->ahM,countP_cons->ahN,countP_le_length->ahO,countP_nil->ahP,dropLast_subset->ahQ,eq_nil_or_concat->ahR,ext_getElem?->aeC,flatMap->ahS,flatMap_cons->ahT,foldl_append->ahU,foldl_cons->aeG,getD_eq_getElem?_getD->afp,getElem?_cons_succ->ahg,getElem?_eq_none->agi,getElem?_eq_some_iff->aeK,getElem?_range->ahh,getElem?_replicate->agj,getElem?_set->ahV,getElem?_set_ne->afq,getElem?_set_self->afr,getElem?_take_of_lt->afs,length->aeP,length_cons->aeQ,length_drop->aft,length_map->agE,length_nil->aeR,length_replicate->ahW,length_set->afv,mem_append_left->afC,mem_cons->aeT,mem_map->agn,mem_range->ahn,mem_singleton->afI,nil_append->afJ,not_mem_nil->ahq,range->agH,replicate->aeU,set_append_right->ahX,set_cons_zero->ahY
open Nat renaming le_of_lt->ahE,not_lt_zero->ahG,pow_le_pow_right->ahZ,sub_self->ah0,sub_zero->afU,zero_add->afb,zero_le->afc
open Option renaming map->afW,none->U,some->O
namespace Sh
open Go Go.Ab Go.Proofs
theorem I8{a:List Int}(h:a.length<=maxLen)(b:List Int):qy a b=iK a b:=by unfold qy iK;simp only[Q.Ii h,Q.KN h]
theorem GL(b:bE)(s:List Int):pN b s=pM b s:=rfl
end Sh
namespace Go.Ab
theorem DJ{α:Type}{p:α->Bool}:∀{l:List α},l.Pairwise (λa b=>¬(p a=true/\p b=true))->l.countP p<=1
 |[],_=>afc _
 |x::l,h=>by rw[List.pairwise_cons]at h;have c:=DJ h.2;rw[ahN];cases hx:p x with|false=>simpa using c|true=>(have:l.countP p=0:=by rw[List.countP_eq_zero];exact λy d hp=>h.1 y d ⟨hx,hp⟩);simp[this]
theorem tx{α:Type}{t:α->Bool}:∀{l:List α} {k:Nat},bD t l k=U->∀x∈l,t x=false
 |[],_,_,_,h=>by cases h
 |y::l,k,h,x,hx=>by simp only[bD]at h;cases a:t y with|true=>rw[a]at h;cases h|false=>rw[a]at h;rcases aeT.1 hx with rfl|hx;{exact a};{exact tx h x hx}
theorem pq{α:Type}{t:α->Bool}:∀{l:List α} (k:Nat) {x:α},x∈l->t x=true->∃i,bD t l k=O i
 |[],_,_,h,_=>by cases h
 |y::l,k,x,hx,ht=>by simp only[bD];cases a:t y with|true=>exact⟨k,rfl⟩|false=>rcases aeT.1 hx with rfl|hx;{rw[a]at ht;cases ht};{exact pq (k+1) hx ht}
end Go.Ab
namespace Sh.Q
open Go Go.Ab Go.Proofs
def Gv(a b:List Int):Bool:=ae ((a.length:Int)<=(b.length:Int))&&ae (a=b.take a.length)
theorem Cm{a b:List Int}(h:Gv a b=true):a.length<=b.length:=by unfold Gv at h;simp only[ak,au]at h;omega
theorem tO{b:bE}(a:dm b=true):∀x∈b.1,1<=x.2.1.length/\x.2.1.length<=3:=λx hx=>by
  have:=vE a hx;simp only[fD,bZ,ak,au]at this;omega
theorem Lp{b:bE}(a:dm b=true):b.1.Pairwise (λx y=>x.2.1≠y.2.1):=by rw[List.pairwise_iff_getElem];intro i j hi c d e;simp only[dm,ak,aga]at a;have h:=a.1 j (ahn.2 c);(have f:b.1[j]? =O b.1[j]:=by simp[c]);simp only[rP,f,ak,Option.isNone_iff_eq_none]at h;have:=tx h.2 b.1[i] (by rw[List.mem_take_iff_getElem];exact⟨i,by omega,rfl⟩);rw[e]at this;simp at this
theorem Lb{ps:List aV}(hp:∀x∈ps,1<=x.2.1.length/\x.2.1.length<=3)(p:aV->Bool):ps.countP p=ps.countP (λx=>p x&&ae (x.2.1.length=1))+ps.countP (λx=>p x&&ae (x.2.1.length=2))+ps.countP (λx=>p x&&ae (x.2.1.length=3)):=by induction ps with|nil=>rfl|cons x ps a=>have h1:=hp x (by simp);have a:=a λy b=>hp y (aL _ b);simp only[ahN,a];cases p x with|false=>simp|true=>(have:x.2.1.length=1\/x.2.1.length=2\/x.2.1.length=3:=by omega);rcases this with e|e|e<;>simp[e]<;>omega
theorem ML{b:bE}(c:dm b=true)(s:List Int):b.1.countP (λx=>Gv x.2.1 s)<=3:=by rw[Lb (tO c)];have key:∀k:Nat,b.1.countP (λx=>Gv x.2.1 s&&ae (x.2.1.length=k))<=1:=λk=>DJ ((Lp c).imp λ{x y} a h=>by simp only[Gv,ak,au]at h;exact a (h.1.1.2.trans ((by rw[h.1.2,h.2.2]:s.take x.2.1.length=s.take y.2.1.length).trans h.2.1.2.symm)));have k1:=key 1;have k2:=key 2;have k3:=key 3;omega
theorem Mw{a:List Int}(ha:a.length<=maxLen)(b:List Int):iK a b=O (Gv a b):=by unfold iK Gv;by_cases h:(a.length:Int)<=(b.length:Int);{rw[aq h];(have e:sub b 0 (a.length:Int)=O (b.take a.length):=by unfold sub;rw[aN ⟨by omega,by omega,by omega⟩];simp);simp only[ai,e,ah,KN ha,ag6]};{rw[ar h];rfl}
end Sh.Q
namespace Arr
structure jx where
  n:Nat
  qM:Nat->Nat->Nat->Prop
  ov:Nat->Int->Int
  a:Nat
  t0:Int
  hn:n<=16
  ha:a<n
  h0:0<=t0/\t0<=10000
  he:∀k u v,qM k u v->u<n/\v<n
  up:∀k u v s,qM k u v->s<ov k s
  mono:∀k s s',s<=s'->ov k s<=ov k s'
  bd:∀k u v s B,qM k u v->s<=B->10000<=B->ov k s<=B+60
inductive Reach (G:jx):Nat->Int->Prop
  |base:Reach G G.a G.t0
  |step {k u v:Nat} {s:Int}:Reach G u s->G.qM k u v->Reach G v (G.ov k s)
def tm(ts:List Int)(v:Nat):Int:=ts.getD v (-1)
theorem ky{ts:List Int}{v:Nat}(h:v<ts.length):ts[v]? =O (tm ts v):=by unfold tm;rw[afp,aJ h];rfl
theorem oH{ts:List Int}{u:Nat}(h:u<ts.length)(x:Int)(v:Nat):tm (ts.set u x) v=if v=u then x else tm ts v:=by unfold tm;rw[afp,afp,ahV];by_cases e:u=v;{subst e;rw[aN rfl,aN h,aN rfl];rfl};{rw[aM e,aM (λh=>e h.symm)]}
def sumOf(f:Int->Nat):List Int->Nat
 |[]=>0
 |x::r=>f x+sumOf f r
theorem HJ(f:Int->Nat):∀(l:List Int) (i:Nat) (x:Int),i<l.length->sumOf f (l.set i x)+f (tm l i)=sumOf f l+f x
 |[],_,_,h=>absurd h (ahG _)
 |y::l,0,x,_=>by show f x+sumOf f l+f y=f y+sumOf f l+f x;omega
 |y::l,i+1,x,h=>by have a:=HJ f l i x (by simpa using h);(have e:tm (y::l) (i+1)=tm l i:=by unfold tm;rw[afp,afp,ahg]);rw[e];show f y+sumOf f (l.set i x)+f (tm l i)=f y+sumOf f l+f x;omega
def one(x:Int):Nat:=if 0<=x then 1 else 0
def Uv(x:Int):Nat:=if x<0 then 20000 else x.toNat
def cnt(l:List Int):Nat:=sumOf one l
def KA(l:List Int):Nat:=sumOf Uv l
theorem Lu:∀l:List Int,cnt l<=l.length
 |[]=>aB _
 |x::l=>by have a:=Lu l;(have h1:one x<=1:=by unfold one;split<;>omega);show one x+cnt l<=l.length+1;omega
structure Inv (G:jx) (ts:List Int):Prop where
  len:ts.length=G.n
  Vy:∀v,v<G.n->0<=tm ts v->Reach G v (tm ts v)
  neg:∀v,v<G.n->tm ts v<0->tm ts v= -1
  start:tm ts G.a=G.t0
  bd:∀v,v<G.n->tm ts v<=10000+60*(cnt ts:Int)
def kX(G:jx)(ts:List Int):Prop:=∀k u v,G.qM k u v->0<=tm ts u->0<=tm ts v/\tm ts v<=G.ov k (tm ts u)
theorem Inv.le{G:jx}{ts:List Int}(I:Inv G ts){v:Nat}(a:v<G.n):tm ts v<=10960:=by have h1:=I.bd v a;have b:=Lu ts;have c:=G.hn;have d:=I.len;omega
theorem Reach.ge{G:jx}{v:Nat}{s:Int}(r:Reach G v s):G.t0<=s:=by induction r with|base=>exact aes _|step _ e a=>exact aet a (Int.le_of_lt (G.up _ _ _ _ e))
theorem z7{G:jx}{ts:List Int}(I:Inv G ts)(C:kX G ts){v:Nat}{s:Int}(r:Reach G v s):0<=tm ts v/\tm ts v<=s:=by induction r with|base=>rw[I.start];exact⟨G.h0.1,aes _⟩|step _ e a=>have:=C _ _ _ e a.1;exact⟨this.1,aet this.2 (G.mono _ _ _ a.2)⟩
theorem unique{G:jx}{ts us:List Int}(I:Inv G ts)(C:kX G ts)(b:Inv G us)(c:kX G us):ts=us:=by refine aeC λv=> ?_;by_cases a:v<G.n;{rw[ky (by rw[I.len];exact a),ky (by rw[b.len];exact a)];congr 1;by_cases h:0<=tm ts v;{have d:=z7 b c (I.Vy v a h);have f:=z7 I C (b.Vy v a d.1);omega};{have e:=I.neg v a (by omega);by_cases h':0<=tm us v;{have:=z7 I C (b.Vy v a h');omega};{rw[e,b.neg v a (by omega)]}}};{rw[agi (by rw[I.len];omega),agi (by rw[b.len];omega)]}
theorem Inv.put{G:jx}{ts:List Int}(I:Inv G ts){k u v:Nat}(e:G.qM k u v)(hp:0<=tm ts u)(hl:tm ts v<0\/G.ov k (tm ts u)<tm ts v):Inv G (ts.set v (G.ov k (tm ts u)))/\KA (ts.set v (G.ov k (tm ts u)))<KA ts:=by obtain⟨hu,g⟩:=G.he k u v e;have ge:=(I.Vy u hu hp).ge;have lt:=G.up k u v (tm ts u) e;(have b:v<ts.length:=by rw[I.len];exact g);have o:=G.bd k u v (tm ts u) (10000+60*(cnt ts:Int)) e (I.bd u hu) (by omega);have hc:=HJ one ts v (G.ov k (tm ts u)) b;have hm:=HJ Uv ts v (G.ov k (tm ts u)) b;have h0:=G.h0;have hle:=I.le g;have i:=Lu ts;have hn:=G.hn;have hlen:=I.len;have j:=Reach.step (I.Vy u hu hp) e;generalize hx:G.ov k (tm ts u)=x at*;refine⟨⟨by rw[afv];exact I.len,λw hw f=> ?_,λw hw d=> ?_,?_,λw hw=> ?_⟩,?_⟩;{rw[oH b]at f⊢;by_cases c:w=v;{rw[aN c,c];exact j};{rw[aM c]at f⊢;exact I.Vy w hw f}};{rw[oH b]at d⊢;by_cases c:w=v;{rw[aN c]at d;omega};{rw[aM c]at d⊢;exact I.neg w hw d}};{rw[oH b];by_cases hav:G.a=v;{have:=I.start;rw[hav]at this;omega};{rw[aM hav];exact I.start}};{have l:=I.bd w hw;have m:=I.bd v g;rw[oH b];(have n:one x=1:=by unfold one;rw[aN (by omega)]);unfold cnt at*;rcases hl with hl|hl;{(have h:one (tm ts v)=0:=by unfold one;rw[aM (by omega)]);split<;>omega};{(have h:one (tm ts v)=1:=by unfold one;rw[aN (by omega)]);split<;>omega}};{unfold KA;(have n:Uv x=x.toNat:=by unfold Uv;rw[aM (by omega)]);unfold cnt at*;rcases hl with hl|hl;{(have h:Uv (tm ts v)=20000:=by unfold Uv;rw[aN hl]);omega};{(have h:Uv (tm ts v)=(tm ts v).toNat:=by unfold Uv;rw[aM (by omega)]);omega}}
theorem Inv.first(G:jx):Inv G ((aeU G.n (-1)).set G.a G.t0):=by(have hl:G.a<(aeU G.n (-1:Int)).length:=by rw[ahW];exact G.ha);(have b:∀v,tm (aeU G.n (-1)) v= -1:=λv=>by unfold tm;rw[afp,agj];split<;>rfl);have h0:=G.h0;refine⟨by rw[afv,ahW],λv _ hp=> ?_,λv _ hn=> ?_,?_,λv _=> ?_⟩;{rw[oH hl]at hp⊢;by_cases e:v=G.a;{rw[aN e,e];exact .base};{rw[aM e,b]at hp;omega}};{rw[oH hl]at hn⊢;by_cases e:v=G.a;{rw[aN e]at hn;omega};{rw[aM e,b]}};{rw[oH hl,aN rfl]};{rw[oH hl];by_cases e:v=G.a;{rw[aN e];omega};{rw[aM e,b];omega}}
theorem pred{G:jx}{ts:List Int}(I:Inv G ts)(C:kX G ts){v:Nat}(c:v<G.n)(b:v≠G.a)(h:0<=tm ts v):∃k u,G.qM k u v/\0<=tm ts u/\G.ov k (tm ts u)=tm ts v:=by have r:=I.Vy v c h;generalize hs:tm ts v=s at r;cases r with|base=>exact absurd rfl b|@step k u _ s r e=>have h1:=z7 I C r;have d:=C _ _ _ e h1.1;have f:=G.mono k _ _ h1.2;exact⟨_,_,e,h1.1,by omega⟩
structure Part (G:jx) (i:Nat) (dn:Nat->Prop) (old ts:List Int) (j:Nat):Prop where
  inv:Inv G ts
  keep:∀u,u<G.n->dn u\/u=i->tm ts u=tm old u
  less:∀v,v<G.n->0<=tm old v->0<=tm ts v/\tm ts v<=tm old v
  hi:∀v,v<G.n->¬dn v->v≠i->0<=tm ts v->tm old i<=tm ts v
  seen:∀k v,k<j->G.qM k i v->0<=tm ts v/\tm ts v<=G.ov k (tm old i)
structure Mid (G:jx) (dn:Nat->Prop) (ts:List Int):Prop where
  inv:Inv G ts
  pos:∀u,u<G.n->dn u->0<=tm ts u
  low:∀u v,u<G.n->v<G.n->dn u->¬dn v->0<=tm ts v->tm ts u<=tm ts v
  shut:∀k u v,dn u->G.qM k u v->0<=tm ts v/\tm ts v<=G.ov k (tm ts u)
theorem Part.begin{G:jx}{dn:Nat->Prop}{ts:List Int}(M:Mid G dn ts){i:Nat}(hi:∀v,v<G.n->¬dn v->0<=tm ts v->tm ts i<=tm ts v):Part G i dn ts ts 0:=⟨M.inv,λ_ _ _=>rfl,λ_ _ h=>⟨h,aes _⟩,λv a b _ h=>hi v a b h,λ_ _ h=>absurd h (ahG _)⟩
theorem Part.none{G:jx}{i j:Nat}{dn:Nat->Prop}{old ts:List Int}(P:Part G i dn old ts j)(h:∀v,¬G.qM j i v):Part G i dn old ts (j+1):=
  ⟨P.inv,P.keep,P.less,P.hi,λk v hk e=>by
    by_cases a:k<j
    ·exact P.seen k v a e
    ·obtain rfl:k=j:=by omega
     exact absurd e (h v)⟩
theorem Part.same{G:jx}{i j v:Nat}{dn:Nat->Prop}{old ts:List Int}(P:Part G i dn old ts j)(h1:∀w,G.qM j i w->w=v)(h:0<=tm ts v/\tm ts v<=G.ov j (tm old i)):Part G i dn old ts (j+1):=
  ⟨P.inv,P.keep,P.less,P.hi,λk w hk e=>by
    by_cases a:k<j
    ·exact P.seen k w a e
    ·obtain rfl:k=j:=by omega
     obtain rfl:=h1 w e;exact h⟩
theorem Part.put{G:jx}{i j v:Nat}{dn:Nat->Prop}{old ts:List Int}(M:Mid G dn old)(P:Part G i dn old ts j)(hi:i<G.n)(s:¬dn i)(h0:0<=tm old i)(h1:∀w,G.qM j i w->w=v)(e:G.qM j i v)(g:v≠i)(hl:tm ts v<0\/G.ov j (tm old i)<tm ts v):Part G i dn old (ts.set v (G.ov j (tm old i))) (j+1):=by have l:=P.keep i hi (.inr rfl);obtain⟨_,f⟩:=G.he _ _ _ e;(have c:v<ts.length:=by rw[P.inv.len];exact f);have I:=(P.inv.put (k:=j) (u:=i) (v:=v) e (by rw[l];exact h0) (by rw[l];exact hl)).1;rw[l]at I;have lt:=G.up j i v (tm old i) e;(have b:¬dn v:=λb=>by have k1:=P.keep v f (.inl b);have k2:=M.low v i f hi b s h0;have k3:=M.pos v f b;omega);refine⟨I,λu hu d=> ?_,λw hw hp=> ?_,λw hw m o hp=> ?_,λk w hk p=> ?_⟩;{rw[oH c,aM];{exact P.keep u hu d};{rintro rfl;rcases d with h|h;{exact b h};{exact g h}}};{have q:=P.less w hw hp;rw[oH c];by_cases a:w=v;{subst a;rw[aN rfl];omega};{rw[aM a];exact q}};{rw[oH c]at hp⊢;by_cases a:w=v;{rw[aN a];omega};{rw[aM a]at hp⊢;exact P.hi w hw m o hp}};{rw[oH c];by_cases a:w=v;{subst a;rw[aN rfl];by_cases r:k<j;{have q:=P.seen k w r p;omega};{(obtain rfl:k=j:=by omega);omega}};{rw[aM a];by_cases r:k<j;{exact P.seen k w r p};{(obtain rfl:k=j:=by omega);exact absurd (h1 w p) a}}}
theorem Part.done{G:jx}{i m:Nat}{dn:Nat->Prop}{old ts:List Int}(M:Mid G dn old)(P:Part G i dn old ts m)(hi:i<G.n)(h0:0<=tm old i)(f:∀v,v<G.n->¬dn v->0<=tm old v->tm old i<=tm old v)(g:¬dn i)(hm:∀k u v,G.qM k u v->k<m):Mid G (λu=>dn u\/u=i) ts:=by refine⟨P.inv,λu hu b=> ?_,λu v hu d a c hp=> ?_,λk u v a e=> ?_⟩;{rw[P.keep u hu b];rcases b with h|h;{exact M.pos u hu h};{rw[h];exact h0}};{rw[P.keep u hu a];have q:=P.hi v d (λh=>c (.inl h)) (λh=>c (.inr h)) hp;rcases a with h|h;{have:=M.low u i hu hi h g h0;omega};{rw[h];exact q}};{obtain⟨hu,d⟩:=G.he _ _ _ e;rcases a with h|h;{have q:=M.shut k u v h e;have j:=P.less v d q.1;rw[P.keep u hu (.inl h)];omega};{subst h;have q:=P.seen k v (hm _ _ _ e) e;rw[P.keep u hu (.inr rfl)];exact q}}
theorem Mid.first(G:jx):Mid G (λ_=>False) ((aeU G.n (-1)).set G.a G.t0):=⟨Inv.first G,λ_ _ h=>h.elim,λ_ _ _ _ h=>h.elim,λ_ _ _ h=>h.elim⟩
theorem Mid.closed{G:jx}{dn:Nat->Prop}{ts:List Int}(M:Mid G dn ts)(h:∀v,v<G.n->0<=tm ts v->dn v):kX G ts:=λk u v e hp=>M.shut k u v (h u (G.he _ _ _ e).1 hp) e
def rC(nP:Nat->Bool)(ts:List Int)(i:Int)(k:Nat):Int:=bif nP k&& (ae (i<0)||ae (tm ts k<tm ts i.toNat))then(k:Int)else i
theorem uv(nP:Nat->Bool)(ts:List Int):∀n:Nat,((agH n).foldl (rC nP ts) (-1)= -1/\∀k,k<n->nP k=false)\/∃i:Nat,(agH n).foldl (rC nP ts) (-1)=(i:Int)/\i<n/\nP i=true/\∀k,k<n->nP k=true->tm ts i<=tm ts k
 |0=>.inl ⟨rfl,λk h=>absurd h (ahG _)⟩
 |n+1=>by rw[List.range_succ,ahU];simp only[aeG,List.foldl_nil];rcases uv nP ts n with ⟨h1,b⟩|⟨i,h1,b,d,c⟩;{rw[h1];unfold rC;cases hc:nP n with|false=>left;refine⟨rfl,λk hk=> ?_⟩;by_cases e:k=n;{rw[e];exact hc};{exact b k (by omega)}|true=>right;refine⟨n,rfl,by omega,hc,λk hk a=> ?_⟩;by_cases e:k=n;{rw[e];exact aes _};{rw[b k (by omega)]at a;cases a}};{rw[h1];right;unfold rC;rw[ar (show¬((i:Int)<0) by omega),aK,aeo];cases hc:(nP n&&ae (tm ts n<tm ts i))with|true=>simp only[ak,au]at hc;refine⟨n,rfl,by omega,hc.1,λk hk a=> ?_⟩;by_cases e:k=n;{rw[e];exact aes _};{have:=c k (by omega) a;omega}|false=>refine⟨i,rfl,by omega,d,λk hk a=> ?_⟩;by_cases e:k=n;{subst e;rw[a,ag6]at hc;have:=of_decide_eq_false hc;omega};{exact c k (by omega) a}}
end Arr
namespace Arr
def rel(G:jx)(k u v:Nat)(q:List Int×Bool):List Int×Bool:=if tm q.1 u<0 then q else if tm q.1 v<0\/G.ov k (tm q.1 u)<tm q.1 v then(q.1.set v (G.ov k (tm q.1 u)),true)else q
theorem K6{G:jx}{k u v:Nat}{q:List Int×Bool}(I:Inv G q.1)(e:G.qM k u v):Inv G (rel G k u v q).1/\KA (rel G k u v q).1<=KA q.1/\((rel G k u v q).2=true->q.2=true\/KA (rel G k u v q).1<KA q.1)/\((rel G k u v q).2=false->rel G k u v q=q/\(0<=tm q.1 u->0<=tm q.1 v/\tm q.1 v<=G.ov k (tm q.1 u))):=by unfold rel;by_cases h1:tm q.1 u<0;{rw[aN h1];exact⟨I,aB _,λh=>.inl h,λ_=>⟨rfl,λh=>absurd h (by omega)⟩⟩};{rw[aM h1];by_cases a:tm q.1 v<0\/G.ov k (tm q.1 u)<tm q.1 v;{rw[aN a];have:=I.put e (by omega) a;exact⟨this.1,ahE this.2,λ_=>.inr this.2,λh=>by cases h⟩};{rw[aM a];exact⟨I,aB _,λh=>.inl h,λ_=>⟨rfl,λ_=>by omega⟩⟩}}
structure Aw (G:jx) (t0:List Int) (q:List Int×Bool) (j:Nat):Prop where
  inv:Inv G q.1
  le:KA q.1<=KA t0
  lt:q.2=true->KA q.1<KA t0
  eq:q.2=false->q.1=t0/\∀k u v,k<j->G.qM k u v->0<=tm q.1 u->0<=tm q.1 v/\tm q.1 v<=G.ov k (tm q.1 u)
theorem Aw.both{G:jx}{t0:List Int}{q:List Int×Bool}{j u v:Nat}(P:Aw G t0 q j)(b:G.qM j u v)(c:G.qM j v u)(h:∀x y,G.qM j x y->(x=u/\y=v)\/(x=v/\y=u)):Aw G t0 (rel G j v u (rel G j u v q)) (j+1):=by obtain⟨d,a2,a3,a4⟩:=K6 P.inv b;obtain⟨e,l,f,g⟩:=K6 (q:=rel G j u v q) d c;have h1:=P.le;refine⟨e,by omega,λhg=> ?_,λhg=> ?_⟩;{rcases f hg with hg|hg;{rcases a3 hg with hg|hg;{have:=P.lt hg;omega};{omega}};{omega}};{obtain⟨c1,c2⟩:=g hg;rw[c1]at hg;obtain⟨d1,d2⟩:=a4 hg;rw[d1]at hg;obtain⟨f1,f2⟩:=P.eq hg;rw[c1,d1];rw[d1]at c2;refine⟨f1,λk x y hk a hp=> ?_⟩;by_cases i:k<j;{exact f2 k x y i a hp};{(obtain rfl:k=j:=by omega);rcases h x y a with ⟨rfl,rfl⟩|⟨rfl,rfl⟩;{exact d2 hp};{exact c2 hp}}}
end Arr
namespace Sh
open Go Go.Ab Go.Proofs
def Bg(k sec:Int)(s:Int)(x:aO):Int:=bif ae (x.1=k)&& (ae (s<x.2.2.1)&&ae (x.2.1<s+sec))then x.2.2.1 else s
def rL(l:List aO)(k t sec:Int):Int:=l.foldl (Bg k sec) t
theorem kf(k sec s:Int)(x:aO):(Bg k sec s x=x.2.2.1/\x.1=k/\s<x.2.2.1/\x.2.1<s+sec)\/(Bg k sec s x=s/\¬(x.1=k/\s<x.2.2.1/\x.2.1<s+sec)):=by unfold Bg;by_cases h:x.1=k/\s<x.2.2.1/\x.2.1<s+sec;{left;rw[aq h.1,aq h.2.1,aq h.2.2];exact⟨rfl,h⟩};{right;refine⟨?_,h⟩;(have:(ae (x.1=k)&& (ae (s<x.2.2.1)&&ae (x.2.1<s+sec)))=false:=by rw[Bool.eq_false_iff];simp only[ne_eq,ak,au];exact h);rw[this];rfl}
theorem BL(k sec:Int):∀(l:List aO) (s s':Int),s<=s'->rL l k s sec<=rL l k s' sec
 |[],_,_,h=>h
 |x::l,s,s',h=>by unfold rL;rw[aeG,aeG];refine BL k sec l _ _ ?_;rcases kf k sec s x with ⟨e,h1⟩|⟨e,h1⟩<;>rcases kf k sec s' x with ⟨a,b⟩|⟨a,b⟩<;>rw[e,a]<;>omega
theorem AY(k sec:Int):∀(l:List aO) (s:Int),s<=rL l k s sec
 |[],_=>aes _
 |x::l,s=>by unfold rL;rw[aeG];refine aet ?_ (AY k sec l _);rcases kf k sec s x with ⟨e,h1⟩|⟨e,h1⟩<;>rw[e]<;>omega
theorem Au(k sec:Int){B:Int}(a:10000<=B):∀(l:List aO) (s:Int),(∀x∈l,x.2.2.1<=10000)->s<=B->rL l k s sec<=B
 |[],_,_,h=>h
 |x::l,s,hf,h=>by unfold rL;rw[aeG];refine Au k sec a l _ (λy b=>hf y (aL _ b)) ?_;have:=hf x (by simp);rcases kf k sec s x with ⟨e,h1⟩|⟨e,h1⟩<;>rw[e]<;>omega
theorem Gg(k sec:Int)(h0:0<=sec)(h1:sec<=60):∀(l:List aO) (s:Int),(∀x∈l,x.2.2.1<=10000)->0<=s->s<=20000->Dw l k s sec=rL l k s sec
 |[],_,_,_,_=>rfl
 |x::l,s,hf,h,b=>by(have e:later k sec s x=Bg k sec s x:=by unfold later Bg;rw[aZ (by omega) (by omega)]);unfold Dw rL;rw[aeG,aeG,e];have:=hf x (by simp);refine Gg k sec h0 h1 l _ (λy a=>hf y (aL _ a)) ?_ ?_;{rcases kf k sec s x with ⟨e,h1⟩|⟨e,h1⟩<;>rw[e]<;>omega};{rcases kf k sec s x with ⟨e,h1⟩|⟨e,h1⟩<;>rw[e]<;>omega}
theorem Vc{n:Nat}{l:List aO}(h:dy n l=true):∀x∈l,fQ n x=true:=by intro x hx;obtain⟨i,hi,rfl⟩:=List.getElem_of_mem hx;unfold dy at h;simp only[ak,aga,ahn]at h;have:=(h.1 i hi).1;rwa [eR hi]at this
theorem HP{n:Nat}{l:List aO}(h:dy n l=true):∀x∈l,x.2.2.1<=10000:=λx hx=>by
  have:=Vc h x hx;simp only[fQ,ak,au]at this;omega
theorem Dr{n:Nat}{l:List aO}(h:dy n l=true):l.length<=maxLen:=by unfold dy at h;simp only[ak,au]at h;unfold maxLen;omega
def yP(n:b9)(l:List aO)(k:Nat)(s:Int):Int:=rL l (k:Int) s (CH n k)+CH n k
def qq(n:b9)(k u v:Nat):Prop:=∃x,n.2.1[k]? =O x/\((x.1=(u:Int)/\x.2.1=(v:Int))\/(x.1=(v:Int)/\x.2.1=(u:Int)))
theorem EC{n:b9}{k:Nat}{x:aO}(h:n.2.1[k]? =O x):CH n k=x.2.2.1:=by unfold CH;rw[afp,h];rfl
theorem lO{n:b9}(hn:eH n=true){k:Nat}{x:aO}(h:n.2.1[k]? =O x):0<=x.1/\x.1<x.2.1/\x.2.1<(n.1.length:Int)/\1<=x.2.2.1/\x.2.2.1<=60:=by have:=Na hn x (aF h);simp only[qD,bZ,ak,au]at this;omega
def eD(n:b9)(l:List aO)(a:Nat)(t:Int)(hn:eH n=true)(hl:dy n.2.1.length l=true)(ha:a<n.1.length)(ht:0<=t/\t<=10000):Arr.jx where
  n:=n.1.length
  qM:=qq n
  ov:=yP n l
  a:=a
  t0:=t
  hn:=(ik hn).1
  ha:=ha
  h0:=ht
  he:=λk u v ⟨x,hx,h⟩=>by have:=lO hn hx;omega
  up:=λk u v s ⟨x,hx,h⟩=>by
    have:=lO hn hx;have b:=AY (k:Int) (CH n k) l s;unfold yP;rw[EC hx]at b⊢;omega
  mono:=λk s s' h=>by
    have b:=BL (k:Int) (CH n k) l s s' h;unfold yP;omega
  bd:=λk u v s B ⟨x,hx,h⟩ hs c=>by
    have:=lO hn hx;have b:=Au (k:Int) (CH n k) c l s (HP hl) hs;unfold yP;rw[EC hx]at b⊢;omega
open Arr (tm)
section
variable {n:b9} {l:List aO} {a:Nat} {t:Int}
theorem H9(hn:eH n=true)(hl:dy n.2.1.length l=true){k:Nat}(hk:k<n.2.1.length){s:Int}(h0:0<=s)(h1:s<=11000):mA n l (k:Int) s=O (yP n l k s):=by obtain⟨x,hx⟩:∃x,n.2.1[k]? =O x:=⟨_,aJ hk⟩;have a:=lO hn hx;unfold mA yP;have b:=AY (k:Int) x.2.2.1 l s;have c:=Au (k:Int) x.2.2.1 (B:=11000) (by omega) l s (HP hl) h1;simp only[bh,hx,ah,TK (Dr hl),Gg (k:Int) x.2.2.1 (by omega) (by omega) l s (HP hl) h0 (by omega),EC hx];rw[aZ (by omega) (by omega)]
theorem Py(hn:eH n=true)(hl:dy n.2.1.length l=true){k:Nat}(hk:k<n.2.1.length){s:Int}(h0:0<=s)(h1:s<=11000):sJ n l (k:Int) s=O (yP n l k s):=H9 hn hl hk h0 h1
noncomputable def PT(n:b9)(l:List aO)(k:Int)(e:aO):(List Int)×Bool×Int->Option (((List Int)×Bool×Int)⊕(((List Int)×Bool))):=λa=>bif(ae (a.2.2<2))then bif ae (a.2.2=(1:Int))then bif ae (0<=e.2.1)&&ae (e.2.1<(a.1.length:Int))then(a.1[(agC e.2.1)]?).bind λd=>bif(ae (d<0))then O (.inl (a.1,a.2.1,(aW (a.2.2+1))))else bif ae (0<=e.2.1)&&ae (e.2.1<(a.1.length:Int))then(a.1[(agC e.2.1)]?).bind λf=>(mA n l k f).bind λb=>bif ae (0<=e.1)&&ae (e.1<(a.1.length:Int))then(a.1[(agC e.1)]?).bind λg=>(bif(ae (g<0))then O true else bif ae (0<=e.1)&&ae (e.1<(a.1.length:Int))then(a.1[(agC e.1)]?).bind λh=>O (ae (b<h))else U).bind λi=>bif i then bif ae (0<=e.1)&&ae (e.1<(a.1.length:Int))then O (.inl ((a.1.set (agC e.1) b),true,(aW (a.2.2+1))))else U else O (.inl (a.1,a.2.1,(aW (a.2.2+1))))else U else U else U else bif ae (a.2.2=(0:Int))then bif ae (0<=e.1)&&ae (e.1<(a.1.length:Int))then(a.1[(agC e.1)]?).bind λj=>bif(ae (j<0))then O (.inl (a.1,a.2.1,(aW (a.2.2+1))))else bif ae (0<=e.1)&&ae (e.1<(a.1.length:Int))then(a.1[(agC e.1)]?).bind λm=>(mA n l k m).bind λc=>bif ae (0<=e.2.1)&&ae (e.2.1<(a.1.length:Int))then(a.1[(agC e.2.1)]?).bind λo=>(bif(ae (o<0))then O true else bif ae (0<=e.2.1)&&ae (e.2.1<(a.1.length:Int))then(a.1[(agC e.2.1)]?).bind λp=>O (ae (c<p))else U).bind λq=>bif q then bif ae (0<=e.2.1)&&ae (e.2.1<(a.1.length:Int))then O (.inl ((a.1.set (agC e.2.1) c),true,(aW (a.2.2+1))))else U else O (.inl (a.1,a.2.1,(aW (a.2.2+1))))else U else U else U else U else O (.inr (a.1,a.2.1))
noncomputable def Td(n:b9)(l:List aO):(List Int)×Bool×Int->Option (((List Int)×Bool×Int)⊕(((List Int)×Bool))):=λa=>bif(ae (a.2.2<(n.2.1.length:Int)))then(idx n.2.1 a.2.2).bind λc=>(aX (PT n l a.2.2 c) (a.1,a.2.1,0)).bind λb=>O (.inl (b.1,b.2,(aW (a.2.2+1))))else O (.inr (a.1,a.2.1))
noncomputable def Rk(n:b9)(l:List aO):(List Int)×Bool->Option (((List Int)×Bool)⊕List Int):=λa=>bif a.2 then(aX (Td n l) (a.1,false,0)).bind λb=>O (.inl (b.1,b.2))else O (.inr a.1)
theorem Tt(n:b9)(l:List aO)(a t:Int):lr n l a t=bif ae (0<=(n.1.length:Int))&&ae ((n.1.length:Int)<=(n.1.length:Int))&&ae ((n.1.length:Int)<=lim)then
 (aX (λ(st2:(List Int)×Int)=>(
   bif(ae (st2.2<((aeU (agC (n.1.length:Int)) (0:Int)).length:Int)))then
   bif ae (0<=st2.2)&&ae (st2.2<(st2.1.length:Int))then
   O (.inl ((st2.1.set (agC st2.2) (-1)),(aW (st2.2+1))))
   else
   U
   else
   O (.inr st2.1):Option (((List Int)×Int)⊕((List Int))))) ((aeU (agC (n.1.length:Int)) (0:Int)),0)).bind λc=>
 bif ae (0<=a)&&ae (a<(c.length:Int))then
 (aX (Rk n l) ((c.set (agC a) t),true)).bind λb=>
 O b
 else
 U
 else
 U:=rfl
variable (hn:eH n=true) (hl:dy n.2.1.length l=true) (ha:a<n.1.length) (ht:0<=t/\t<=10000)
include hn hl ha ht
theorem Ri{k:Nat}{x:aO}(hx:n.2.1[k]? =O x){u v:Nat}(hu:x.1=(u:Int))(d:x.2.1=(v:Int)){ts:List Int}{g:Bool}(I:Arr.Inv (eD n l a t hn hl ha ht) ts):PT n l (k:Int) x (ts,g,0)=O (.inl ((Arr.rel (eD n l a t hn hl ha ht) k u v (ts,g)).1,(Arr.rel (eD n l a t hn hl ha ht) k u v (ts,g)).2,1)):=by have e:=lO hn hx;have hk:=(aeK.1 hx).1;have hlen:ts.length=n.1.length:=I.len;(have g1:(ae ((0:Int)<=(u:Int))&&ae ((u:Int)<(ts.length:Int)))=true:=by simp;omega);(have g2:(ae ((0:Int)<=(v:Int))&&ae ((v:Int)<(ts.length:Int)))=true:=by simp;omega);have t1:=Arr.ky (ts:=ts) (v:=u) (by omega);have t2:=Arr.ky (ts:=ts) (v:=v) (by omega);unfold PT Arr.rel;simp only[show ae ((0:Int)<2)=true from rfl,ai,show ae ((0:Int)=1)=false from rfl,aj,decide_true,hu,d,g1,aK,t1,ah];by_cases h1:tm ts u<0;{rw[aq h1,aN h1];rfl};{have hle:tm ts u<=10960:=I.le (v:=u) (by show u<n.1.length;omega);rw[ar h1,aM h1];simp only[aj,H9 hn hl hk (show 0<=tm ts u by omega) (by omega),ah,g2,ai,t2];show _=O (Sum.inl ((if tm ts v<0\/yP n l k (tm ts u)<tm ts v then(ts.set v (yP n l k (tm ts u)),true)else(ts,g)).1,(if tm ts v<0\/yP n l k (tm ts u)<tm ts v then(ts.set v (yP n l k (tm ts u)),true)else(ts,g)).2,1));by_cases b:tm ts v<0;{rw[aq b,aN (.inl b)];rfl};{rw[ar b];by_cases c:yP n l k (tm ts u)<tm ts v;{rw[aq c,aN (.inr c)];rfl};{rw[ar c,aM (by omega)];rfl}}}
theorem NZ{k:Nat}{x:aO}(hx:n.2.1[k]? =O x){u v:Nat}(hu:x.1=(u:Int))(d:x.2.1=(v:Int)){ts:List Int}{g:Bool}(I:Arr.Inv (eD n l a t hn hl ha ht) ts):PT n l (k:Int) x (ts,g,1)=O (.inl ((Arr.rel (eD n l a t hn hl ha ht) k v u (ts,g)).1,(Arr.rel (eD n l a t hn hl ha ht) k v u (ts,g)).2,2)):=by have e:=lO hn hx;have hk:=(aeK.1 hx).1;have hlen:ts.length=n.1.length:=I.len;(have g1:(ae ((0:Int)<=(u:Int))&&ae ((u:Int)<(ts.length:Int)))=true:=by simp;omega);(have g2:(ae ((0:Int)<=(v:Int))&&ae ((v:Int)<(ts.length:Int)))=true:=by simp;omega);have t1:=Arr.ky (ts:=ts) (v:=u) (by omega);have t2:=Arr.ky (ts:=ts) (v:=v) (by omega);unfold PT Arr.rel;simp only[show ae ((1:Int)<2)=true from rfl,ai,decide_true,hu,d,g2,aK,t2,ah];by_cases h1:tm ts v<0;{rw[aq h1,aN h1];rfl};{have hle:tm ts v<=10960:=I.le (v:=v) (by show v<n.1.length;omega);rw[ar h1,aM h1];simp only[aj,H9 hn hl hk (show 0<=tm ts v by omega) (by omega),ah,g1,ai,t1];show _=O (Sum.inl ((if tm ts u<0\/yP n l k (tm ts v)<tm ts u then(ts.set u (yP n l k (tm ts v)),true)else(ts,g)).1,(if tm ts u<0\/yP n l k (tm ts v)<tm ts u then(ts.set u (yP n l k (tm ts v)),true)else(ts,g)).2,2));by_cases b:tm ts u<0;{rw[aq b,aN (.inl b)];rfl};{rw[ar b];by_cases c:yP n l k (tm ts v)<tm ts u;{rw[aq c,aN (.inr c)];rfl};{rw[ar c,aM (by omega)];rfl}}}
theorem IV{t0:List Int}(I:Arr.Inv (eD n l a t hn hl ha ht) t0):∃y,aX (Td n l) (t0,false,0)=O y/\Arr.Aw (eD n l a t hn hl ha ht) t0 y n.2.1.length:=by have m:=ik hn;refine vo (n:=n.2.1.length) (λj d=>d.2.2=(j:Int)/\Arr.Aw (eD n l a t hn hl ha ht) t0 (d.1,d.2.1) j) (λy=>Arr.Aw (eD n l a t hn hl ha ht) t0 y n.2.1.length) ?_ ?_ n.2.1.length 0 (t0,false,0) (by omega) ⟨rfl,I,aB _,(λh=>by cases h),λ_=>⟨rfl,λk _ _ h=>absurd h (ahG _)⟩⟩;{rintro j ⟨ts,g,k⟩ e ⟨hk,P⟩;obtain rfl:k=(j:Int):=hk;left;obtain⟨x,hx⟩:∃x,n.2.1[j]? =O x:=⟨_,aJ e⟩;have w:=lO hn hx;obtain⟨u,hu⟩:∃u:Nat,x.1=(u:Int):=⟨x.1.toNat,by omega⟩;obtain⟨v,c⟩:∃v:Nat,x.2.1=(v:Int):=⟨x.2.1.toNat,by omega⟩;have f:(eD n l a t hn hl ha ht).qM j u v:=⟨x,hx,.inl ⟨hu,c⟩⟩;have o:(eD n l a t hn hl ha ht).qM j v u:=⟨x,hx,.inr ⟨hu,c⟩⟩;have r:=P.both f o (by rintro p q ⟨y,i,h⟩;rw[hx]at i;cases i;omega);have s:=(Arr.K6 P.inv f).1;refine⟨(_,_,((j+1:Nat):Int)),?_,rfl,r⟩;unfold Td;simp only[bG e,ai,bh,hx,ah];rw[bq (Ri hn hl ha ht hx hu c P.inv),bq (NZ hn hl ha ht hx hu c s),bb (b:=(_,_)) rfl,up (show n.2.1.length<=maxLen by unfold maxLen;omega) e];rfl};{rintro⟨ts,g,k⟩ ⟨hk,P⟩;obtain rfl:k=(n.2.1.length:Int):=hk;refine⟨(ts,g),?_,P⟩;unfold Td;simp}
theorem RM:∀(m:Nat) (ts:List Int),Arr.KA ts<=m->Arr.Inv (eD n l a t hn hl ha ht) ts->∃us,aX (Rk n l) (ts,true)=O us/\Arr.Inv (eD n l a t hn hl ha ht) us/\Arr.kX (eD n l a t hn hl ha ht) us:=by intro m;induction m with|zero=>intro ts hm I;obtain⟨⟨us,g⟩,y1,P⟩:=IV hn hl ha ht I;(cases g with|true=>have h:Arr.KA us<Arr.KA ts:=P.lt rfl;omega|false=>obtain⟨f1,f2⟩:=P.eq rfl;refine⟨us,?_,P.inv,λk u v e hp=>f2 k u v ?_ e hp⟩;{rw[bq (a':=(us,false)) (by unfold Rk;simp only[ai,y1,ah]),bb (b:=us) rfl]};{obtain⟨x,hx,_⟩:=e;exact(aeK.1 hx).1})|succ m d=>intro ts hm I;obtain⟨⟨us,g⟩,y1,P⟩:=IV hn hl ha ht I;(have c:Rk n l (ts,true)=O (.inl (us,g)):=by unfold Rk;simp only[ai,y1,ah]);cases g with|true=>rw[bq c];exact d us (by have h:Arr.KA us<Arr.KA ts:=P.lt rfl;omega) P.inv|false=>obtain⟨f1,f2⟩:=P.eq rfl;refine⟨us,?_,P.inv,λk u v e hp=>f2 k u v ?_ e hp⟩;{rw[bq c,bb (b:=us) rfl]};{obtain⟨x,hx,_⟩:=e;exact(aeK.1 hx).1}
theorem K0:∃us,lr n l (a:Int) t=O us/\Arr.Inv (eD n l a t hn hl ha ht) us/\Arr.kX (eD n l a t hn hl ha ht) us:=by have b:=ik hn;obtain⟨us,h1,c,d⟩:=RM hn hl ha ht _ _ (aB _) (Arr.Inv.first (eD n l a t hn hl ha ht));refine⟨us,?_,c,d⟩;(have hc:aX (λ(st2:(List Int)×Int)=>(bif(ae (st2.2<((aeU (agC (n.1.length:Int)) (0:Int)).length:Int)))then bif ae (0<=st2.2)&&ae (st2.2<(st2.1.length:Int))then O (.inl ((st2.1.set (agC st2.2) (-1)),(aW (st2.2+1))))else U else O (.inr st2.1):Option (((List Int)×Int)⊕((List Int))))) ((aeU (agC (n.1.length:Int)) (0:Int)),0)=O (aeU n.1.length (-1)):=by rw[Av (l:=n.1) (z:=(0:Int)) (λ_=>(-1:Int)) (by omega) ?_ ?_];{congr 1;show List.map (Function.const _ (-1)) n.1=_;exact List.map_const};{intro out i x hx hi;simp only[ahW,aK,bG hi,ai]};{intro out;simp});rw[Tt,jN (by omega),ai,hc];simp only[ah,ahW,aK];rw[show(ae ((0:Int)<=(a:Int))&&ae ((a:Int)<(n.1.length:Int)))=true by simp;omega,ai];exact bind_eq h1 rfl
end
end Sh
namespace Sh
open Go Go.Ab Go.Proofs
open Arr (tm)
section
variable {n:b9} {l:List aO} {a:Nat} {t:Int}
def zh(N:Nat):(List Int)×(List Bool)×Int×Int->Option (((List Int)×(List Bool)×Int×Int)⊕(((List Int)×(List Bool)×Int))):=λa=>bif(ae (a.2.2.2<(N:Int)))then bif ae (0<=a.2.2.2)&&ae (a.2.2.2<(a.1.length:Int))then(a.1[(agC a.2.2.2)]?).bind λe=>bif ae (0<=a.2.2.2)&&ae (a.2.2.2<(a.2.1.length:Int))then(a.2.1[(agC a.2.2.2)]?).bind λf=>(bif(!f)then O (ae (0<=e))else O false).bind λb=>(bif b then(bif(ae (a.2.2.1<0))then O true else bif ae (0<=a.2.2.1)&&ae (a.2.2.1<(a.1.length:Int))then(a.1[(agC a.2.2.1)]?).bind λc=>O (ae (e<c))else U).bind λc12=>O c12 else O false).bind λd=>bif d then O (.inl (a.1,a.2.1,a.2.2.2,(aW (a.2.2.2+1))))else O (.inl (a.1,a.2.1,a.2.2.1,(aW (a.2.2.2+1))))else U else U else O (.inr (a.1,a.2.1,a.2.2.1))
noncomputable def Bi(n:b9)(l:List aO)(i:Int):(List Int)×(List Bool)×Int->Option (((List Int)×(List Bool)×Int)⊕(((List Int)×(List Bool)))):=λa=>bif(ae (a.2.2<(n.2.1.length:Int)))then(idx n.2.1 a.2.2).bind λd=>(ni d i).bind λb=>bif(ae (b<0))then O (.inl (a.1,a.2.1,(aW (a.2.2+1))))else bif ae (0<=i)&&ae (i<(a.1.length:Int))then(a.1[(agC i)]?).bind λe=>(sJ n l a.2.2 e).bind λc=>bif ae (0<=b)&&ae (b<(a.1.length:Int))then(a.1[(agC b)]?).bind λf=>(bif(ae (f<0))then O true else bif ae (0<=b)&&ae (b<(a.1.length:Int))then(a.1[(agC b)]?).bind λg=>O (ae (c<g))else U).bind λh=>bif h then bif ae (0<=b)&&ae (b<(a.1.length:Int))then O (.inl ((a.1.set (agC b) c),a.2.1,(aW (a.2.2+1))))else U else O (.inl (a.1,a.2.1,(aW (a.2.2+1))))else U else U else O (.inr (a.1,a.2.1))
noncomputable def DK(n:b9)(l:List aO):(List Int)×(List Bool)->Option (((List Int)×(List Bool))⊕List Int):=λb=>(aX (zh b.1.length) (b.1,b.2,(-1),0)).bind λa=>bif(ae (a.2.2<0))then O (.inr a.1)else bif ae (0<=a.2.2)&&ae (a.2.2<(a.2.1.length:Int))then(aX (Bi n l a.2.2) (a.1,(a.2.1.set (agC a.2.2) true),0)).bind λc=>O (.inl (c.1,c.2))else U
theorem Ku(n:b9)(l:List aO)(a t:Int):nh n l a t=(aX (λ(st2:(List Int)×Int)=>(
 bif(ae (st2.2<(n.1.length:Int)))then
 bif ae (aeP st2.1+aeP [(-1)]<=lim)then
 O (.inl ((st2.1++[(-1)]),(aW (st2.2+1))))
 else
 U
 else
 O (.inr st2.1):Option (((List Int)×Int)⊕((List Int))))) ([],0)).bind λc=>
 bif ae (0<=a)&&ae (a<(c.length:Int))then
 bif ae (0<=(n.1.length:Int))&&ae ((n.1.length:Int)<=(n.1.length:Int))&&ae ((n.1.length:Int)<=lim)then
 (aX (DK n l) ((c.set (agC a) t),(aeU (agC (n.1.length:Int)) (false:Bool)))).bind λb=>
 O b
 else
 U
 else
 U:=rfl
def dn(D:List Bool)(u:Nat):Prop:=D[u]? =O true
def nP(D:List Bool)(ts:List Int)(k:Nat):Bool:=!(D.getD k true)&&ae (0<=tm ts k)
theorem MR{N:Nat}(b:N<=16){ts:List Int}{D:List Bool}(h1:ts.length=N)(c:D.length=N):aX (zh N) (ts,D,-1,0)=O (ts,D,(agH N).foldl (Arr.rC (nP D ts) ts) (-1)):=by have:=(M4 (n:=N) (f:=zh N) (λ(s:Int) (k:Int)=>(ts,D,s,k)) (Arr.rC (nP D ts) ts) (λs=>(ts,D,s)) (λ_ s=>s= -1\/∃i:Nat,s=(i:Int)/\i<N) (-1) (.inl rfl) ?_ ?_).1;{exact this};{intro s k hk hs;have t1:=Arr.ky (ts:=ts) (v:=k) (by omega);(have g1:(ae ((0:Int)<=(k:Int))&&ae ((k:Int)<(ts.length:Int)))=true:=by simp;omega);(have g2:(ae ((0:Int)<=(k:Int))&&ae ((k:Int)<(D.length:Int)))=true:=by simp;omega);obtain⟨d,a⟩:∃d,D[k]? =O d:=⟨_,aJ (show k<D.length by omega)⟩;(have hc:nP D ts k=(!d&&ae (0<=tm ts k)):=by unfold nP;rw[afp,a];rfl);have hw:aW ((k:Int)+1)=(k:Int)+1:=aZ (by omega) (by omega);refine⟨?_,?_⟩;{unfold zh Arr.rC;simp only[aq (show(k:Int)<(N:Int) by omega),ai,g1,g2,aK,t1,a,ah,hc,hw];cases d with|true=>rfl|false=>simp only[ag5,ai,ah,ag6];cases ae (0<=tm ts k)with|false=>rfl|true=>simp only[ai,ag6];rcases hs with rfl|⟨i,rfl,hi⟩;{rfl};{have t2:=Arr.ky (ts:=ts) (v:=i) (by omega);(have g3:(ae ((0:Int)<=(i:Int))&&ae ((i:Int)<(ts.length:Int)))=true:=by simp;omega);simp only[ar (show¬(i:Int)<0 by omega),aj,g3,ai,aK,t2,ah,aeo];cases ae (tm ts k<tm ts i)<;>rfl}};{unfold Arr.rC;cases (nP D ts k&& (ae (s<0)||ae (tm ts k<tm ts s.toNat)))with|true=>exact .inr ⟨k,rfl,hk⟩|false=>exact hs}};{intro s _;unfold zh;rw[ar (show¬(N:Int)<(N:Int) by omega)];rfl}
theorem Am(x:aO)(i:Int):ni x i=O (if i=x.1 then x.2.1 else if i=x.2.1 then x.1 else -1):=by unfold ni;by_cases h1:i=x.1;{rw[aq h1,aN h1];rfl};{rw[ar h1,aM h1];by_cases a:i=x.2.1;{rw[aq a,aN a];rfl};{rw[ar a,aM a];rfl}}
variable (hn:eH n=true) (hl:dy n.2.1.length l=true) (ha:a<n.1.length) (ht:0<=t/\t<=10000)
include hn hl ha ht
theorem QA{i:Nat}{d:Nat->Prop}{old:List Int}{D:List Bool}(M:Arr.Mid (eD n l a t hn hl ha ht) d old)(hi:i<n.1.length)(E:¬d i)(h0:0<=tm old i)(q:∀v,v<n.1.length->¬d v->0<=tm old v->tm old i<=tm old v):∃y:List Int×List Bool,aX (Bi n l (i:Int)) (old,D,0)=O y/\y.2=D/\Arr.Part (eD n l a t hn hl ha ht) i d old y.1 n.2.1.length:=by have F:=ik hn;refine vo (n:=n.2.1.length) (λj g=>g.2.1=D/\g.2.2=(j:Int)/\Arr.Part (eD n l a t hn hl ha ht) i d old g.1 j) (λ(y:List Int×List Bool)=>y.2=D/\Arr.Part (eD n l a t hn hl ha ht) i d old y.1 n.2.1.length) ?_ ?_ n.2.1.length 0 (old,D,0) (by omega) ⟨rfl,rfl,Arr.Part.begin M q⟩;{rintro j ⟨ts,f,k⟩ m ⟨r,hk,P⟩;obtain rfl:f=D:=r;obtain rfl:k=(j:Int):=hk;have P:Arr.Part (eD n l a t hn hl ha ht) i d old ts j:=P;left;obtain⟨x,hx⟩:∃x,n.2.1[j]? =O x:=⟨_,aJ m⟩;have H:=lO hn hx;have hlen:ts.length=n.1.length:=P.inv.len;have o:=up (show n.2.1.length<=maxLen by unfold maxLen;omega) m;(have c:∀w,qq n j i w->(x.1=(i:Int)/\x.2.1=(w:Int))\/(x.1=(w:Int)/\x.2.1=(i:Int)):=by rintro w ⟨y,C,h⟩;rw[hx]at C;cases C;exact h);by_cases u:x.1=(i:Int)\/x.2.1=(i:Int);{(obtain⟨v,z,e,h1⟩:∃v:Nat,(if(i:Int)=x.1 then x.2.1 else if(i:Int)=x.2.1 then x.1 else -1)=(v:Int)/\qq n j i v/\∀w,qq n j i w->w=v:=by by_cases h:(i:Int)=x.1;{refine⟨x.2.1.toNat,by rw[aN h];omega,⟨x,hx,.inl ⟨h.symm,by omega⟩⟩,λw hw=> ?_⟩;rcases c w hw with b|b<;>omega};{(have h':(i:Int)=x.2.1:=by omega);refine⟨x.1.toNat,by rw[aM h,aN h'];omega,⟨x,hx,.inr ⟨by omega,h'.symm⟩⟩,λw hw=> ?_⟩;rcases c w hw with b|b<;>omega});have p:=((eD n l a t hn hl ha ht).he _ _ _ e).2;have p:v<n.1.length:=p;(have A:v≠i:=by rcases c v e with b|b<;>omega);have G:tm ts i=tm old i:=P.keep i hi (.inr rfl);have hle:tm ts i<=10960:=P.inv.le (v:=i) hi;(have g1:(ae ((0:Int)<=(i:Int))&&ae ((i:Int)<(ts.length:Int)))=true:=by simp;omega);(have g2:(ae ((0:Int)<=(v:Int))&&ae ((v:Int)<(ts.length:Int)))=true:=by simp;omega);have t1:=Arr.ky (ts:=ts) (v:=i) (by omega);have t2:=Arr.ky (ts:=ts) (v:=v) (by omega);have ho:=Py hn hl m (s:=tm old i) h0 (by omega);(have g:Bi n l (i:Int) (ts,f,(j:Int))=O (.inl ((if tm ts v<0\/yP n l j (tm old i)<tm ts v then ts.set v (yP n l j (tm old i))else ts),f,((j+1:Nat):Int))):=by unfold Bi;simp only[bG m,ai,bh,hx,ah,Am,z,ar (show¬(v:Int)<0 by omega),aj,g1,g2,aK,t1,t2,G,ho,o];by_cases b:tm ts v<0;{rw[aq b,aN (.inl b)];rfl};{rw[ar b];by_cases B:yP n l j (tm old i)<tm ts v;{rw[aq B,aN (.inr B)];rfl};{rw[ar B,aM (by omega)];rfl}});refine⟨_,g,rfl,rfl,?_⟩;by_cases hc:tm ts v<0\/yP n l j (tm old i)<tm ts v;{rw[aN hc];exact P.put M hi E h0 h1 e A hc};{rw[aM hc];exact P.same h1 (show 0<=tm ts v/\tm ts v<=yP n l j (tm old i) by omega)}};{(have z:(if(i:Int)=x.1 then x.2.1 else if(i:Int)=x.2.1 then x.1 else -1)= -1:=by rw[aM (by omega),aM (by omega)]);refine⟨(ts,f,((j+1:Nat):Int)),?_,rfl,rfl,P.none λw hw=>by rcases c w hw with b|b<;>omega⟩;unfold Bi;simp only[bG m,ai,bh,hx,ah,Am,z,o];rfl}};{rintro⟨ts,f,k⟩ ⟨r,hk,P⟩;obtain rfl:f=D:=r;obtain rfl:k=(n.2.1.length:Int):=hk;refine⟨(ts,f),?_,rfl,P⟩;unfold Bi;simp}
theorem FW{c b:Nat->Prop}{ts:List Int}(h:∀u,c u↔b u)(M:Arr.Mid (eD n l a t hn hl ha ht) c ts):Arr.Mid (eD n l a t hn hl ha ht) b ts:=by have:c=b:=funext λu=>propext (h u);rw[<-this];exact M
theorem Dc:∀(m:Nat) (ts:List Int) (D:List Bool),D.countP (fun d=>!d)<=m->D.length=n.1.length->Arr.Mid (eD n l a t hn hl ha ht) (dn D) ts->
    ∃us,aX (DK n l) (ts,D)=some us/\Arr.Inv (eD n l a t hn hl ha ht) us/\Arr.kX (eD n l a t hn hl ha ht) us:=by
  have q:=ik hn;intro m
  induction m with
  |zero=>
   intro ts D hm w M;have hlen:ts.length=n.1.length:=M.inv.len;have hp:=MR (N:=n.1.length) q.1 hlen w;rcases Arr.uv (nP D ts) ts n.1.length with ⟨h1,j⟩|⟨i,h1,j,p,y⟩
   ·rw[h1]at hp
    refine⟨ts,bb ?_,M.inv,M.closed fun v c hp=> ?_⟩
    ·unfold DK
     simp only[hlen,hp,ah];rfl
    ·have c:v<n.1.length:=c
     have:=j v c;unfold nP at this;rw[aq hp,Bool.and_true,List.getD_eq_getElem?_getD,aJ (show v<D.length by omega)]at this;unfold dn;rw[aJ (show v<D.length by omega)];simpa using this
   ·exfalso
    unfold nP at p;simp only[ak,List.getD_eq_getElem?_getD,aJ (show i<D.length by omega)]at p;have:0<D.countP (fun d=>!d):=List.countP_pos_iff.2 ⟨D[i],List.getElem_mem _,p.1⟩;omega
  |succ m z=>
   intro ts D hm w M;have hlen:ts.length=n.1.length:=M.inv.len;have hp:=MR (N:=n.1.length) q.1 hlen w;rcases Arr.uv (nP D ts) ts n.1.length with ⟨h1,j⟩|⟨i,h1,j,p,y⟩
   ·rw[h1]at hp
    refine⟨ts,bb ?_,M.inv,M.closed fun v c hp=> ?_⟩
    ·unfold DK
     simp only[hlen,hp,ah];rfl
    ·have c:v<n.1.length:=c
     have:=j v c;unfold nP at this;rw[aq hp,Bool.and_true,List.getD_eq_getElem?_getD,aJ (show v<D.length by omega)]at this;unfold dn;rw[aJ (show v<D.length by omega)];simpa using this
   ·rw[h1]at hp
    have f:i<D.length:=by omega
    have c1:D[i]=false/\0<=tm ts i:=by
      unfold nP at p;simpa[List.getD_eq_getElem?_getD,f]using p
    have r:¬dn D i:=by unfold dn;rw[aJ f,c1.1];simp
    have b:∀v,v<n.1.length->¬dn D v->0<=tm ts v->tm ts i<=tm ts v:=fun v c o hp=>y v c (by
      have s:v<D.length:=by omega
      unfold dn at o;rw[aJ s]at o;unfold nP;rw[aq hp,List.getD_eq_getElem?_getD,aJ s];simpa using o)
    obtain⟨⟨us,A⟩,y1,B,y3⟩:=QA hn hl ha ht (D:=D.set i true) M j r c1.2 b;obtain rfl:A=D.set i true:=B
    have C:=y3.done M j c1.2 b r (by
      rintro k u v ⟨x,hx,_⟩;exact(List.getElem?_eq_some_iff.1 hx).1)
    rw[bq (a':=(us,D.set i true)) ?_]
    ·refine z us (D.set i true) ?_ (by rw[List.length_set];exact w) (FW hn hl ha ht (fun u=> ?_) C)
     ·have hc:(D.set i true).countP (fun d=>!d)+1=D.countP (fun d=>!d):=by
        have e:D=D.take i++false::D.drop (i+1):=by
          rw[<-c1.1];simp
        have E:D.set i true=D.take i++true::D.drop (i+1):=by
          rw[List.set_eq_take_append_cons_drop,aN f]
        rw[E]
        conv=>rhs;rw[e]
        simp only[List.countP_append,List.countP_cons];simp;omega
      omega
     ·unfold dn
      rw[List.getElem?_set]
      by_cases e:i=u
      ·subst e;rw[aN rfl,aN f];simp
      ·rw[aM e]
       exact⟨fun h=>by rcases h with h|h
                       ·exact h
                       ·exact absurd h.symm e,fun h=>.inl h⟩
    ·unfold DK
     have g:(decide ((0:Int)<=(i:Int))&&decide ((i:Int)<(D.length:Int)))=true:=by simp;omega
     simp only[hlen,hp,ah,ar (show¬(i:Int)<0 by omega),aj,g,ai,aK,y1]
theorem Ll:∃us,nh n l (a:Int) t=O us/\Arr.Inv (eD n l a t hn hl ha ht) us/\Arr.kX (eD n l a t hn hl ha ht) us:=by have c:=ik hn;obtain⟨us,h1,d,e⟩:=Dc hn hl ha ht _ _ (aeU n.1.length false) (aB _) (by simp) (FW hn hl ha ht (λu=>by unfold dn;rw[agj];constructor;{exact λh=>h.elim};{intro h;split at h<;>simp at h}) (Arr.Mid.first (eD n l a t hn hl ha ht)));refine⟨us,?_,d,e⟩;(have hc:aX (λ(st2:(List Int)×Int)=>(bif(ae (st2.2<(n.1.length:Int)))then bif ae (aeP st2.1+aeP [(-1)]<=lim)then O (.inl ((st2.1++[(-1)]),(aW (st2.2+1))))else U else O (.inr st2.1):Option (((List Int)×Int)⊕((List Int))))) ([],0)=O (aeU n.1.length (-1)):=by have:=(M4 (n:=n.1.length) (f:=(λ(st2:(List Int)×Int)=>(bif(ae (st2.2<(n.1.length:Int)))then bif ae (aeP st2.1+aeP [(-1)]<=lim)then O (.inl ((st2.1++[(-1)]),(aW (st2.2+1))))else U else O (.inr st2.1):Option (((List Int)×Int)⊕((List Int)))))) Prod.mk (λs _=>s++[-1]) (λs=>s) (λj s=>s=aeU j (-1)) [] rfl ?_ ?_);{rw[this.1,this.2]};{rintro s j b rfl;refine⟨?_,by rw[<-List.replicate_succ']⟩;simp only[bG b,ai];rw[bW (by simp;omega),ai,up (show n.1.length<=maxLen by unfold maxLen;omega) b]};{intro s _;simp});rw[Ku,hc];simp only[ah,ahW,aK];rw[show(ae ((0:Int)<=(a:Int))&&ae ((a:Int)<(n.1.length:Int)))=true by simp;omega,ai,jN (by omega),ai];exact bind_eq h1 rfl
theorem xt:∃us,lr n l (a:Int) t=O us/\nh n l (a:Int) t=O us/\Arr.Inv (eD n l a t hn hl ha ht) us/\Arr.kX (eD n l a t hn hl ha ht) us:=by obtain⟨us,h1,b,c⟩:=K0 hn hl ha ht;obtain⟨vs,k1,k2,k3⟩:=Ll hn hl ha ht;obtain rfl:=Arr.unique b c k2 k3;exact⟨us,h1,k1,b,c⟩
end
end Sh
namespace Go.Ab
theorem RP{l:List Int}{f:List Int×Int×Int->Option ((List Int×Int×Int)⊕List Int)}(_:l.length<=1048576)(hf:∀(A:List Int) (i j:Nat) x y,i<j->A.length=l.length->A[i]? =O x->A[j]? =O y->f (A,(i:Int),(j:Int))=O (.inl ((A.set i y).set j x,(i:Int)+1,(j:Int)-1)))(b:∀(A:List Int) (i j:Int),j<=i->f (A,i,j)=O (.inr A)):∀(m:Nat) (A M B:List Int),M.length<=m->A.length=B.length->(A++M++B).length=l.length->aX f (A++M++B,(A.length:Int),(A.length:Int)+(M.length:Int)-1)=O (A++M.reverse++B):=by intro m;induction m with|zero=>intro A M B hm _ _;obtain rfl:M=[]:=aH (by omega);exact bb (b _ _ _ (by simp;omega))|succ m d=>intro A M B hm c hlen;cases M with|nil=>exact bb (b _ _ _ (by simp;omega))|cons x M=>rcases ahR M with rfl|⟨a,y,rfl⟩;{exact bb (b _ _ _ (by simp))};{(have e:A++x::(a.concat y)++B=A++x::(a++y::B):=by simp);(have h1:(A++x::(a++y::B))[A.length]? =O x:=by simp);(have g:(A++x::(a++y::B))[A.length+a.length+1]? =O y:=by rw[aI (by omega),show A.length+a.length+1-A.length=a.length+1 by omega,ahg,aI (aB _)];simp);have hs:=hf (A++x::(a++y::B)) A.length (A.length+a.length+1) x y (by omega) (by rw[<-e];exact hlen) h1 g;(have h:((A++x::(a++y::B)).set A.length y).set (A.length+a.length+1) x=(A++[y])++a++([x]++B):=by rw[ahX _ _ (aB _),ah0,ahY,ahX _ _ (by omega),show A.length+a.length+1-A.length=a.length+1 by omega,List.set_cons_succ,ahX _ _ (aB _),ah0,ahY];simp);(have k:(A.length:Int)+((x::(a.concat y)).length:Int)-1=((A.length+a.length+1:Nat):Int):=by simp;omega);rw[k,e,bq hs,h];have:=d (A++[y]) a ([x]++B) (by simp at hm;omega) (by simp[c]) (by rw[<-hlen];simp);rw[show((A++[y]).length:Int)+(a.length:Int)-1=((A.length+a.length+1:Nat):Int)-1 by simp;omega,show((A++[y]).length:Int)=(A.length:Int)+1 by simp]at this;rw[this];simp}
end Go.Ab
namespace Sh
open Go Go.Ab Go.Proofs
open Arr (tm)
theorem NI{l:List Int}(hl:l.length<=1048576):gq l=O l.reverse:=by unfold gq;rw[aZ (by omega) (by omega)];have:=RP (l:=l) (f:=(λ(st2:(List Int)×Int×Int)=>(bif(ae (st2.2.1<st2.2.2))then bif ae (0<=st2.2.2)&&ae (st2.2.2<(st2.1.length:Int))then(st2.1[(agC st2.2.2)]?).bind λb=>bif ae (0<=st2.2.1)&&ae (st2.2.1<(st2.1.length:Int))then(st2.1[(agC st2.2.1)]?).bind λd=>bif ae (0<=st2.2.1)&&ae (st2.2.1<(st2.1.length:Int))then bif ae (0<=st2.2.2)&&ae (st2.2.2<((st2.1.set (agC st2.2.1) b).length:Int))then O (.inl (((st2.1.set (agC st2.2.1) b).set (agC st2.2.2) d),(aW (st2.2.1+1)),(aW (st2.2.2-1))))else U else U else U else U else O (.inr st2.1):Option (((List Int)×Int×Int)⊕((List Int)))))) hl ?_ ?_ l.length [] l [] (aB _) rfl (by simp);{simp only[afJ,aew,aeR]at this;rw[show((0:Nat):Int)+(l.length:Int)-1=(l.length:Int)-1 by omega]at this;exact bind_eq this rfl};{intro A i j x y a hA hx c;have h1:=(aeK.1 hx).1;have e:=(aeK.1 c).1;(have g1:(ae ((0:Int)<=(i:Int))&&ae ((i:Int)<(A.length:Int)))=true:=by simp;omega);(have g2:(ae ((0:Int)<=(j:Int))&&ae ((j:Int)<(A.length:Int)))=true:=by simp;omega);simp only[aq (show(i:Int)<(j:Int) by omega),ai,g1,g2,aK,hx,c,ah,afv];rw[aZ (by omega) (by omega),aZ (by omega) (by omega)]};{intro A i j a;simp only[ar (show¬i<j by omega),aj]}
theorem QD{n:b9}(hn:eH n=true)(i:Nat):∀(d:Nat) (hi:i+d+1<n.2.1.length),before (n.2.1[i]'(by omega)) (n.2.1[i+d+1]'hi)=true:=by(have next:∀j (a:j+1<n.2.1.length),before (n.2.1[j]'(by omega)) (n.2.1[j+1]'a)=true:=λj a=>by unfold eH at hn;simp only[ak,aga,ahn]at hn;have:=(hn.2.1 (j+1) a).2;rw[iy a]at this;simpa using this);intro d;induction d with|zero=>intro hi;exact next i hi|succ d c=>intro hi;have h1:=c (by omega);(have b:=next (i+d+1) hi);show before (n.2.1[i]'(by omega)) (n.2.1[i+d+1+1]'hi)=true;unfold before at h1 b⊢;simp only[af8,ak,au]at h1 b⊢;omega
theorem Q1{n:b9}(hn:eH n=true){i j u v:Nat}(h1:qq n i u v)(c:qq n j u v):i=j:=by obtain⟨x,hx,d⟩:=h1;obtain⟨y,b,f⟩:=c;have bx:=lO hn hx;have g:=lO hn b;have hi:=(aeK.1 hx);have a:=(aeK.1 b);obtain⟨hi,rfl⟩:=hi;obtain⟨a,rfl⟩:=a;(have key:∀p q (hp:p<n.2.1.length) (hq:q<n.2.1.length),p<q->(n.2.1[p]).1=(n.2.1[q]).1->(n.2.1[p]).2.1=(n.2.1[q]).2.1->False:=λp q hp hq k l m=>by have:=QD hn p (q-p-1) (by omega);(have e:p+(q-p-1)+1=q:=by omega);simp only[e]at this;unfold before at this;simp only[af8,ak,au]at this;omega);rcases Nat.lt_trichotomy i j with h|h|h;{exact(key i j hi a h (by omega) (by omega)).elim};{exact h};{exact(key j i a hi h (by omega) (by omega)).elim}
theorem NQ{n:b9}(hn:eH n=true){j u v:Nat}(h:qq n j u v):link n (u:Int) (v:Int)=O j:=by obtain⟨x,hx,a⟩:=h;unfold link;obtain⟨i,hi⟩:=pq (t:=λx:aO=>(ae (x.1=(u:Int))&&ae (x.2.1=(v:Int)))||(ae (x.1=(v:Int))&&ae (x.2.1=(u:Int)))) 0 (aF hx) (by simp only[af8,ak,au];exact a);rw[hi];obtain⟨y,y1,_,y3⟩:=iI _ _ _ hi;rw[afU]at y1;simp only[af8,ak,au]at y3;exact congrArg O (Q1 hn ⟨y,y1,y3⟩ ⟨x,hx,a⟩)
theorem Gz{n:b9}{j u v:Nat}(h:link n (u:Int) (v:Int)=O j):qq n j u v:=by unfold link at h;obtain⟨y,y1,_,y3⟩:=iI _ _ _ h;rw[afU]at y1;simp only[af8,ak,au]at y3;exact⟨y,y1,y3⟩
def AB(n:b9)(l:List aO)(ts:List Int)(q k:Nat):Bool:=match link n (k:Int) (q:Int)with
  |some j=>ae (0<=tm ts k)&&ae (yP n l j (tm ts k)=tm ts q)
  |none=>false
noncomputable def Tv(n:b9)(l:List aO):(List Int)×(List Int)×Int×Int->Option (((List Int)×(List Int)×Int×Int)⊕(((List Int)×(List Int)×Int))):=λa=>bif(ae (a.2.2.2<(n.1.length:Int)))then(nN n a.2.2.2 a.2.2.1).bind λg=>(bif(ae (0<=g))then bif ae (0<=a.2.2.2)&&ae (a.2.2.2<(a.1.length:Int))then(a.1[(agC a.2.2.2)]?).bind λh=>O (ae (0<=h))else U else O false).bind λb=>(bif b then bif ae (0<=a.2.2.2)&&ae (a.2.2.2<(a.1.length:Int))then(a.1[(agC a.2.2.2)]?).bind λc=>(mA n l g c).bind λd=>bif ae (0<=a.2.2.1)&&ae (a.2.2.1<(a.1.length:Int))then(a.1[(agC a.2.2.1)]?).bind λe=>O (ae (d=e))else U else U else O false).bind λf=>bif f then O (.inr (a.1,a.2.1,a.2.2.2))else O (.inl (a.1,a.2.1,a.2.2.1,(aW (a.2.2.2+1))))else O (.inr (a.1,a.2.1,a.2.2.1))
noncomputable def QE(n:b9)(l:List aO)(a:Int):(List Int)×(List Int)×Int->Option (((List Int)×(List Int)×Int)⊕List Int):=λc=>bif(!decide (c.2.2=a))then(aX (Tv n l) (c.1,c.2.1,c.2.2,0)).bind λb=>bif ae (aeP b.2.1+aeP [b.2.2]<=lim)then O (.inl (b.1,(b.2.1++[b.2.2]),b.2.2))else U else O (.inr c.2.1)
noncomputable def Rm(n:b9)(l:List aO)(a:Int):Int×(List Int)×(List Int)->Option ((Int×(List Int)×(List Int))⊕List Int):=λb=>bif(!decide (b.1=a))then(pW n l b.2.1 b.1).bind λc=>bif ae (aeP [c]+aeP b.2.2<=lim)then O (.inl (c,b.2.1,([c]++b.2.2)))else U else O (.inr b.2.2)
theorem Gn(n:b9)(l:List aO)(a b t:Int):kr n l a b t=(mV n l a b t).bind λr1=>
 bif(!r1)then
 O ([],false)
 else
 (lr n l a t).bind λr2=>
 bif ae (0<=b)&&ae (b<(r2.length:Int))then
 (r2[(agC b)]?).bind λe=>
 bif(ae (e<0))then
 O ([],false)
 else
 (aX (QE n l a) (r2,[b],b)).bind λc=>
 (gq c).bind λd=>
 O (d,true)
 else
 U:=rfl
theorem GH(n:b9)(l:List aO)(a b t:Int):iL n l a b t=(pI n l a b t).bind λr1=>
 bif(!r1)then
 O ([],false)
 else
 (nh n l a t).bind λr2=>
 bif ae (0<=b)&&ae (b<(r2.length:Int))then
 (r2[(agC b)]?).bind λc=>
 bif(ae (c<0))then
 O ([],false)
 else
 (aX (Rm n l a) (b,r2,[b])).bind λd=>
 O (d,true)
 else
 U:=rfl
section
variable {n:b9} {l:List aO} {a:Nat} {t:Int} (hn:eH n=true) (hl:dy n.2.1.length l=true)
include hn hl
theorem Ck(a b t:Int):mV n l a b t=O (bZ a 0 ((n.1.length:Int)-1)&& (bZ b 0 ((n.1.length:Int)-1)&&bZ t 0 10000)):=by have hs:=jo hn;have c:=ik hn;unfold mV wT;simp only[wy hs.fine,hn,ah,ai,eF,CO hs.fine (Dr hl),hl];rw[aZ (by omega) (by omega)];cases bZ a 0 ((n.1.length:Int)-1)<;>cases bZ b 0 ((n.1.length:Int)-1)<;>cases bZ t 0 10000<;>rfl
theorem Ct(a b t:Int):pI n l a b t=O (bZ a 0 ((n.1.length:Int)-1)&& (bZ b 0 ((n.1.length:Int)-1)&&bZ t 0 10000)):=by have hs:=jo hn;have c:=ik hn;unfold pI EO wo Es;simp only[Af hs.fine,hn,ah,ai,eL,Bd hs.fine (Dr hl),hl];rw[aZ (by omega) (by omega)];cases bZ a 0 ((n.1.length:Int)-1)<;>cases bZ b 0 ((n.1.length:Int)-1)<;>cases bZ t 0 10000<;>rfl
variable (ha:a<n.1.length) (ht:0<=t/\t<=10000)
include ha ht
theorem Fi(b e:Int)(h:e=t):∃r,gA n l (a:Int) b e=O r/\fk n l (a:Int) b e=O r/\0<=r.1/\r.1<=10960:=by subst h;unfold gA fk;simp only[Ck hn hl,Ct hn hl,ah];cases c:(bZ (a:Int) 0 ((n.1.length:Int)-1)&& (bZ b 0 ((n.1.length:Int)-1)&&bZ e 0 10000))with|false=>exact⟨(0,false),rfl,rfl,by simp,by simp⟩|true=>simp only[bZ,ak,au]at c;obtain⟨q,rfl⟩:∃q:Nat,b=(q:Int):=⟨b.toNat,by omega⟩;obtain⟨us,h1,i,f,j⟩:=xt hn hl ha ht;have hlen:us.length=n.1.length:=f.len;(have hq:q<n.1.length:=by omega);(have g:(ae ((0:Int)<=(q:Int))&&ae ((q:Int)<(us.length:Int)))=true:=by simp;omega);have t1:=Arr.ky (ts:=us) (v:=q) (by omega);have hle:tm us q<=10960:=f.le (v:=q) hq;have d:tm us q<0->tm us q= -1:=f.neg q hq;simp only[afl,aj,h1,i,ah,g,ai,aK,t1,MP];by_cases h0:tm us q<0;{rw[aq h0,ar (by omega),d h0];exact⟨(0,false),rfl,rfl,by simp,by simp⟩};{rw[ar h0,aq (by omega)];exact⟨(tm us q,true),rfl,by rw[Int.max_eq_left (by omega)],by show 0<=tm us q;omega,hle⟩}
section
variable {ts:List Int} (I:Arr.Inv (eD n l a t hn hl ha ht) ts) (C:Arr.kX (eD n l a t hn hl ha ht) ts)
include I C
omit hl ha ht I C in
theorem yI{q k:Nat}:AB n l ts q k=true↔∃j,qq n j k q/\0<=tm ts k/\yP n l j (tm ts k)=tm ts q:=by unfold AB;constructor;{intro h;cases hk:link n (k:Int) (q:Int)with|none=>rw[hk]at h;cases h|some j=>rw[hk]at h;simp only[ak,au]at h;exact⟨j,Gz hk,h⟩};{rintro⟨j,h1,a,b⟩;rw[NQ hn h1];simp[a,b]}
theorem Jr{q:Nat}(hq:q<n.1.length)(h0:0<=tm ts q)(c:q≠a):∃K,K<n.1.length/\AB n l ts q K=true/\(∀k,k<K->AB n l ts q k=false)/\0<=tm ts K/\tm ts K<tm ts q:=by obtain⟨j,u,e,o,p⟩:=Arr.pred I C (v:=q) hq c h0;have r:AB n l ts q u=true:=(yI hn).2 ⟨j,e,o,p⟩;obtain⟨K,d⟩:=pq (t:=AB n l ts q) (l:=agH n.1.length) 0 (ahn.2 ((eD n l a t hn hl ha ht).he _ _ _ e).1) r;obtain⟨x,f,_,g⟩:=iI _ _ _ d;rw[afU]at f;have b:=iW _ _ _ _ d;rw[List.length_range,afb]at b;rw[ahh b]at f;cases f;refine⟨K,b,g,λk hk=> ?_,?_⟩;{have h:=(oV (AB n l ts q) (agH n.1.length) K 0 K (by rw[ahh b]) g).1 (by rw[afb];exact d);exact tx h k (by refine aF (i:=k) ?_;rw[afs hk,ahh (by omega)])};{obtain⟨m,s,c1,c2⟩:=(yI hn).1 g;have:=(eD n l a t hn hl ha ht).up m K q (tm ts K) s;have this:tm ts K<yP n l m (tm ts K):=this;exact⟨c1,by omega⟩}
omit C in
theorem Sw{q K:Nat}{way:List Int}(hq:q<n.1.length)(c:K<n.1.length)(h1:AB n l ts q K=true)(f:∀k,k<K->AB n l ts q k=false):∀(d k:Nat),k+d=K->aX (Tv n l) (ts,way,(q:Int),(k:Int))=O (ts,way,(K:Int)):=by have hs:=jo hn;have hlen:ts.length=n.1.length:=I.len;(have step:∀k,k<n.1.length->Tv n l (ts,way,(q:Int),(k:Int))=O (bif AB n l ts q k then .inr (ts,way,(k:Int))else .inl (ts,way,(q:Int),(k:Int)+1)):=λk hk=>by have a:=up (show n.1.length<=maxLen by have:=ik hn;unfold maxLen;omega) hk;(have g1:(ae ((0:Int)<=(k:Int))&&ae ((k:Int)<(ts.length:Int)))=true:=by simp;omega);(have g2:(ae ((0:Int)<=(q:Int))&&ae ((q:Int)<(ts.length:Int)))=true:=by simp;omega);have t1:=Arr.ky (ts:=ts) (v:=k) (by omega);have t2:=Arr.ky (ts:=ts) (v:=q) (by omega);have hle:tm ts k<=10960:=I.le (v:=k) hk;unfold Tv AB;simp only[bG hk,ai,UF hs.fine hn,ah,a];cases b:link n (k:Int) (q:Int)with|none=>rfl|some j=>have he:=Gz b;(have g:j<n.2.1.length:=by obtain⟨x,hx,_⟩:=he;exact(aeK.1 hx).1);simp only[place,ai,g1,aK,t1,ah];by_cases h0:0<=tm ts k;{rw[aq h0];simp only[ai,H9 hn hl g h0 (by omega),ah,g2,t2,ag6];cases ae (yP n l j (tm ts k)=tm ts q)<;>rfl};{rw[ar h0];rfl});intro d;induction d with|zero=>intro k e;(obtain rfl:k=K:=by omega);exact bb (by rw[step k c,h1];rfl)|succ d h=>intro k e;rw[bq (a':=(ts,way,(q:Int),(k:Int)+1)) (by rw[step k (by omega),f k (by omega)];rfl)];have:=h (k+1) (by omega);rw[show((k+1:Nat):Int)=(k:Int)+1 by omega]at this;exact this
omit C in
theorem QH{q K:Nat}(hq:q<n.1.length)(h1:AB n l ts q K=true)(Q:∀k,k<K->AB n l ts q k=false):pW n l ts (q:Int)=some (K:Int):=by
  have R:=ik hn;have hlen:ts.length=n.1.length:=I.len;unfold pW;obtain⟨J,D,E,F⟩:=(yI hn).1 h1;have S:=((eD n l a t hn hl ha ht).he _ _ _ D).1
  have low:∀j w,qq n j w q->0<=tm ts w->yP n l j (tm ts w)=tm ts q->K<=w:=fun j w e c1 c2=>by
    by_cases h:w<K
    ·have:=Q w h
     rw[(yI hn).2 ⟨j,e,c1,c2⟩]at this;cases this
    ·omega
  have:=vo (n:=n.2.1.length) (f:=(fun (st2:Int×Int)=>(
     bif(decide (st2.2<(n.2.1.length:Int)))then
     (idx n.2.1 st2.2).bind fun T=>
     (ni T (q:Int)).bind fun p=>
     (bif(decide (0<=p))then
     (idx ts p).bind fun V=>
     some (decide (0<=V))
     else
     some false).bind fun W=>
     (bif W then
     (idx ts p).bind fun X=>
     (sJ n l st2.2 X).bind fun Y=>
     (idx ts (q:Int)).bind fun Z=>
     some (decide (Y=Z))
     else
     some false).bind fun G=>
     (bif G then
     (bif(decide (st2.1<0))then
     some true
     else
     some (decide (p<st2.1))).bind fun H=>
     some H
     else
     some false).bind fun c12=>
     bif c12 then
     some (.inl (p,(aW (st2.2+1))))
     else
     some (.inl (st2.1,(aW (st2.2+1))))
     else
     some (.inr st2.1):Option ((Int×Int)⊕(Int))))) (fun j B=>B.2=(j:Int)/\((B.1= -1/\J>=j)\/((K:Int)<=B.1/\(J<j->B.1=(K:Int))))) (fun y=>y=(K:Int)) ?_ ?_ n.2.1.length 0 (-1,0) (by omega) ⟨rfl,.inl ⟨rfl,Nat.zero_le _⟩⟩
  ·obtain⟨y,y1,y2⟩:=this
   subst y2;exact bind_eq y1 rfl
  ·rintro j ⟨s,k⟩ r ⟨hk,hs⟩
   obtain rfl:k=(j:Int):=hk;have hs:(s= -1/\J>=j)\/((K:Int)<=s/\(J<j->s=(K:Int))):=hs;left;obtain⟨x,hx⟩:∃x,n.2.1[j]? =some x:=⟨_,aJ r⟩;have hb:=lO hn hx;have u:=up (show n.2.1.length<=maxLen by unfold maxLen;omega) r;have t2:=Arr.ky (ts:=ts) (v:=q) (by omega);have z:J=j->qq n j K q:=fun e=>e▸D
   have d:∀w,qq n j w q->(x.1=(w:Int)/\x.2.1=(q:Int))\/(x.1=(q:Int)/\x.2.1=(w:Int)):=by
     rintro w ⟨y,P,h⟩;rw[hx]at P;cases P;exact h
   have skip:(∀w,qq n j w q->0<=tm ts w->¬yP n l j (tm ts w)=tm ts q)->(s= -1/\J>=j+1)\/((K:Int)<=s/\(J<j+1->s=(K:Int))):=fun h=>by
     have aa:J≠j:=fun e=>h K (z e) E (by rw[<-e];exact F)
     rcases hs with ⟨s1,s2⟩|⟨s1,s2⟩
     ·exact .inl ⟨s1,by omega⟩
     ·exact .inr ⟨s1,fun h=>s2 (by omega)⟩
   by_cases L:x.1=(q:Int)\/x.2.1=(q:Int)
   ·obtain⟨v,M,e,N⟩:∃v:Nat,(if(q:Int)=x.1 then x.2.1 else if(q:Int)=x.2.1 then x.1 else -1)=(v:Int)/\qq n j v q/\v<n.1.length:=by
      by_cases h:(q:Int)=x.1
      ·exact⟨x.2.1.toNat,by rw[aN h];omega,⟨x,hx,.inr ⟨h.symm,by omega⟩⟩,by omega⟩
      ·have h':(q:Int)=x.2.1:=by omega
       exact⟨x.1.toNat,by rw[aM h,aN h'];omega,⟨x,hx,.inl ⟨by omega,h'.symm⟩⟩,by omega⟩
    have g:∀w,qq n j w q->w=v:=fun w hw=>by rcases d w hw with h1|h1<;>rcases d v e with o|o<;>omega
    have t1:=Arr.ky (ts:=ts) (v:=v) (by omega);have hle:tm ts v<=10960:=I.le (v:=v) N;simp only[bG r,ai,bh,hx,ah,Am,M,aq (show(0:Int)<=(v:Int) by omega),t1,u]
    by_cases h0:0<=tm ts v
    ·rw[aq h0]
     simp only[ai,Py hn hl r h0 (by omega),ah,t2]
     by_cases o:yP n l j (tm ts v)=tm ts q
     ·have ab:=low j v e h0 o
      rw[aq o];have b:J=j->v=K:=fun eq=>(g K (z eq)).symm
      have i:J<j->s=(K:Int):=fun h=>by rcases hs with ⟨_,s2⟩|⟨_,s2⟩<;>first|omega|exact s2 h
      by_cases c:s<0
      ·rw[aq c]
       refine⟨((v:Int),(j:Int)+1),rfl,by show(j:Int)+1=((j+1:Nat):Int);omega,.inr ⟨by show(K:Int)<=(v:Int);omega,fun C=> ?_⟩⟩;show(v:Int)=(K:Int)
       by_cases eq:J=j
       ·rw[b eq]
       ·have:=i (by omega);omega
      ·rw[ar c]
       have m:(K:Int)<=s/\(J<j->s=(K:Int)):=by rcases hs with ⟨s1,_⟩|h
                                               ·omega
                                               ·exact h
       by_cases A:(v:Int)<s
       ·rw[aq A]
        refine⟨((v:Int),(j:Int)+1),rfl,by show(j:Int)+1=((j+1:Nat):Int);omega,.inr ⟨by show(K:Int)<=(v:Int);omega,fun C=> ?_⟩⟩;show(v:Int)=(K:Int)
        by_cases eq:J=j
        ·rw[b eq]
        ·have:=m.2 (by omega);omega
       ·rw[ar A]
        refine⟨(s,(j:Int)+1),rfl,by show(j:Int)+1=((j+1:Nat):Int);omega,.inr ⟨m.1,fun C=> ?_⟩⟩;show s=(K:Int)
        by_cases eq:J=j
        ·have:=b eq;omega
        ·exact m.2 (by omega)
     ·rw[ar o]
      refine⟨(s,(j:Int)+1),rfl,by show(j:Int)+1=((j+1:Nat):Int);omega,skip fun w hw _=> ?_⟩;rw[g w hw];exact o
    ·rw[ar h0]
     refine⟨(s,(j:Int)+1),rfl,by show(j:Int)+1=((j+1:Nat):Int);omega,skip fun w hw hp=> ?_⟩;rw[g w hw]at hp;exact absurd hp h0
   ·have M:(if(q:Int)=x.1 then x.2.1 else if(q:Int)=x.2.1 then x.1 else -1)= -1:=by rw[aM (by omega),aM (by omega)]
    refine⟨(s,(j:Int)+1),?_,by show(j:Int)+1=((j+1:Nat):Int);omega,skip fun w hw _=>by rcases d w hw with h1|h1<;>omega⟩;simp only[bG r,ai,bh,hx,ah,Am,M,u];rfl
  ·rintro⟨s,k⟩ ⟨hk,hs⟩
   obtain rfl:k=(n.2.1.length:Int):=hk
   have C:J<n.2.1.length:=by
     obtain⟨x,hx,_⟩:=D;exact(List.getElem?_eq_some_iff.1 hx).1
   have hs:(s= -1/\J>=n.2.1.length)\/((K:Int)<=s/\(J<n.2.1.length->s=(K:Int))):=hs;refine⟨s,by simp,?_⟩;rcases hs with ⟨_,s2⟩|⟨_,s2⟩
   ·omega
   ·exact s2 C
theorem Nv:∀(m q:Nat) (way out:List Int),(tm ts q).toNat<=m->q<n.1.length->0<=tm ts q->way.length+m<=20000->out.length+m<=20000->∃P:List Int,aX (QE n l (a:Int)) (ts,way,(q:Int))=O (way++P)/\aX (Rm n l (a:Int)) ((q:Int),ts,out)=O (P.reverse++out)/\P.length<=m/\∀x∈P,0<=x/\x<=16:=by have d:=ik hn;intro m;induction m with|zero=>intro q way out hm hq h0 hw ho;by_cases b:q=a;{subst b;refine⟨[],bb ?_,bb ?_,aB _,λ_ h=>nomatch h⟩;{unfold QE;simp};{unfold Rm;simp}};{obtain⟨K,_,_,_,c1,c2⟩:=Jr hn hl ha ht I C hq h0 b;omega}|succ m e=>intro q way out hm hq h0 hw ho;by_cases b:q=a;{subst b;refine⟨[],bb ?_,bb ?_,afc _,λ_ h=>nomatch h⟩;{unfold QE;simp};{unfold Rm;simp}};{obtain⟨K,k1,k2,k3,c1,c2⟩:=Jr hn hl ha ht I C hq h0 b;obtain⟨P,f,g,j,i⟩:=e K (way++[(K:Int)]) ((K:Int)::out) (by omega) k1 c1 (by simp;omega) (by simp;omega);have c:ae ((q:Int)=(a:Int))=false:=ar (by omega);refine⟨(K:Int)::P,?_,?_,by simp;omega,λx hx=> ?_⟩;{rw[bq (a':=(ts,way++[(K:Int)],(K:Int))) ?_,f];{simp};{unfold QE;have:=Sw hn hl ha ht I (way:=way) hq k1 k2 k3 K 0 (by omega);rw[show((0:Nat):Int)=0 from rfl]at this;simp only[c,ag5,ai,this,ah];rw[bW (by simp;omega)];rfl}};{rw[bq (a':=((K:Int),ts,(K:Int)::out)) ?_,g];{simp};{unfold Rm;simp only[c,ag5,ai,QH hn hl ha ht I hq k2 k3,ah];rw[bW (by simp;omega)];rfl}};{rcases aeT.1 hx with rfl|hx;{omega};{exact i x hx}}}
end
theorem B6(b:Int):∃r,kr n l (a:Int) b t=O r/\iL n l (a:Int) b t=O r/\(r.2=true->r.1≠[])/\r.1.length<=20000/\∀x∈r.1,0<=x/\x<=16:=by have e:=ik hn;rw[Gn,GH,Ck hn hl,Ct hn hl];simp only[ah];cases c:(bZ (a:Int) 0 ((n.1.length:Int)-1)&& (bZ b 0 ((n.1.length:Int)-1)&&bZ t 0 10000))with|false=>exact⟨([],false),rfl,rfl,(λh=>by cases h),by simp,λ_ h=>nomatch h⟩|true=>simp only[bZ,ak,au]at c;obtain⟨q,rfl⟩:∃q:Nat,b=(q:Int):=⟨b.toNat,by omega⟩;obtain⟨us,h1,f,d,i⟩:=xt hn hl ha ht;have hlen:us.length=n.1.length:=d.len;(have hq:q<n.1.length:=by omega);(have g:(ae ((0:Int)<=(q:Int))&&ae ((q:Int)<(us.length:Int)))=true:=by simp;omega);have t1:=Arr.ky (ts:=us) (v:=q) (by omega);have hle:tm us q<=10960:=d.le (v:=q) hq;simp only[afl,aj,h1,f,ah,g,ai,aK,t1];by_cases h0:tm us q<0;{rw[aq h0];exact⟨([],false),rfl,rfl,(λh=>by cases h),by simp,λ_ h=>nomatch h⟩};{rw[ar h0];obtain⟨P,j,k,o,m⟩:=Nv hn hl ha ht d i _ q [(q:Int)] [(q:Int)] (aB _) hq (by omega) (by simp;omega) (by simp;omega);simp only[aj,j,k,ah];rw[NI (by simp;omega)];refine⟨(P.reverse++[(q:Int)],true),by simp,by simp,by simp,by simp;omega,λx hx=> ?_⟩;have hx:x∈P.reverse++[(q:Int)]:=hx;simp only[List.mem_append,List.mem_reverse,afI]at hx;rcases hx with hx|rfl;{exact m x hx};{omega}}
end
end Sh
namespace Sh.Q
open Go Go.Ab Go.Proofs
noncomputable def JG(b:bE)(s:List Int)(i:Int):(List Int)×Int->Option (((List Int)×Int)⊕List Int):=λa=>bif(ae (a.2<(b.1.length:Int)))then(idx b.1 a.2).bind λc=>(sub s i (s.length:Int)).bind λd=>(iK c.2.1 d).bind λe=>bif e then bif ae (0<=i)&&ae (i<(a.1.length:Int))then(a.1[(agC i)]?).bind λf=>bif ae (0<=(aW (i+(c.2.1.length:Int))))&&ae ((aW (i+(c.2.1.length:Int)))<(a.1.length:Int))then(a.1[(agC (aW (i+(c.2.1.length:Int))))]?).bind λg=>bif ae (0<=i)&&ae (i<(a.1.length:Int))then O (.inl ((a.1.set (agC i) (aW (f+g))),(aW (a.2+1))))else U else U else U else O (.inl (a.1,(aW (a.2+1))))else O (.inr a.1)
noncomputable def PN(b:bE)(s:List Int):(List Int)×Int->Option (((List Int)×Int)⊕List Int):=λst2=>bif(ae (0<=st2.2))then(aX (JG b s st2.2) (st2.1,0)).bind λa=>O (.inl (a,(aW (st2.2-1))))else O (.inr st2.1)
theorem PJ(b:bE)(s:List Int):pM b s=bif ae (0<=(aW ((s.length:Int)+1)))&&ae ((aW ((s.length:Int)+1))<=(aW ((s.length:Int)+1)))&&ae ((aW ((s.length:Int)+1))<=lim)then
 bif ae (0<=(s.length:Int))&&ae ((s.length:Int)<((aeU (agC (aW ((s.length:Int)+1))) (0:Int)).length:Int))then
 (aX (PN b s) (((aeU (agC (aW ((s.length:Int)+1))) (0:Int)).set (agC (s.length:Int)) 1),(aW ((s.length:Int)-1)))).bind λa=>
 O a
 else
 U
 else
 U:=rfl
structure SZ (b:bE) (s:List Int) (i:Nat) (W:List Int):Prop where
  len:W.length=s.length+1
  val:∀k,i<=k->k<=s.length->∃v,W[k]? =O v/\0<=v/\v<=((3^(s.length-k):Nat):Int)/\(0<v->k<s.length->∃x∈b.1,Gv x.2.1 (s.drop k)=true/\∃u,W[k+x.2.1.length]? =O u/\0<u)
theorem Vr{k:Nat}(h:k<=20):3^k<=3486784401:=aC (ahZ (by omega) h) (by decide)
theorem MX{b:bE}(m:dm b=true){s:List Int}(hs:s.length<=20){i:Nat}(hi:i<s.length){W:List Int}(o:SZ b s (i+1) W):∀(r pre:List aV) (v:Int),b.1=pre++r->0<=v->v<=((3^(s.length-(i+1)):Nat):Int)*(pre.countP (λx=>Gv x.2.1 (s.drop i)):Nat)->(0<v->∃x∈b.1,Gv x.2.1 (s.drop i)=true/\∃u,W[i+x.2.1.length]? =O u/\0<u)->∃v',aX (JG b s (i:Int)) (W.set i v,(pre.length:Int))=O (W.set i v')/\0<=v'/\v'<=((3^(s.length-(i+1)):Nat):Int)*(b.1.countP (λx=>Gv x.2.1 (s.drop i)):Nat)/\(0<v'->∃x∈b.1,Gv x.2.1 (s.drop i)=true/\∃u,W[i+x.2.1.length]? =O u/\0<u)
 |[],pre,v,e,h0,h1,n=>by rw[aew]at e;subst e;refine⟨v,bb ?_,h0,h1,n⟩;unfold JG;rw[ar (by show¬((b.1.length:Int)<(b.1.length:Int));omega)];rfl
 |x::r,pre,v,e,h0,h1,n=>by have F:=Vr (k:=s.length-(i+1)) (by omega);have hl:=nV m;(have hp:pre.length<b.1.length:=by rw[e];simp);(have g:b.1.length<=maxLen:=by unfold maxLen;omega);(have hx:b.1[pre.length]? =O x:=by rw[e];simp);have h:x∈b.1:=aF hx;have z:=tO m x h;(have j:x.2.1.length<=maxLen:=by unfold maxLen;omega);have A:=o.len;have a:sub s (i:Int) (s.length:Int)=O (s.drop i):=yQ (ahE hi);(have t:pre.countP (λx=>Gv x.2.1 (s.drop i))<=3:=by have C:=ML m (s.drop i);rw[e,ahM]at C;omega);(have G:v<=10460353203:=by generalize 3^(s.length-(i+1))=B at*;generalize pre.countP (λx=>Gv x.2.1 (s.drop i))=c at*;have:(B:Int)*(c:Int)<=3486784401*3:=Int.mul_le_mul (by omega) (by omega) (by omega) (by omega);omega);have l:=λv'=>MX m hs hi o r (pre++[x]) v' (by rw[e];simp);(have d:((pre++[x]).length:Int)=(pre.length:Int)+1:=by simp);simp only[d,ahM,ahN,ahP]at l;(have g1:(ae ((0:Int)<=(i:Int))&&ae ((i:Int)<((W.set i v).length:Int)))=true:=by simp;omega);(have g2:(W.set i v)[i]? =O v:=by rw[afr (by omega)]);cases f:Gv x.2.1 (s.drop i)with|false=>rw[f]at l;rw[bq (a':=(W.set i v,(pre.length:Int)+1)) ?_];{exact l v h0 (by simpa using h1) n};{unfold JG;simp only[bG hp,ai,bh,hx,ah,a,Mw j,f,aj,up g hp]}|true=>rw[f]at l;have p:=Cm f;rw[aft]at p;obtain⟨u,w,H,I,J⟩:=o.val (i+x.2.1.length) (by omega) (by omega);have D:3^(s.length-(i+x.2.1.length))<=3^(s.length-(i+1)):=ahZ (by omega) (by omega);(have E:aW ((i:Int)+(x.2.1.length:Int))=((i+x.2.1.length:Nat):Int):=by rw[aZ (by omega) (by omega)];omega);(have g3:(ae ((0:Int)<=((i+x.2.1.length:Nat):Int))&&ae (((i+x.2.1.length:Nat):Int)<((W.set i v).length:Int)))=true:=by simp;omega);(have g4:(W.set i v)[i+x.2.1.length]? =O u:=by rw[afq (by omega)];exact w);rw[bq (a':=(W.set i (v+u),(pre.length:Int)+1)) ?_];{refine l (v+u) (by omega) ?_ λy=> ?_;{generalize 3^(s.length-(i+1))=B at*;generalize pre.countP (λx=>Gv x.2.1 (s.drop i))=c at*;(have:(B:Int)*((c+(0+if true=true then 1 else 0):Nat):Int)=(B:Int)*(c:Int)+B:=by simp only[if_true,afb,Int.natCast_add,Int.mul_add];omega);rw[this];omega};{by_cases q:0<v;{exact n q};{exact⟨x,h,f,u,w,by omega⟩}}};{unfold JG;simp only[bG hp,ai,bh,hx,ah,a,Mw j,f,E,g1,g3,aK,g2,g4,up g hp,List.set_set];rw[aZ (by omega) (by omega)]}
theorem Iz{b:bE}(d:dm b=true){s:List Int}(hs:s.length<=20):∀(i:Nat) (W:List Int),i<=s.length->SZ b s i W->(∀k,k<i->W[k]? =O 0)->∃f,aX (PN b s) (W,(i:Int)-1)=O f/\SZ b s 0 f
 |0,W,_,a,_=>⟨W,bb rfl,a⟩
 |i+1,W,hi,a,q=>by have h0:=q i (by omega);have j:=a.len;(have r:W.set i 0=W:=by refine aeC λk=> ?_;rw[ahV];by_cases e:i=k;{subst e;rw[aN rfl,aN (by omega),h0]};{rw[aM e]});obtain⟨v',k1,k2,k3,t⟩:=MX d hs hi a b.1 [] 0 rfl (aes _) (by simp) (λh=>absurd h (by omega));rw[r]at k1;have hc:=ML d (s.drop i);(have l:SZ b s i (W.set i v'):=by refine⟨by rw[afv];exact j,λk w m=> ?_⟩;by_cases e:i=k;{subst e;refine⟨v',by rw[afr (by omega)],k2,?_,λhp _=> ?_⟩;{(have y:s.length-i=(s.length-(i+1))+1:=by omega);rw[y,Nat.pow_succ];generalize 3^(s.length-(i+1))=B at*;generalize b.1.countP (λx=>Gv x.2.1 (s.drop i))=c at*;have:(B:Int)*(c:Int)<=(B:Int)*3:=Int.mul_le_mul_of_nonneg_left (by omega) (by omega);rw[Int.natCast_mul];omega};{obtain⟨x,g,n,u,o,p⟩:=t hp;have:=tO d x g;exact⟨x,g,n,u,by rw[afq (by omega)];exact o,p⟩}};{obtain⟨v,z,A,C,D⟩:=a.val k (by omega) m;refine⟨v,by rw[afq e];exact z,A,C,λhp hk=> ?_⟩;obtain⟨x,g,n,u,o,p⟩:=D hp hk;exact⟨x,g,n,u,by rw[afq (by omega)];exact o,p⟩});obtain⟨f,m1,m2⟩:=Iz d hs i (W.set i v') (by omega) l (λk hk=>by rw[afq (by omega)];exact q k (by omega));refine⟨f,?_,m2⟩;rw[show((i+1:Nat):Int)-1=(i:Int) by omega,bq (a':=(W.set i v',(i:Int)-1)) ?_];{exact m1};{unfold PN;rw[show(([]:List aV).length:Int)=0 from rfl]at k1;simp only[aq (show(0:Int)<=(i:Int) by omega),ai,k1,ah];rw[aZ (by omega) (by omega)]}
theorem TP{b:bE}(c:dm b=true){s:List Int}(hs:s.length<=20):∃W,pM b s=O W/\SZ b s 0 W:=by have a:(lim:Int)=4294967296:=rfl;obtain⟨d,m1,m2⟩:=Iz c hs s.length ((aeU (s.length+1) 0).set s.length 1) (aB _) ⟨by simp,λk h1 e=>by(obtain rfl:k=s.length:=by omega);refine⟨1,by rw[afr (by simp)],by omega,by simp,λ_ h=>absurd h (by omega)⟩⟩ (λk hk=>by rw[afq (by omega),agj,aN (by omega)]);refine⟨d,?_,m2⟩;rw[PJ,aZ (x:=(s.length:Int)+1) (by omega) (by omega),show agC ((s.length:Int)+1)=s.length+1 by omega];rw[show(ae (0<=(s.length:Int)+1)&&ae ((s.length:Int)+1<=(s.length:Int)+1)&&ae ((s.length:Int)+1<=lim))=true by simp;omega,ai];rw[show(ae (0<=(s.length:Int))&&ae ((s.length:Int)<((aeU (s.length+1) (0:Int)).length:Int)))=true by simp;omega,ai,aK,aZ (by omega) (by omega),m1];rfl
def lf(s W:List Int)(i:Nat)(x:aV):Bool:=Gv x.2.1 (s.drop i)&&ae (0<W.getD (i+x.2.1.length) 0)
theorem Cs{W:List Int}{k:Nat}{v:Int}(h:W[k]? =O v):W.getD k 0=v:=by rw[afp,h];rfl
theorem LA{b:bE}{s W:List Int}(c:SZ b s 0 W){i:Nat}{v:Int}(hi:i<s.length)(f:W[i]? =O v)(h0:0<v):∃(j:Nat) (x:aV) (u:Int),bD (lf s W i) b.1 0=O j/\b.1[j]? =O x/\i+x.2.1.length<=s.length/\W[i+x.2.1.length]? =O u/\0<u:=by obtain⟨v',d,_,_,g⟩:=c.val i (by omega) (by omega);rw[f]at d;cases d;obtain⟨x,h,k,u,l,m⟩:=g h0 hi;(have hg:lf s W i x=true:=by unfold lf;rw[k,Cs l,aq m];rfl);obtain⟨j,e⟩:=pq (t:=lf s W i) 0 h hg;obtain⟨y,y1,_,y3⟩:=iI _ _ _ e;rw[afU]at y1;unfold lf at y3;simp only[ak,au]at y3;have a:=Cm y3.1;rw[aft]at a;obtain⟨z,z1,_,_,_⟩:=c.val (i+y.2.1.length) (by omega) (by omega);have:=y3.2;rw[Cs z1]at this;exact⟨j,y,z,e,y1,by omega,z1,this⟩
theorem SB{b:bE}(e:dm b=true){s W:List Int}(hs:s.length<=20)(f:SZ b s 0 W){i:Nat}(hi:i<s.length):
    dh b.1 (s,(i:Int),W,())=O (match bD (lf s W i) b.1 0 with|some j=>(j:Int)|none=> -1):=by
  have hl:=nV e;have k:=f.len;unfold dh;rw[lG (l:=b.1) (lf s W i) ?_ ?_]
  ·cases bD (lf s W i) b.1 0<;>rfl
  ·intro j x hx g
   have m:=tO e x (aF hx);have a:x.2.1.length<=maxLen:=by unfold maxLen;omega
   have c:sub s (i:Int) (s.length:Int)=O (s.drop i):=yQ (ahE hi);simp only[bh,hx,ah,bG g,up (show b.1.length<=maxLen by unfold maxLen;omega) g,ai,mU,c,I8 a,Mw a];unfold lf
   cases n:Gv x.2.1 (s.drop i)with
   |false=>rfl
   |true=>
    have d:=Cm n;rw[aft]at d;obtain⟨u,h,_,_,_⟩:=f.val (i+x.2.1.length) (by omega) (by omega);rw[Cs h];have o:aW ((i:Int)+(x.2.1.length:Int))=((i+x.2.1.length:Nat):Int):=by rw[aZ (by omega) (by omega)];omega
    rw[o];simp only[ai,bh,h,ah,ag6];cases ae (0<u)<;>rfl
  ·simp
noncomputable def Tz(b:bE)(s:List Int)(i:Int):(List Int)×(List Int)×Int×Int->Option (((List Int)×(List Int)×Int×Int)⊕(((List Int)×(List Int)×Int))):=λa=>bif(ae (a.2.2.2<(b.1.length:Int)))then(idx b.1 a.2.2.2).bind λc=>(bif(ae (a.2.2.1<0))then(sub s i (s.length:Int)).bind λf=>(iK c.2.1 f).bind λg=>O g else O false).bind λd=>(bif d then bif ae (0<=(aW (i+(c.2.1.length:Int))))&&ae ((aW (i+(c.2.1.length:Int)))<(a.1.length:Int))then(a.1[(agC (aW (i+(c.2.1.length:Int))))]?).bind λe=>O (ae (0<e))else U else O false).bind λc12=>bif c12 then O (.inl (a.1,a.2.1,a.2.2.2,(aW (a.2.2.2+1))))else O (.inl (a.1,a.2.1,a.2.2.1,(aW (a.2.2.2+1))))else O (.inr (a.1,a.2.1,a.2.2.1))
theorem MN{b:bE}(n:dm b=true){s W acc:List Int}(hs:s.length<=20)(o:SZ b s 0 W){i:Nat}(hi:i<s.length){J:Nat}(c:bD (lf s W i) b.1 0=O J):∀(d k:Nat),k+d=b.1.length->aX (Tz b s (i:Int)) (W,acc,(if k<=J then -1 else(J:Int)),(k:Int))=O (W,acc,(J:Int))
 |0,k,hk=>by have:=iW _ _ _ _ c;rw[aM (by omega)];refine bb ?_;unfold Tz;rw[ar (by show¬((k:Int)<(b.1.length:Int));omega)];rfl
 |d+1,k,hk=>by have hl:=nV n;(have f:k<b.1.length:=by omega);obtain⟨y,m⟩:∃y,b.1[k]? =O y:=⟨_,aJ f⟩;have w:=tO n y (aF m);(have p:y.2.1.length<=maxLen:=by unfold maxLen;omega);have x:=MN (acc:=acc) n hs o hi c d (k+1) (by omega);have g:sub s (i:Int) (s.length:Int)=O (s.drop i):=yQ (ahE hi);(have q:aW ((k:Int)+1)=((k+1:Nat):Int):=by rw[up (show b.1.length<=maxLen by unfold maxLen;omega) f];omega);have A:=o.len;(have j:(k=J->lf s W i y=true)/\(k<J->lf s W i y=false):=by refine⟨λe=> ?_,λh=> ?_⟩;{subst e;obtain⟨z,z1,_,z3⟩:=iI _ _ _ c;rw[afU,m]at z1;cases z1;exact z3};{obtain⟨z,z1,_,z3⟩:=iI _ _ _ c;rw[afU]at z1;have hn:=(oV (lf s W i) b.1 J 0 z z1 z3).1 (by rw[afb];exact c);exact tx hn y (by refine aF (i:=k) ?_;rw[afs h];exact m)});rw[bq (a':=(W,acc,(if k+1<=J then -1 else(J:Int)),((k+1:Nat):Int))) ?_];{exact x};{unfold Tz;simp only[aq (show(k:Int)<(b.1.length:Int) by omega),ai,bh,m,ah,q];by_cases l:k<=J;{rw[aN l];simp only[show ae ((-1:Int)<0)=true from rfl,ai,g,Mw p,ah];(have a:lf s W i y=ae (k=J):=by by_cases e:k=J;{rw[aq e];exact j.1 e};{rw[ar e];exact j.2 (by omega)});unfold lf at a;cases r:Gv y.2.1 (s.drop i)with|false=>rw[r]at a;simp only[Bool.false_and]at a;have:¬k=J:=of_decide_eq_false a.symm;rw[aN (by omega)];rfl|true=>have t:=Cm r;rw[aft]at t;obtain⟨u,v,_,_,_⟩:=o.val (i+y.2.1.length) (by omega) (by omega);rw[r,Cs v,ag6]at a;(have B:aW ((i:Int)+(y.2.1.length:Int))=((i+y.2.1.length:Nat):Int):=by rw[aZ (by omega) (by omega)];omega);(have g3:(ae ((0:Int)<=((i+y.2.1.length:Nat):Int))&&ae (((i+y.2.1.length:Nat):Int)<(W.length:Int)))=true:=by simp;omega);simp only[ai,B,g3,aK,v,ah,a];by_cases e:k=J;{rw[aq e,aM (by omega),e];rfl};{rw[ar e,aN (by omega)];rfl}};{rw[aM l,aM (by omega)];simp only[show ae ((J:Int)<0)=false from ar (by omega),aj,ah]}}
noncomputable def RX(b:bE)(s W:List Int):(List Int)×Int->Option (((List Int)×Int)⊕List Int):=λa=>bif(ae (a.2<(s.length:Int)))then(dh b.1 (s,a.2,W,())).bind λc=>bif ae (aeP a.1+aeP [c]<=lim)then(idx b.1 c).bind λd=>O (.inl ((a.1++[c]),(aW (a.2+(d.2.1.length:Int)))))else U else O (.inr a.1)
noncomputable def Ti(b:bE)(s:List Int):(List Int)×(List Int)×Int->Option (((List Int)×(List Int)×Int)⊕List Int):=λa=>bif(ae (a.2.2<(s.length:Int)))then(aX (Tz b s a.2.2) (a.1,a.2.1,(-1),0)).bind λc=>bif ae (aeP c.2.1+aeP [c.2.2]<=lim)then(idx b.1 c.2.2).bind λd=>O (.inl (c.1,(c.2.1++[c.2.2]),(aW (a.2.2+(d.2.1.length:Int)))))else U else O (.inr a.2.1)
theorem KX(b:bE)(s:List Int):yo b s=(pM b s).bind λr1=>
 bif ae (0<=0)&&ae (0<(r1.length:Int))then
 (r1[(agC 0)]?).bind λc=>
 bif(ae (c=0))then
 O ([],false)
 else
 (aX (Ti b s) (r1,[],0)).bind λa=>
 O (a,true)
 else
 U:=rfl
theorem Nd(b:bE)(s:List Int):qE b s=(pN b s).bind λr1=>
 bif ae (0<=0)&&ae (0<(r1.length:Int))then
 (r1[(agC 0)]?).bind λa=>
 bif(ae (a=0))then
 O ([],false)
 else
 (aX (RX b s r1) ([],0)).bind λc=>
 O (c,true)
 else
 U:=rfl
theorem xF{b:bE}(c:dm b=true){s W:List Int}(hs:s.length<=20)(e:SZ b s 0 W):∀(d i:Nat) (v:Int) (acc:List Int),s.length<=i+d->i<=s.length->W[i]? =O v->0<v->acc.length<=i->∃L,aX (RX b s W) (acc,(i:Int))=O (acc++L)/\aX (Ti b s) (W,acc,(i:Int))=O (acc++L)/\(∀j∈L,0<=j/\j<(b.1.length:Int))/\L.length+i<=s.length
 |0,i,v,acc,o,hi,k,h0,ha=>by have dn:ae ((i:Int)<(s.length:Int))=false:=ar (by omega);refine⟨[],bb ?_,bb ?_,λ_ h=>(nomatch h),by simp;omega⟩;{unfold RX;rw[dn,aew];rfl};{unfold Ti;rw[dn,aew];rfl}
 |d+1,i,v,acc,o,hi,k,h0,ha=>by by_cases a:i<s.length;{obtain⟨j,x,u,m,g,p,q,r⟩:=LA e a k h0;have t:=tO c x (aF g);have w:=(aeK.1 g).1;obtain⟨L,k1,k2,k3,y⟩:=xF c hs e d (i+x.2.1.length) u (acc++[(j:Int)]) (by omega) p q r (by simp;omega);have dn:ae ((i:Int)<(s.length:Int))=true:=aq (by omega);(have n:aW ((i:Int)+(x.2.1.length:Int))=((i+x.2.1.length:Nat):Int):=by rw[aZ (by omega) (by omega)];omega);refine⟨(j:Int)::L,?_,?_,λz l=> ?_,by simp;omega⟩;{rw[bq (a':=(acc++[(j:Int)],((i+x.2.1.length:Nat):Int))) ?_,k1];{simp};{unfold RX;simp only[dn,ai,SB c hs e a,m,ah,bh,g,n];rw[bW (by simp;omega)];rfl}};{rw[bq (a':=(W,acc++[(j:Int)],((i+x.2.1.length:Nat):Int))) ?_,k2];{simp};{have f:=MN (acc:=acc) c hs e a m b.1.length 0 (by omega);rw[aN (afc _),show((0:Nat):Int)=0 from rfl]at f;unfold Ti;simp only[dn,ai,f,ah,bh,g,n];rw[bW (by simp;omega)];rfl}};{rcases aeT.1 l with rfl|l;{omega};{exact k3 z l}}};{exact xF c hs e 0 i v acc (by omega) hi k h0 ha}
theorem Mo{b:bE}(a:dm b=true):∀x∈b.1,x.1.length<=12:=λx hx=>by
  have:=vE a hx;simp only[mr,ak,au]at this;omega
theorem Vh{ps:List aV}{k:Nat}{x:aV}(h:ps[k]? =O x):O5 ps (k:Int)=x.1:=by unfold O5;rw[aK,h];rfl
theorem wV{b:bE}(a:dm b=true):∀L:List Int,(mG b.1 L).length<=12*L.length
 |[]=>aB _
 |j::L=>by have c:=wV a L;(have:(O5 b.1 j).length<=12:=by unfold O5;cases h:b.1[j.toNat]? with|none=>simp|some x=>exact Mo a x (aF h));show(ahS (O5 b.1) (j::L)).length<=_;rw[ahT,aG,aeQ];have e:(ahS (O5 b.1) L).length=(mG b.1 L).length:=rfl;omega
theorem TZ{b:bE}(d:dm b=true){L:List Int}(n:L.length<=1000)(c:∀j∈L,0<=j/\j<(b.1.length:Int)):yA b L=O (mG b.1 L):=by unfold yA;(have main:∀(r pre:List Int),L=pre++r->aX (λ(st2:Bytes×Int)=>(bif(ae (st2.2<(L.length:Int)))then(idx L st2.2).bind λh=>(idx b.1 h).bind λf=>bif ae (aeP st2.1+aeP f.1<=lim)then O (.inl ((st2.1++f.1),(aW (st2.2+1))))else U else O (.inr st2.1):Option ((Bytes×Int)⊕(Bytes)))) (mG b.1 pre,(pre.length:Int))=O (mG b.1 L):=by intro r;induction r with|nil=>intro pre e;rw[aew]at e;subst e;exact bb (by simp)|cons j r i=>intro pre e;(have hp:pre.length<L.length:=by rw[e];simp);(have g:L[pre.length]? =O j:=by rw[e];simp);have l:=c j (aF g);obtain⟨k,rfl⟩:∃k:Nat,j=(k:Int):=⟨j.toNat,by omega⟩;obtain⟨x,hx⟩:∃x,b.1[k]? =O x:=⟨_,aJ (show k<b.1.length by omega)⟩;have hl:=wV d pre;have m:=Mo d x (aF hx);have a:=i (pre++[(k:Int)]) (by rw[e];simp);(have ev:mG b.1 (pre++[(k:Int)])=mG b.1 pre++x.1:=by show ahS (O5 b.1) (pre++[(k:Int)])=_;rw[List.flatMap_append];simp only[ahT,List.flatMap_nil,aew,Vh hx];rfl);rw[ev,show((pre++[(k:Int)]).length:Int)=(pre.length:Int)+1 by simp]at a;rw[bq (a':=(mG b.1 pre++x.1,(pre.length:Int)+1)) ?_];{exact a};{simp only[bG hp,ai,bh,g,ah,hx,up (show L.length<=maxLen by unfold maxLen;omega) hp];rw[bW (by omega)];rfl});exact bind_eq (main L [] rfl) rfl
theorem SH{b:bE}(c:dm b=true){L:List Int}(d:L.length<=1000)(a:∀j∈L,0<=j/\j<(b.1.length:Int)):Dd b L=O (mG b.1 L):=by have h1:=wV c L;have e:=nV c;unfold Dd;rw[aN ⟨by omega,by omega,a,by omega⟩]
theorem HL{b:bE}(hf:np b)(a:dm b=true){s:List Int}(hs:s.length<=20):∃r,kF b s=O r/\gW b s=O r/\r.1.length<=1000:=by(have c:s.length<=maxLen:=by unfold maxLen;omega);have d60:ae ((s.length:Int)<=60)=true:=aq (by omega);unfold kF gW vY A1;simp only[ou hf,xS hf,a,ah,afl,aj,ai,d60,BN c,Rj c,GL];cases (s.all λx=>bZ x 1 60)with|false=>exact⟨([],false),rfl,rfl,by simp⟩|true=>obtain⟨W,e,d⟩:=TP a hs;obtain⟨v,v1,v2,_,_⟩:=d.val 0 (by omega) (by omega);have f:=d.len;(have g:(ae ((0:Nat)<=0)&&ae ((0:Int)<(W.length:Int)))=true:=by simp;omega);simp only[e,ah,afl,aj,g,ai,show agC 0=0 from rfl,v1];by_cases h1:v=1;{obtain⟨L,k1,k2,k3,h⟩:=xF a hs d s.length 0 v [] (by omega) (by omega) v1 (by omega) (by simp);rw[show((0:Nat):Int)=0 from rfl]at k1 k2;rw[aq h1,KX,Nd,GL,e];simp only[afl,aj,ah,g,ai,show agC 0=0 from rfl,v1,ar (show¬v=0 by omega),k1,k2];rw[afJ,TZ a (by omega) k3,SH a (by omega) k3];have:=wV a L;exact⟨_,rfl,rfl,by show(mG b.1 L).length<=1000;omega⟩};{rw[ar h1];exact⟨([],false),rfl,rfl,by simp⟩}
end Sh.Q
namespace Go.Ab
open Go
def glue(ls:List Bytes):Bytes:=ls.flatMap λx=>x++[10]
theorem iA(l:Bytes)(ls:List Bytes):glue (l::ls)=l++10::glue ls:=by simp[glue]
theorem zF(a b:List Bytes):glue (a++b)=glue a++glue b:=by simp[glue]
theorem Rz(l r:Bytes)(h:(10:UInt8)∉l):cut 10 (l++10::r)=l::cut 10 r:=by induction l with|nil=>simp[cut]|cons x l a=>have hx:¬x=10:=λe=>h (by rw[e];simp);have a:=a λk=>h (aL _ k);rw[agc];(conv=>lhs;unfold cut);rw[ar hx,a];rfl
theorem Ad:∀ls:List Bytes,(∀l∈ls,(10:UInt8)∉l)->cut 10 (glue ls)=ls++[[]]
 |[],_=>rfl
 |l::ls,h=>by rw[iA,Rz l _ (h l (by simp)),Ad ls λk hk=>h k (aL _ hk)];rfl
theorem FX:∀s:Bytes,∃front last,cut 10 s=front++[last]/\s=glue front++last
 |[]=>⟨[],[],rfl,rfl⟩
 |x::r=>by obtain⟨front,last,h1,a⟩:=FX r;by_cases hx:x=10;{subst hx;refine⟨[]::front,last,?_,?_⟩;{unfold cut;rw[aq rfl,h1];rfl};{rw[iA,afJ,agc,<-a]}};{cases front with|nil=>refine⟨[],x::last,?_,?_⟩;{unfold cut;rw[ar hx,h1];rfl};{rw[a];rfl}|cons y ys=>refine⟨(x::y)::ys,last,?_,?_⟩;{unfold cut;rw[ar hx,h1];rfl};{rw[a,iA,iA];rfl}}
theorem Je:∀(s:Bytes),∀l∈cut 10 s,(10:UInt8)∉l
 |[],l,h=>by simp[cut]at h;rw[h];simp
 |x::r,l,h=>by have b:=Je r;unfold cut at h;by_cases hx:x=10;{rw[aq hx]at h;simp only[ai,aeT]at h;rcases h with h|h;{rw[h];simp};{exact b l h}};{rw[ar hx]at h;simp only[aj]at h;have a:¬(10:UInt8)=x:=λe=>hx e.symm;split at h;{simp only[afI]at h;rw[h];simp[a]};{rename_i y ys e;rw[e]at b;simp only[aeT]at h;rcases h with h|h;{have:=b y (by simp);rw[h,aeT];rintro(k|k);{exact a k};{exact this k}};{exact b l (aL _ h)}}}
theorem N3{s:Bytes}(h:s=[]\/s.getLast? =O 10):glue (cut 10 s).dropLast=s:=by obtain⟨front,last,h1,a⟩:=FX s;(have hl:last=[]:=by rcases h with rfl|h;{have:=congrArg aeP a;simp at this;exact aH (by omega)};{(obtain⟨t,rfl⟩:∃t,s=t++[10]:=by rcases ahR s with rfl|⟨t,x,e⟩;{cases h};{have e:s=t++[x]:=e.trans (by simp);rw[e]at h;simp at h;exact⟨t,by rw[e,h]⟩});rw[DU]at h1;exact((List.append_inj' h1 rfl).2|>List.cons.inj).1.symm});rw[h1,List.dropLast_concat];rw[hl,aew]at a;exact a.symm
theorem NG{ls:List Bytes}(h:ls≠[]):(glue ls).getLast? =O 10:=by(obtain⟨t,x,rfl⟩:∃t x,ls=t++[x]:=by rcases ahR ls with rfl|⟨t,x,e⟩;{exact absurd rfl h};{exact⟨t,x,e.trans (by simp)⟩});rw[zF,iA];simp[glue]
section
variable {S:Type} (f:S->Bytes->S×Bytes) (bad:Bytes->Bool)
def qH:S->List Bytes->S×List Bytes
 |s,[]=>(s,[])
 |s,t::r=>((qH (f s t).1 r).1,(f s t).2::(qH (f s t).1 r).2)
theorem MU:∀(ls:List Bytes) (s:S),(qH f s ls).2.length=ls.length
 |[],_=>rfl
 |t::r,s=>by simp only[qH,aeQ,MU r]
theorem HQ:∀(a b:List Bytes) (s:S),qH f s (a++b)=((qH f (qH f s a).1 b).1,(qH f s a).2++(qH f (qH f s a).1 b).2)
 |[],b,s=>rfl
 |t::r,b,s=>by simp only[agc,qH,HQ r b]
theorem O3(a:List Bytes)(t:Bytes)(s:S):qH f s (a++[t])=((f (qH f s a).1 t).1,(qH f s a).2++[(f (qH f s a).1 t).2]):=by rw[HQ];rfl
def xk:List Bytes->List Bytes->List Bytes
 |t::ls,r::rs=>bif bad r then xk ls rs else t::xk ls rs
 |_,_=>[]
def eU:Nat->List Bytes->List Int
 |_,[]=>[]
 |k,r::rs=>bif bad r then(k:Int)::eU (k+1) rs else eU (k+1) rs
theorem ui:∀(rs:List Bytes) (k:Nat) (x:Int),x∈eU bad k rs↔∃i r,rs[i]? =O r/\bad r=true/\x=((k+i:Nat):Int)
 |[],k,x=>by simp[eU]
 |r::rs,k,x=>by have c:=ui rs (k+1) x;(have key:x∈eU bad k (r::rs)↔(bad r=true/\x=(k:Int))\/x∈eU bad (k+1) rs:=by simp only[eU];cases bad r<;>simp);rw[key,c];constructor;{rintro(⟨h1,a⟩|⟨i,y,h1,a,b⟩);{exact⟨0,r,rfl,h1,by simpa using a⟩};{exact⟨i+1,y,by simpa using h1,a,by omega⟩}};{rintro⟨i,y,h1,a,b⟩;cases i with|zero=>left;simp at h1;rw[h1];exact⟨a,by simpa using b⟩|succ i=>right;exact⟨i,y,by simpa using h1,a,by omega⟩}
theorem BG:∀(rs:List Bytes) (k:Nat),(eU bad k rs).Pairwise (· < ·)
 |[],k=>List.Pairwise.nil
 |r::rs,k=>by have a:=BG rs (k+1);simp only[eU];cases bad r with|false=>exact a|true=>refine List.Pairwise.cons (λx hx=> ?_) a;obtain⟨i,y,_,_,h⟩:=(ui bad rs (k+1) x).1 hx;omega
theorem iX:∀(rs:List Bytes) (k:Nat),(eU bad k rs).length=rs.countP bad
 |[],k=>rfl
 |r::rs,k=>by have a:=iX rs (k+1);simp only[eU,ahN];cases bad r with|false=>simpa using a|true=>simp[a]
theorem rr:∀(rs:List Bytes) (k:Nat) (r:Bytes),eU bad k (rs++[r])=eU bad k rs++(bif bad r then [((k+rs.length:Nat):Int)]else [])
 |[],k,r=>by simp only[afJ,eU];cases bad r<;>rfl
 |x::rs,k,r=>by have a:=rr rs (k+1) r;simp only[agc,eU,a,aeQ];rw[show k+1+rs.length=k+(rs.length+1) by omega];cases bad x<;>rfl
end
def Dq(has:Nat->Bool)(q:Bytes×Nat)(b:UInt8):Bytes×Nat:=((bif has q.2 then q.1 else q.1++[b]),(bif ae (b=10)then q.2+1 else q.2))
theorem Jc(has:Nat->Bool)(k:Nat):∀(l acc:Bytes),(10:UInt8)∉l->l.foldl (Dq has) (acc,k)=((bif has k then acc else acc++l),k)
 |[],acc,_=>by cases has k<;>simp
 |x::l,acc,h=>by have hx:¬x=10:=λe=>h (by rw[e];simp);rw[aeG];(have e:Dq has (acc,k) x=((bif has k then acc else acc++[x]),k):=by unfold Dq;rw[ar hx];rfl);rw[e,Jc has k l _ λk=>h (aL _ k)];cases has k<;>simp
def EK(has:Nat->Bool):Nat->List Bytes->List Bytes
 |_,[]=>[]
 |k,l::ls=>bif has k then EK has (k+1) ls else l::EK has (k+1) ls
theorem JR(has:Nat->Bool):∀(ls:List Bytes) (k:Nat) (acc:Bytes),(∀l∈ls,(10:UInt8)∉l)->(glue ls).foldl (Dq has) (acc,k)=(acc++glue (EK has k ls),k+ls.length)
 |[],k,acc,_=>by simp[glue,EK]
 |l::ls,k,acc,h=>by rw[iA,ahU,Jc has k l acc (h l (by simp)),aeG];(have e:Dq has ((bif has k then acc else acc++l),k) 10=((bif has k then acc else acc++l++[10]),k+1):=by unfold Dq;cases has k<;>rfl);rw[e,JR has ls (k+1) _ λl hl=>h l (aL _ hl)];simp only[EK,aeQ];rw[show k+1+ls.length=k+(ls.length+1) by omega];cases has k with|true=>rfl|false=>simp[iA]
theorem F7(has:Nat->Bool)(bad:Bytes->Bool):∀(ls rs:List Bytes) (k:Nat),ls.length=rs.length->(∀i r,rs[i]? =O r->has (k+i)=bad r)->EK has k ls=xk bad ls rs
 |[],_,_,_,_=>rfl
 |l::ls,[],_,h,_=>by cases h
 |l::ls,r::rs,k,h,a=>by have h0:=a 0 r rfl;rw[Nat.add_zero]at h0;(have b:=F7 has bad ls rs (k+1) (by simpa using h) λi y c=>by have:=a (i+1) y (by simpa using c);rw[show k+(i+1)=k+1+i by omega]at this;exact this);simp only[EK,xk,h0,b]
theorem FL(bad:Bytes->Bool):∀(ls rs:List Bytes),(xk bad ls rs).length<=ls.length/\(glue (xk bad ls rs)).length<=(glue ls).length/\∀l∈xk bad ls rs,l∈ls
 |[],_=>⟨aB _,aB _,λ_ h=>nomatch h⟩
 |l::ls,[]=>⟨afc _,afc _,λ_ h=>nomatch h⟩
 |l::ls,r::rs=>by obtain⟨h1,c,b⟩:=FL bad ls rs;simp only[xk];cases bad r with|true=>simp only[ai];rw[iA];refine⟨by simp;omega,by simp;omega,λy a=>aL _ (b y a)⟩|false=>simp only[aj];rw[iA,iA];refine⟨by simpa using h1,by simp;omega,λy a=> ?_⟩;rcases aeT.1 a with rfl|a;{simp};{exact aL _ (b y a)}
end Go.Ab
namespace Sh
open Go Go.Ab Go.Proofs
def gw(r:Bytes):Bool:=ae (r=([110,111]:Bytes))||ae (r=eE)
abbrev kK(s:bT)(no what:List Int)(a:Int):cB:=(s.1,s.2.1,s.2.2.1,s.2.2.2.1,s.2.2.2.2.1,s.2.2.2.2.2.1,no,what,a,())
def qA(x:Bytes):Bool:=x.all Q.low&&bZ (x.length:Int) 1 40
def BR(w x:Bytes)(r:List Bytes):Option (Bytes×List Int):=bif r.all isNum&&bZ (r.length:Int) ((wants w).getD (-1,-1)).1 ((wants w).getD (-1,-1)).2 then O (x,r.map E8)else U
def oJ(w:Bytes)(rest:List Bytes):Option (Bytes×List Int):=
  bif ae (w=cu)||ae (w=dR)then
    match rest with
    |[]=>U
    |x::r=>bif qA x then BR w x r else U
  else BR w [] rest
theorem RG{t:Bytes}(hl:t.length<4294967290):s9 t 32=O (cut 32 t):=Dp (c:=32) rfl hl
theorem sub_one(w:Bytes)(rest:List Bytes):sub (w::rest) 1 ((w::rest).length:Int)=O rest:=by have:=jL (l:=w::rest) (n:=1) (by simp);simpa using this
theorem I9{w x:Bytes}{r:List Bytes}:∃p:Bytes×List Int×Bool,((cM ((r.map E8).length:Int) ((wants w).getD (-1,-1)).1 ((wants w).getD (-1,-1)).2).bind λa=>O (x,r.map E8,a))=O p/\p.2.2=bZ (r.length:Int) ((wants w).getD (-1,-1)).1 ((wants w).getD (-1,-1)).2/\p.1=x/\p.2.1=r.map E8:=by rw[eL,agE];exact⟨_,rfl,rfl,rfl,rfl⟩
theorem Ts{w:Bytes}{rest:List Bytes}(hl:rest.length<=100000)(hs:∀s∈rest,s.length<=maxLen):∃p,wG (w::rest)=O p/\p.2.2=(oJ w rest).isSome/\∀q,oJ w rest=O q->p.1=q.1/\p.2.1=q.2:=by unfold wG;simp only[show idx (w::rest) 0=O w from rfl,TB,ah,sub_one];(have d:(bif ae (w=cu)then O true else O (ae (w=dR)))=O (ae (w=cu)||ae (w=dR)):=by cases ae (w=cu)<;>rfl);rw[d];unfold oJ;simp only[ah];cases ae (w=cu)||ae (w=dR)with|false=>simp only[aj,Pr hl hs,ah];unfold BR;(cases rest.all isNum with|false=>exact⟨_,rfl,rfl,λq h=>by cases h⟩|true=>obtain⟨p,h1,a,b,c⟩:=I9 (w:=w) (x:=[]) (r:=rest);refine⟨p,h1,?_,λq hq=> ?_⟩;{rw[a];cases bZ (rest.length:Int) ((wants w).getD (-1,-1)).1 ((wants w).getD (-1,-1)).2<;>rfl};{cases hi:bZ (rest.length:Int) ((wants w).getD (-1,-1)).1 ((wants w).getD (-1,-1)).2 with|false=>rw[hi]at hq;cases hq|true=>rw[hi]at hq;cases hq;exact⟨b,c⟩})|true=>simp only[ai];cases rest with|nil=>exact⟨_,rfl,rfl,λq h=>by cases h⟩|cons x r=>have hx:=hs x (by simp);rw[show ae (((x::r).length:Int)=0)=false from ar (by simp;omega)];simp only[aj,show idx (x::r) 0=O x from rfl,ah,NU hx];rw[show(x.all Q.low&&bZ (x.length:Int) 1 40)=qA x from rfl];cases qA x with|false=>exact⟨_,rfl,rfl,λq h=>by cases h⟩|true=>simp only[afl,aj,sub_one,ah,Pr (ws:=r) (by simp at hl;omega) (λs h=>hs s (aL _ h)),ai];unfold BR;cases r.all isNum with|false=>exact⟨_,rfl,rfl,λq h=>by cases h⟩|true=>obtain⟨p,h1,a,b,c⟩:=I9 (w:=w) (x:=x) (r:=r);refine⟨p,h1,?_,λq hq=> ?_⟩;{rw[a];cases bZ (r.length:Int) ((wants w).getD (-1,-1)).1 ((wants w).getD (-1,-1)).2<;>rfl};{cases hi:bZ (r.length:Int) ((wants w).getD (-1,-1)).1 ((wants w).getD (-1,-1)).2 with|false=>rw[hi]at hq;cases hq|true=>rw[hi]at hq;cases hq;exact⟨b,c⟩}
theorem QJ{ws:List Bytes}(hl:ws.length<=100000)(hs:∀s∈ws,s.length<=1048576)(a b c:List aO)(d:List aV)(e f:Int)(g:List Int)(h:List aT)(i:List aO)(v:Value):aX (λ(j:(List aO)×(List aO)×(List aO)×(List aV)×Int×Int×(List Int)×(List aT)×(List aO)×Value×(List Int)×Int)=>(bif(ae (j.2.2.2.2.2.2.2.2.2.2.2<(ws.length:Int)))then(idx ws j.2.2.2.2.2.2.2.2.2.2.2).bind λm=>(BV m).bind λl=>(bif(!l.2)then O true else O (ae (99999<l.1))).bind λn=>bif n then O (.inr (.inr (j.1,j.2.1,j.2.2.1,j.2.2.2.1,j.2.2.2.2.1,j.2.2.2.2.2.1,j.2.2.2.2.2.2.1,j.2.2.2.2.2.2.2.1,j.2.2.2.2.2.2.2.2.1,j.2.2.2.2.2.2.2.2.2.1,eE)))else bif ae (0<=j.2.2.2.2.2.2.2.2.2.2.2)&&ae (j.2.2.2.2.2.2.2.2.2.2.2<(j.2.2.2.2.2.2.2.2.2.2.1.length:Int))then O (.inl (j.1,j.2.1,j.2.2.1,j.2.2.2.1,j.2.2.2.2.1,j.2.2.2.2.2.1,j.2.2.2.2.2.2.1,j.2.2.2.2.2.2.2.1,j.2.2.2.2.2.2.2.2.1,j.2.2.2.2.2.2.2.2.2.1,(j.2.2.2.2.2.2.2.2.2.2.1.set (agC j.2.2.2.2.2.2.2.2.2.2.2) l.1),(aW (j.2.2.2.2.2.2.2.2.2.2.2+1))))else U else O (.inr (.inl (j.1,j.2.1,j.2.2.1,j.2.2.2.1,j.2.2.2.2.1,j.2.2.2.2.2.1,j.2.2.2.2.2.2.1,j.2.2.2.2.2.2.2.1,j.2.2.2.2.2.2.2.2.1,j.2.2.2.2.2.2.2.2.2.1,j.2.2.2.2.2.2.2.2.2.2.1))):Option (((List aO)×(List aO)×(List aO)×(List aV)×Int×Int×(List Int)×(List aT)×(List aO)×Value×(List Int)×Int)⊕(((List aO)×(List aO)×(List aO)×(List aV)×Int×Int×(List Int)×(List aT)×(List aO)×Value×(List Int))⊕((List aO)×(List aO)×(List aO)×(List aV)×Int×Int×(List Int)×(List aT)×(List aO)×Value×Bytes))))) (a,b,c,d,e,f,g,h,i,v,(aeU (agC (ws.length:Int)) (0:Int)),0)=O (bif ws.all isNum then .inl (a,b,c,d,e,f,g,h,i,v,ws.map E8)else .inr (a,b,c,d,e,f,g,h,i,v,eE)):=by(have o:ws.length<=maxLen:=by unfold maxLen;omega);rw[ii (a:=ws) (λ(out:List Int) (k:Int)=>(a,b,c,d,e,f,g,h,i,v,out,k)) (λ(out:List Int) k x=>bif isNum x then(if k<out.length then O (.inl (out.set k (E8 x)))else U)else O (.inr (.inr (a,b,c,d,e,f,g,h,i,v,eE)))) (λout=>.inl (a,b,c,d,e,f,g,h,i,v,out)) (aeU (agC (ws.length:Int)) (0:Int)) rfl ?_ ?_];{have:=Dv isNum E8 (λout=>(Sum.inl (a,b,c,d,e,f,g,h,i,v,out):_⊕((List aO)×(List aO)×(List aO)×(List aV)×Int×Int×(List Int)×(List aT)×(List aO)×Value×Bytes))) (.inr (a,b,c,d,e,f,g,h,i,v,eE)) ws [] (aeU ws.length (0:Int)) (by simp);simpa using this};{intro out k x hk hx;have q:=hs x (aF hx);obtain⟨r1,r2⟩:=Nl x;(have r:BV x=O (iG x):=by unfold BV;rw[aN (by omega)]);(have hc:(bif(!(iG x).2)then O true else O (ae (99999<(iG x).1)))=O (!isNum x):=by have:isNum x=(ae ((iG x).2=true)&&ae ((iG x).1<=99999)):=r1.symm;rw[this,show ae (99999<(iG x).1)=!decide ((iG x).1<=99999) from not_lt 99999 (iG x).1];cases (iG x).2<;>cases ae ((iG x).1<=99999)<;>rfl);simp only[bG hk,ai,bh,hx,ah,r,hc];cases hn:isNum x with|false=>rfl|true=>have t:(iG x).1=E8 x:=r2 hn;simp only[afl,aj,ai,t,up o hk];by_cases p:k<out.length;{rw[aN p,show(ae (0<=(k:Int))&&ae ((k:Int)<(out.length:Int)))=true by simp;omega];rfl};{rw[aM p,show(ae (0<=(k:Int))&&ae ((k:Int)<(out.length:Int)))=false by simp;omega];rfl}};{intro out;simp}
noncomputable def wj(b:(List aO)×(List aO)×(List aO)×(List aV)×Int×Int×(List Int)×(List aT)×(List aO)×Value×(List Int))(c d:Bytes):Option (bp×Bytes):=(bif(ae (c=cu))then O (b.1,b.2.1,b.2.2.1,b.2.2.2.1,b.2.2.2.2.1,b.2.2.2.2.2.1,b.2.2.2.2.2.2.1,b.2.2.2.2.2.2.2.1,b.2.2.2.2.2.2.2.2.1,b.2.2.2.2.2.2.2.2.2.1,b.2.2.2.2.2.2.2.2.2.2,(ae (c=cu)))else bif(ae (c=dR))then O (b.1,b.2.1,b.2.2.1,b.2.2.2.1,b.2.2.2.2.1,b.2.2.2.2.2.1,b.2.2.2.2.2.2.1,b.2.2.2.2.2.2.2.1,b.2.2.2.2.2.2.2.2.1,b.2.2.2.2.2.2.2.2.2.1,b.2.2.2.2.2.2.2.2.2.2,(ae (c=dR)))else bif(ae (c=gY))then O (b.1,b.2.1,b.2.2.1,b.2.2.2.1,b.2.2.2.2.1,b.2.2.2.2.2.1,b.2.2.2.2.2.2.1,b.2.2.2.2.2.2.2.1,b.2.2.2.2.2.2.2.2.1,b.2.2.2.2.2.2.2.2.2.1,b.2.2.2.2.2.2.2.2.2.2,(ae (c=gY)))else O (b.1,b.2.1,b.2.2.1,b.2.2.2.1,b.2.2.2.2.1,b.2.2.2.2.2.1,b.2.2.2.2.2.2.1,b.2.2.2.2.2.2.2.1,b.2.2.2.2.2.2.2.2.1,b.2.2.2.2.2.2.2.2.2.1,b.2.2.2.2.2.2.2.2.2.2,(ae (c=jq)))).bind λa=>bif a.2.2.2.2.2.2.2.2.2.2.2 then(bV ((a.1,a.2.1,()),a.2.2.1,(a.2.2.2.1,()),(a.2.2.2.2.1,a.2.2.2.2.2.1,a.2.2.2.2.2.2.1,()),a.2.2.2.2.2.2.2.1,a.2.2.2.2.2.2.2.2.1,a.2.2.2.2.2.2.2.2.2.1,()) c d a.2.2.2.2.2.2.2.2.2.2.1).bind λe=>bif(!e.2.2)then O (e.1,([110,111]:Bytes))else O (e.1,e.2.1)else bif(ae (c=ft))then bif(ae (c=ft))then(bA ((a.1,a.2.1,()),a.2.2.1,(a.2.2.2.1,()),(a.2.2.2.2.1,a.2.2.2.2.2.1,a.2.2.2.2.2.2.1,()),a.2.2.2.2.2.2.2.1,a.2.2.2.2.2.2.2.2.1,a.2.2.2.2.2.2.2.2.2.1,()) c a.2.2.2.2.2.2.2.2.2.2.1).bind λf=>bif(!f.2.2)then O (f.1,([110,111]:Bytes))else O (f.1,f.2.1)else(bj ((a.1,a.2.1,()),a.2.2.1,(a.2.2.2.1,()),(a.2.2.2.2.1,a.2.2.2.2.2.1,a.2.2.2.2.2.2.1,()),a.2.2.2.2.2.2.2.1,a.2.2.2.2.2.2.2.2.1,a.2.2.2.2.2.2.2.2.2.1,()) c a.2.2.2.2.2.2.2.2.2.2.1).bind λg=>bif(!g.2.2)then O (g.1,([110,111]:Bytes))else O (g.1,g.2.1)else bif(ae (c=eV))then bif(ae (c=eV))then(bA ((a.1,a.2.1,()),a.2.2.1,(a.2.2.2.1,()),(a.2.2.2.2.1,a.2.2.2.2.2.1,a.2.2.2.2.2.2.1,()),a.2.2.2.2.2.2.2.1,a.2.2.2.2.2.2.2.2.1,a.2.2.2.2.2.2.2.2.2.1,()) c a.2.2.2.2.2.2.2.2.2.2.1).bind λh=>bif(!h.2.2)then O (h.1,([110,111]:Bytes))else O (h.1,h.2.1)else(bj ((a.1,a.2.1,()),a.2.2.1,(a.2.2.2.1,()),(a.2.2.2.2.1,a.2.2.2.2.2.1,a.2.2.2.2.2.2.1,()),a.2.2.2.2.2.2.2.1,a.2.2.2.2.2.2.2.2.1,a.2.2.2.2.2.2.2.2.2.1,()) c a.2.2.2.2.2.2.2.2.2.2.1).bind λi=>bif(!i.2.2)then O (i.1,([110,111]:Bytes))else O (i.1,i.2.1)else bif(ae (c=jJ))then bif(ae (c=jJ))then(bA ((a.1,a.2.1,()),a.2.2.1,(a.2.2.2.1,()),(a.2.2.2.2.1,a.2.2.2.2.2.1,a.2.2.2.2.2.2.1,()),a.2.2.2.2.2.2.2.1,a.2.2.2.2.2.2.2.2.1,a.2.2.2.2.2.2.2.2.2.1,()) c a.2.2.2.2.2.2.2.2.2.2.1).bind λj=>bif(!j.2.2)then O (j.1,([110,111]:Bytes))else O (j.1,j.2.1)else(bj ((a.1,a.2.1,()),a.2.2.1,(a.2.2.2.1,()),(a.2.2.2.2.1,a.2.2.2.2.2.1,a.2.2.2.2.2.2.1,()),a.2.2.2.2.2.2.2.1,a.2.2.2.2.2.2.2.2.1,a.2.2.2.2.2.2.2.2.2.1,()) c a.2.2.2.2.2.2.2.2.2.2.1).bind λk=>bif(!k.2.2)then O (k.1,([110,111]:Bytes))else O (k.1,k.2.1)else bif(ae (c=iT))then(bA ((a.1,a.2.1,()),a.2.2.1,(a.2.2.2.1,()),(a.2.2.2.2.1,a.2.2.2.2.2.1,a.2.2.2.2.2.2.1,()),a.2.2.2.2.2.2.2.1,a.2.2.2.2.2.2.2.2.1,a.2.2.2.2.2.2.2.2.2.1,()) c a.2.2.2.2.2.2.2.2.2.2.1).bind λl=>bif(!l.2.2)then O (l.1,([110,111]:Bytes))else O (l.1,l.2.1)else(bj ((a.1,a.2.1,()),a.2.2.1,(a.2.2.2.1,()),(a.2.2.2.2.1,a.2.2.2.2.2.1,a.2.2.2.2.2.2.1,()),a.2.2.2.2.2.2.2.1,a.2.2.2.2.2.2.2.2.1,a.2.2.2.2.2.2.2.2.2.1,()) c a.2.2.2.2.2.2.2.2.2.2.1).bind λm=>bif(!m.2.2)then O (m.1,([110,111]:Bytes))else O (m.1,m.2.1)
set_option maxRecDepth 100000 in
theorem MJ{line w:Bytes}{rest:List Bytes}(hc:cut 32 line=w::rest)(hlen:line.length<4294967281)(hl:rest.length<=3000)(hs:∀s∈rest,s.length<=1048576)(a b c:List aO)(d:List aV)(e f:Int)(g:List Int)(h:List aT)(i:List aO)(v:Value):
    cg ((a,b,()),c,(d,()),(e,f,g,()),h,i,v,()) line=match oJ w rest with
     |none=>O (((a,b,()),c,(d,()),(e,f,g,()),h,i,v,()),eE)
     |some q=>wj (a,b,c,d,e,f,g,h,i,v,q.2) w q.1:=by
  unfold cg;simp only[Em (c:=32) hlen,hc,ah,show idx (w::rest) 0=O w from rfl,sub_one];have l:(bif ae (w=cu)then O true else O (ae (w=dR)))=O (ae (w=cu)||ae (w=dR)):=by cases ae (w=cu)<;>rfl
  rw[l]
  have key:∀(r:List Bytes) (x:Bytes),r.length<=3000->(∀s∈r,s.length<=1048576)->(match BR w x r with
      |none=>O (((a,b,()),c,(d,()),(e,f,g,()),h,i,v,()),eE)
      |some q=>wj (a,b,c,d,e,f,g,h,i,v,q.2) w q.1)=(bif r.all isNum then(bif bZ (r.length:Int) ((wants w).getD (-1,-1)).1 ((wants w).getD (-1,-1)).2 then wj (a,b,c,d,e,f,g,h,i,v,r.map E8) w x else O (((a,b,()),c,(d,()),(e,f,g,()),h,i,v,()),eE))else O (((a,b,()),c,(d,()),(e,f,g,()),h,i,v,()),eE)):=λr x _ _=>by
    unfold BR;cases r.all isNum<;>cases bZ (r.length:Int) ((wants w).getD (-1,-1)).1 ((wants w).getD (-1,-1)).2<;>rfl
  unfold oJ;simp only[ah]
  cases ae (w=cu)||ae (w=dR)with
  |false=>
   simp only[aj,ah];rw[key rest [] hl hs,jN (by omega),ai,QJ (by omega) hs]
   cases rest.all isNum with
   |false=>rfl
   |true=>
    simp only[ai,ah,Hw,Pn,eF,agE];rw[<-Dy w rest.length hl];cases bZ (rest.length:Int) (((wants w).map (·.1)).getD 1073741824) (((wants w).map (·.2)).getD 1073741824)<;>rfl
  |true=>
   simp only[ai]
   cases rest with
   |nil=>rfl
   |cons x r=>
    have hx:=hs x (by simp);rw[show ae (((x::r).length:Int)=0)=false from ar (by simp;omega)];simp only[aj,show idx (x::r) 0=O x from rfl,ah,OM (big hx)];rw[show(x.all Q.low&&bZ (x.length:Int) 1 40)=qA x from rfl]
    cases qA x with
    |false=>rfl
    |true=>
     have k:r.length<=3000:=by simp at hl;omega
     have j:∀s∈r,s.length<=1048576:=λs m=>hs s (aL _ m)
     simp only[afl,aj,sub_one,ah,ai];rw[key r x k j,jN (by omega),ai,QJ (by omega) j]
     cases r.all isNum with
     |false=>rfl
     |true=>
      simp only[ai,ah,Hw,Pn,eF,agE];rw[<-Dy w r.length k];cases bZ (r.length:Int) (((wants w).map (·.1)).getD 1073741824) (((wants w).map (·.2)).getD 1073741824)<;>rfl
noncomputable def vH(a:cB)(r1:List Bytes)(r2:Bytes×List Int×Bool)(b:Bytes):Option (cB×Bytes):=bif(ae (b=cd))then(lA [(a.1.1.length:Int),(a.1.2.1.length:Int)]).bind λn=>O (a,n)else bif(ae (b=dR))then(fJ a.2.2.1 r2.1).bind λj=>(jW j.1 j.2).bind λo=>O (a,o)else bif(ae (b=cu))then(km a r2.1 r2.2.1).bind λk=>O (k.1,k.2)else bif(ae (b=ig))then(gN a r2.2.1).bind λl=>O (l.1,l.2)else bif(ae (b=kx))then(iH a r2.2.1).bind λm=>O (m.1,m.2)else bif(ae (b=oM))then(jh a r2.2.1).bind λc=>O (c.1,c.2)else bif(ae (b=jC))then(gP a r2.2.1).bind λd=>O (d.1,d.2)else bif(ae (b=gY))then(gW a.2.2.1 r2.2.1).bind λe=>(kA e.1 e.2).bind λh=>O (a,h)else bif(ae (b=jq))then(jV a r2.2.1).bind λf=>O (f.1,f.2)else bif ae (0<=0)&&ae (0<(r1.length:Int))then(r1[(agC 0)]?).bind λi=>(nD a i r2.2.1).bind λg=>O (g.1,g.2)else U
theorem Pv{x:cB}{t w:Bytes}{rest:List Bytes}(hc:cut 32 t=w::rest)(hlen:t.length<4294967281)(hl:rest.length<=3000)(hs:∀s∈rest,s.length<=1048576):
    fl x t=match oJ w rest with
     |none=>O (x,eE)
     |some q=>vH x (w::rest) (q.1,q.2,true) w:=by
  unfold fl;obtain⟨p,h1,a,d⟩:=Ts (w:=w) (rest:=rest) (by omega) λs h=>big (hs s h)
  rw[RG (by omega),hc];simp only[ah,h1,a];obtain⟨e,f,g⟩:=p
  cases hq:oJ w rest with
  |none=>rfl
  |some q=>
   obtain⟨b,c⟩:=d q hq;rw[hq]at a;have a:g=true:=a;have b:e=q.1:=b;have c:f=q.2:=c;subst a;subst b;subst c;unfold vH;rw[show(ae ((0:Nat)<=0)&&ae ((0:Int)<((w::rest).length:Int)))=true by simp];rfl
end Sh
namespace Sh
open Go Go.Ab Go.Proofs Go.Lib
set_option maxRecDepth 100000
structure PV (s:bT):Prop where
  Cn:eH s.1=true
  xZ:dy s.1.2.1.length s.2.1=true
  book:Q.dm s.2.2.1=true
  bf:Q.np s.2.2.1
  key:∃k,k<=10/\s.2.2.2.1=kb k
  tk:bB s.2.2.2.2.1=true
  ts:Small s.2.2.2.2.1
  sh:io s.2.2.2.2.2.1=true
def jM(r:bp×Bytes×Bool):Option (bp×Bytes):=bif(!r.2.2)then O (r.1,([110,111]:Bytes))else O (r.1,r.2.1)
def Same(s:bT)(sp:cB->Option (cB×Bytes))(im:bp->Option (bp×Bytes×Bool)):Prop:=∃s' r,(∀no what a,sp (kK s no what a)=O (kK s' no what a,r))/\(∀v,(im (wv s v)).bind jM=O (wv s' v,r))/\PV s'/\(gw r=true->s'=s)/\r.length<=500000
def xj(ok:Bool)(r:Bytes):Bytes:=bif ok then r else [110,111]
theorem DG(r:Bytes)(ok:Bool):kA r ok=O (xj ok r):=by cases ok<;>rfl
theorem Ev(y:bp)(r:Bytes)(ok:Bool):jM (y,r,ok)=O (y,xj ok r):=by cases ok<;>rfl
theorem td{r:Bytes}{ok:Bool}(h:r.length<=500000):(xj ok r).length<=500000:=by cases ok;{show([110,111]:Bytes).length<=500000;simp};{exact h}
theorem QY{n:Nat}(h:n<=1000000):ae (n<=lim)=true:=bW (by omega)
theorem RL{l:List Int}{ok:Bool}(hl:l.length<=20000)(h:∀x∈l,0<=x/\x<=9223372036854775807)(a:ok=true->l≠[]):jW l ok=O (xj ok (cY l)):=by unfold jW;rw[Ie (by omega) h];simp only[ah,DG];cases ok with|false=>rfl|true=>rw[aM (a rfl)]
theorem Ak{l:List Int}(hl:l.length<=20000)(h:∀x∈l,0<=x/\x<=9223372036854775807):(cY l).length<=500000:=by have:=lu l h;omega
section
variable {s:bT} (H:PV s)
include H
theorem Pa:Same s (λx=>(lA [(x.1.1.length:Int),(x.1.2.1.length:Int)]).bind λc=>O (x,c)) (λy=>bj y cd []):=by have d:=ik H.Cn;(have a:∀x∈[(s.1.1.length:Int),(s.1.2.1.length:Int)],0<=x/\x<=9223372036854775807:=λx hx=>by simp only[aeT,ahq,or_false]at hx;omega);refine⟨s,cY [(s.1.1.length:Int),(s.1.2.1.length:Int)],λno what f=> ?_,λv=> ?_,H,λ_=>rfl,Ak (by simp) a⟩;{show(lA [(s.1.1.length:Int),(s.1.2.1.length:Int)]).bind _=_;rw[Ie (by simp) a,aM (by simp)];rfl};{(have e:bj (wv s v) cd []=(cA [(s.1.1.length:Int),(s.1.2.1.length:Int)] ([32]:Bytes)).bind λb=>O (wv s v,b,true):=by unfold bj;simp only[show ae (cd=ig)=false from rfl,show ae (cd=kx)=false from rfl,show ae (cd=oM)=false from rfl,show ae (cd=kT)=false from rfl,show ae (cd=sY)=false from rfl,show ae (cd=jC)=false from rfl,show ae (cd=qj)=false from rfl,decide_true,aj,ai]);show(bj (wv s v) cd []).bind jM=_;rw[e,zI (by simp) a];rfl}
theorem U3{x:Bytes}(h0:0<x.length)(hx:x.length<=40):Same s (λy=>(fJ y.2.2.1 x).bind λa=>(jW a.1 a.2).bind λc=>O (y,c)) (λy=>bV y dR x []):=by obtain⟨r,r1,r2,r3,d,a⟩:=Q.JW H.bf H.book (s:=x) (by omega);(have b:∀z∈r.1,0<=z/\z<=9223372036854775807:=λz e=>by have:=d z e;omega);refine⟨s,xj r.2 (cY r.1),λno what f=> ?_,λv=> ?_,H,λ_=>rfl,td (Ak (by omega) b)⟩;{show(fJ s.2.2.1 x).bind _=_;rw[r2];simp only[ah,RL (by omega) b (λh=>a h h0)]};{show((iY s.2.2.1 x).bind λr2=>(cA r2.1 ([32]:Bytes)).bind λr3=>O (wv s v,r3,r2.2)).bind jM=_;rw[r1];simp only[ah,zI (by omega) b,Ev]}
theorem Pz{x:Bytes}{n:List Int}(hx:x.length<=40)(hn:n.length<=20):Same s (λy=>km y x n) (λy=>bV y cu x n):=by(have h1:(x,n,()).1.length<=maxLen:=by show x.length<=maxLen;unfold maxLen;omega);(have b:(x,n,()).2.1.length<=1048576:=by show n.length<=1048576;omega);have d:=Q.WX H.book H.bf h1 b;have e:=Q.WZ H.book H.bf h1 b;cases c:Q.dm (Q.ya s.2.2.1 (x,n,()))with|false=>(have a:Q.E9 s.2.2.1 (x,n,())=(([],()),false):=by unfold Q.E9;rw[c];rfl);refine⟨s,[110,111],λno what f=> ?_,λv=> ?_,H,λ_=>rfl,by simp⟩;{show((lF s.2.2.1 (x,n,())).bind _)=_;rw[d,a];rfl};{show(((lI s.2.2.1 (x,n,())).bind _:Option (bp×Bytes×Bool))).bind jM=_;rw[e,a];rfl}|true=>(have a:Q.E9 s.2.2.1 (x,n,())=(Q.ya s.2.2.1 (x,n,()),true):=by unfold Q.E9;rw[c];rfl);refine⟨(s.1,s.2.1,Q.ya s.2.2.1 (x,n,()),s.2.2.2),[111,107],λno what f=> ?_,λv=> ?_,⟨H.Cn,H.xZ,c,Q.AK H.book H.bf h1 (big b),H.key,H.tk,H.ts,H.sh⟩,(λh=>by cases h),by simp⟩;{show((lF s.2.2.1 (x,n,())).bind _)=_;rw[d,a];rfl};{show(((lI s.2.2.1 (x,n,())).bind _:Option (bp×Bytes×Bool))).bind jM=_;rw[e,a];rfl}
theorem UI{n:List Int}(hn:n.length<=20):Same s (λy=>(gW y.2.2.1 n).bind λa=>(kA a.1 a.2).bind λb=>O (y,b)) (λy=>bV y gY [] n):=by obtain⟨r,r1,r2,r3⟩:=Q.HL H.bf H.book hn;refine⟨s,xj r.2 r.1,λno what d=> ?_,λv=> ?_,H,λ_=>rfl,td (by omega)⟩;{show(gW s.2.2.1 n).bind _=_;rw[r2];simp only[ah,DG]};{show((kF s.2.2.1 n).bind λc=>O (wv s v,c.1,c.2)).bind jM=_;rw[r1];simp only[ah,Ev]}
omit H in
theorem NM{k:Nat}{ns:List Int}:gw (uH k ns)=false:=by(have hm:(58:UInt8)∈uH k ns:=by unfold uH;simp);unfold gw;rw[aeq];constructor;{refine ar λe=> ?_;rw[e]at hm;simp at hm};{refine ar λe=> ?_;rw[e]at hm;unfold eE at hm;simp at hm}
theorem Vm{n:List Int}(h1:1<=n.length)(hn:n.length<=20):Same s (λy=>jV y n) (λy=>bV y jq [] n):=by obtain⟨k,hk,f⟩:=H.key;have c:=TU hk h1 hn;have d:=UT hk h1 hn;rw[<-f]at c d;(have bad:yJ k n=((0,0,[],()),([],[],()),false)->Same s (λy=>jV y n) (λy=>bV y jq [] n):=λa=>by refine⟨s,[110,111],λno what g=> ?_,λv=> ?_,H,λ_=>rfl,by simp⟩;{show((jk s.2.2.2.1 n).bind _)=_;rw[c,a];rfl};{show(((je s.2.2.2.1 n).bind _:Option (bp×Bytes×Bool))).bind jM=_;rw[d,a];rfl});cases ha:n.all (λx=>bZ x 1 60)with|false=>exact bad (by unfold yJ;rw[ha];rfl)|true=>by_cases b:k=10;{exact bad (by unfold yJ;rw[ha,aN b];rfl)};{(have a:yJ k n=(kb (k+1),([(k:Int)],vk (jD (kb k) (k:Int)) n,()),true):=by unfold yJ;rw[ha,aM b];rfl);(have e:∀x∈vk (jD (kb k) (k:Int)) n,1<=x/\x<=60:=λx hx=>by unfold vk at hx;obtain⟨i,_,rfl⟩:=agn.1 hx;unfold Fg;have h1:=Int.emod_nonneg (n.getD i 1-1+(jD (kb k) (k:Int)).getD i 0) (show(60:Int)≠0 by omega);have j:=Int.emod_lt_of_pos (n.getD i 1-1+(jD (kb k) (k:Int)).getD i 0) (show(0:Int)<60 by omega);omega);(have hl:(vk (jD (kb k) (k:Int)) n).length=n.length:=by simp[vk]);have t1:=Pl (k:=k) (by omega) (ns:=vk (jD (kb k) (k:Int)) n) (by omega) e;have t2:=P9 (k:=k) (by omega) (ns:=vk (jD (kb k) (k:Int)) n) (by omega) (by omega) e;refine⟨(s.1,s.2.1,s.2.2.1,kb (k+1),s.2.2.2.2),uH k (vk (jD (kb k) (k:Int)) n),λno what g=> ?_,λv=> ?_,⟨H.Cn,H.xZ,H.book,H.bf,⟨k+1,by omega,rfl⟩,H.tk,H.ts,H.sh⟩,(λh=>by rw[NM]at h;cases h),?_⟩;{show((jk s.2.2.2.1 n).bind _)=_;rw[c,a];simp only[ah,afl,aj,t1]};{show(((je s.2.2.2.1 n).bind _:Option (bp×Bytes×Bool))).bind jM=_;rw[d,a];simp only[ah,afl,aj,t2];rfl};{have l:=lu (vk (jD (kb k) (k:Int)) n) (λx hx=>by have:=e x hx;omega);have m:=itoa_length_le (k:Int) (by omega) (by omega);unfold uH;simp only[aG,aeQ,aeR];omega}}
theorem Xj:wu s.1=O s.1:=by have a:=ik H.Cn;unfold wu;rw[QY (by omega),QY (by omega)];rfl
theorem Sp(p q z:Int):Same s (λy=>gN y [p,q,z]) (λy=>bj y ig [p,q,z]):=by have g:=ik H.Cn;have hf:=OI H.Cn (p,q,z,());have e:=Af hf;have f:=wy hf;have a:ae (aeP s.1.1+aeP [(p,q,z,())]<=lim)=true:=QY (by simp;omega);(have c:∀no what b,gN (kK s no what b) [p,q,z]=bif eH (EU s.1 (p,q,z,()))then O (kK (EU s.1 (p,q,z,()),s.2) no what b,([111,107]:Bytes))else O (kK s no what b,([110,111]:Bytes)):=λno what b=>by unfold gN;rw[show(kK s no what b).1=s.1 from rfl,Xj H];simp only[ah,show idx [p,q,z] 0=O p from rfl,show idx [p,q,z] 1=O q from rfl,show idx [p,q,z] 2=O z from rfl,a,ai];rw[show((s.1.1++[(p,q,z,())],s.1.2):b9)=EU s.1 (p,q,z,()) from rfl,e];simp only[ah];cases eH (EU s.1 (p,q,z,()))<;>rfl);(have a2:∀v,(bj (wv s v) ig [p,q,z]).bind jM=bif eH (EU s.1 (p,q,z,()))then O (wv (EU s.1 (p,q,z,()),s.2) v,([111,107]:Bytes))else O (wv s v,([110,111]:Bytes)):=λv=>by show(((mS s.1).bind _:Option (bp×Bytes×Bool))).bind jM=_;rw[Jh (jo H.Cn)];simp only[ah,show idx [p,q,z] 0=O p from rfl,show idx [p,q,z] 1=O q from rfl,show idx [p,q,z] 2=O z from rfl,a,ai];rw[show((s.1.1++[(p,q,z,())],s.1.2):b9)=EU s.1 (p,q,z,()) from rfl,f];simp only[ah];cases eH (EU s.1 (p,q,z,()))<;>rfl);cases d:eH (EU s.1 (p,q,z,()))with|false=>rw[d]at c a2;exact⟨s,[110,111],c,a2,H,λ_=>rfl,by simp⟩|true=>rw[d]at c a2;exact⟨(EU s.1 (p,q,z,()),s.2),[111,107],c,a2,⟨d,H.xZ,H.book,H.bf,H.key,H.tk,H.ts,H.sh⟩,(λh=>by cases h),by simp⟩
theorem UN(p q z:Int):Same s (λy=>iH y [p,q,z]) (λy=>bj y kx [p,q,z]):=by have e:=OH H.Cn (p,q,z,());have f:=Oz H.Cn (p,q,z,());(have b:∀no what a,iH (kK s no what a) [p,q,z]=bif !(p5 s.1 (p,q,z,())).2||ae (0<(s.2.1.length:Int))then O (kK s no what a,([110,111]:Bytes))else O (kK ((p5 s.1 (p,q,z,())).1,s.2) no what a,([111,107]:Bytes)):=λno what a=>by unfold iH;simp only[cz,ah,show idx [p,q,z] 0=O p from rfl,show idx [p,q,z] 1=O q from rfl,show idx [p,q,z] 2=O z from rfl];rw[show(kK s no what a).1=s.1 from rfl,e];simp only[ah];cases (p5 s.1 (p,q,z,())).2<;>cases ae (0<(s.2.1.length:Int))<;>rfl);(have a2:∀v,(bj (wv s v) kx [p,q,z]).bind jM=bif !(p5 s.1 (p,q,z,())).2||ae (0<(s.2.1.length:Int))then O (wv s v,([110,111]:Bytes))else O (wv ((p5 s.1 (p,q,z,())).1,s.2) v,([111,107]:Bytes)):=λv=>by show(bN (bN ((sO s.1 (p,q,z,())).bind _) _) _:Option (bp×Bytes×Bool)).bind jM=_;rw[cz,cz,f];simp only[ah];cases (p5 s.1 (p,q,z,())).2<;>cases ae (0<(s.2.1.length:Int))<;>rfl);cases hc:!(p5 s.1 (p,q,z,())).2||ae (0<(s.2.1.length:Int))with|true=>rw[hc]at b a2;exact⟨s,[110,111],b,a2,H,λ_=>rfl,by simp⟩|false=>rw[hc]at b a2;rw[aeq]at hc;have hf:s.2.1=[]:=aH (by have:=of_decide_eq_false hc.2;omega);(have hn:eH (p5 s.1 (p,q,z,())).1=true:=by(have c:(p5 s.1 (p,q,z,())).2=true:=by simpa using hc.1);unfold p5 at c⊢;cases d:eH (Ax s.1 (p,q,z,()))with|false=>rw[d]at c;cases c|true=>exact d);refine⟨((p5 s.1 (p,q,z,())).1,s.2),[111,107],b,a2,⟨hn,?_,H.book,H.bf,H.key,H.tk,H.ts,H.sh⟩,(λh=>by cases h),by simp⟩;show dy _ s.2.1=true;rw[hf];rfl
theorem VM(p q z:Int):Same s (λy=>jh y [p,q,z]) (λy=>bj y oM [p,q,z]):=by have c:=QR H.Cn H.xZ (p,q,z,());have d:=Rs H.Cn H.xZ (p,q,z,());(have b:∀no what a,jh (kK s no what a) [p,q,z]=bif(xJ s.1.2.1.length s.2.1 (p,q,z,())).2 then O (kK (s.1,(xJ s.1.2.1.length s.2.1 (p,q,z,())).1,s.2.2) no what a,([111,107]:Bytes))else O (kK s no what a,([110,111]:Bytes)):=λno what a=>by unfold jh;simp only[ah,show idx [p,q,z] 0=O p from rfl,show idx [p,q,z] 1=O q from rfl,show idx [p,q,z] 2=O z from rfl];rw[show(kK s no what a).1=s.1 from rfl,show(kK s no what a).2.1=s.2.1 from rfl,c];simp only[ah];cases (xJ s.1.2.1.length s.2.1 (p,q,z,())).2<;>rfl);(have a2:∀v,(bj (wv s v) oM [p,q,z]).bind jM=bif(xJ s.1.2.1.length s.2.1 (p,q,z,())).2 then O (wv (s.1,(xJ s.1.2.1.length s.2.1 (p,q,z,())).1,s.2.2) v,([111,107]:Bytes))else O (wv s v,([110,111]:Bytes)):=λv=>by show(((vu s.1 s.2.1 (p,q,z,())).bind _:Option (bp×Bytes×Bool))).bind jM=_;rw[d];simp only[ah];cases (xJ s.1.2.1.length s.2.1 (p,q,z,())).2<;>rfl);cases hc:(xJ s.1.2.1.length s.2.1 (p,q,z,())).2 with|false=>rw[hc]at b a2;exact⟨s,[110,111],b,a2,H,λ_=>rfl,by simp⟩|true=>rw[hc]at b a2;exact⟨(s.1,(xJ s.1.2.1.length s.2.1 (p,q,z,())).1,s.2.2),[111,107],b,a2,⟨H.Cn,TE H.xZ hc,H.book,H.bf,H.key,H.tk,H.ts,H.sh⟩,(λh=>by cases h),by simp⟩
omit H in
theorem TS{l:List aO}(h:l.length<=1048576):iJ l=O l:=yq h
theorem Sa(p q z:Int):Same s (λy=>gP y [p,q,z]) (λy=>bj y jC [p,q,z]):=by have hl:=wN H.sh;(have c:(s.2.2.2.2.2.1++[(p,q,z,())]).length<=1048576:=by simp;omega);have f:=Tq c;have g:=SN c;have a:ae (aeP s.2.2.2.2.2.1+aeP [(p,q,z,())]<=lim)=true:=QY (by simp;omega);have b:ae (aeP s.2.2.2.2.2.1<=lim)=true:=QY (by omega);generalize i:Gl (s.2.2.2.2.2.1++[(p,q,z,())])=S at f g;(have e:∀no what d,gP (kK s no what d) [p,q,z]=bif S.2 then O (kK (s.1,s.2.1,s.2.2.1,s.2.2.2.1,s.2.2.2.2.1,S.1,()) no what d,([111,107]:Bytes))else O (kK s no what d,([110,111]:Bytes)):=λno what d=>by unfold gP;rw[show(kK s no what d).2.2.2.2.2.1=s.2.2.2.2.2.1 from rfl];simp only[ah,show idx [p,q,z] 0=O p from rfl,show idx [p,q,z] 1=O q from rfl,show idx [p,q,z] 2=O z from rfl,a,b,ai,f];cases S.2<;>rfl);(have a2:∀v,(bj (wv s v) jC [p,q,z]).bind jM=bif S.2 then O (wv (s.1,s.2.1,s.2.2.1,s.2.2.2.1,s.2.2.2.2.1,S.1,()) v,([111,107]:Bytes))else O (wv s v,([110,111]:Bytes)):=λv=>by show(((iJ s.2.2.2.2.2.1).bind _:Option (bp×Bytes×Bool))).bind jM=_;rw[TS (by omega)];simp only[ah,show idx [p,q,z] 0=O p from rfl,show idx [p,q,z] 1=O q from rfl,show idx [p,q,z] 2=O z from rfl,a,ai,g];cases S.2<;>rfl);cases hc:S.2 with|false=>rw[hc]at e a2;exact⟨s,[110,111],e,a2,H,λ_=>rfl,by simp⟩|true=>rw[hc]at e a2;refine⟨(s.1,s.2.1,s.2.2.1,s.2.2.2.1,s.2.2.2.2.1,S.1,()),[111,107],e,a2,⟨H.Cn,H.xZ,H.book,H.bf,H.key,H.tk,H.ts,?_⟩,(λh=>by cases h),by simp⟩;show io S.1=true;rw[<-i]at hc⊢;unfold Gl at hc⊢;cases hA:io ((s.2.2.2.2.2.1++[(p,q,z,())]).foldl tL [])with|false=>rw[hA]at hc;cases hc|true=>exact hA
theorem Mb(k p q:Int):Same s (λy=>dN y k p q) (λy=>(cP y.2.2.2.2.1 (k,p,q,())).bind λr3=>bif(!r3.2)then O (y,[],false)else O ((y.1,y.2.1,y.2.2.1,y.2.2.2.1,r3.1,y.2.2.2.2.2),([111,107]:Bytes),true)):=by have c:=Vj H.ts H.tk (k,p,q,());have d:=UG H.ts H.tk (k,p,q,());obtain⟨f1,f2⟩:=OX H.ts H.tk (k,p,q,());generalize stepT s.2.2.2.2.1 (k,p,q,())=S at*;(have b:∀no what a,dN (kK s no what a) k p q=bif S.2 then O (kK (s.1,s.2.1,s.2.2.1,s.2.2.2.1,S.1,s.2.2.2.2.2) no what a,([111,107]:Bytes))else O (kK s no what a,([110,111]:Bytes)):=λno what a=>by unfold dN;rw[show(kK s no what a).2.2.2.2.1=s.2.2.2.2.1 from rfl,c];simp only[ah];cases S.2<;>rfl);(have a2:∀v,((cP (wv s v).2.2.2.2.1 (k,p,q,())).bind λr3=>bif(!r3.2)then O (wv s v,[],false)else O (((wv s v).1,(wv s v).2.1,(wv s v).2.2.1,(wv s v).2.2.2.1,r3.1,(wv s v).2.2.2.2.2),([111,107]:Bytes),true)).bind jM=bif S.2 then O (wv (s.1,s.2.1,s.2.2.1,s.2.2.2.1,S.1,s.2.2.2.2.2) v,([111,107]:Bytes))else O (wv s v,([110,111]:Bytes)):=λv=>by rw[show(wv s v).2.2.2.2.1=s.2.2.2.2.1 from rfl,d];simp only[ah];cases S.2<;>rfl);cases hc:S.2 with|false=>rw[hc]at b a2;exact⟨s,[110,111],b,a2,H,λ_=>rfl,by simp⟩|true=>rw[hc]at b a2;exact⟨(s.1,s.2.1,s.2.2.1,s.2.2.2.1,S.1,s.2.2.2.2.2),[111,107],b,a2,⟨H.Cn,H.xZ,H.book,H.bf,H.key,f2 hc,f1,H.sh⟩,(λh=>by cases h),by simp⟩
omit H in
theorem Same.of_eq{sp:cB->Option (cB×Bytes)}{im a:bp->Option (bp×Bytes×Bool)}(h:Same s sp im)(he:∀v,a (wv s v)=im (wv s v)):Same s sp a:=by obtain⟨s',r,h1,b,c⟩:=h;exact⟨s',r,h1,λv=>by rw[he];exact b v,c⟩
theorem Hf:cD s.2.2.2.2.1=O true:=by rw[ou (ee H.ts),H.tk]
theorem RB(p q:Int):Same s (λy=>dN y 1 p q) (λy=>bA y ft [p,q]):=(Mb H 1 p q).of_eq λv=>by
  show(((kR s.2.2.2.2.1 p q).bind _:Option (bp×Bytes×Bool)))=_;unfold kR;rw[Hf H];simp only[ah,afl,aj];show _=((cP s.2.2.2.2.1 (1,p,q,())).bind _:Option (bp×Bytes×Bool));cases cP s.2.2.2.2.1 (1,p,q,())<;>rfl
theorem NJ(p q:Int):Same s (λy=>dN y 2 p q) (λy=>bA y eV [p,q]):=(Mb H 2 p q).of_eq λv=>by
  show(((nB s.2.2.2.2.1 p q).bind _:Option (bp×Bytes×Bool)))=_;unfold nB;rw[Hf H];simp only[ah,afl,aj];show _=((cP s.2.2.2.2.1 (2,p,q,())).bind _:Option (bp×Bytes×Bool));cases cP s.2.2.2.2.1 (2,p,q,())<;>rfl
theorem UR(p:Int):Same s (λy=>dN y 3 p 0) (λy=>bA y jJ [p]):=(Mb H 3 p 0).of_eq λv=>by
  show(((yR s.2.2.2.2.1 p).bind _:Option (bp×Bytes×Bool)))=_;unfold yR;rw[Hf H];simp only[ah,afl,aj];show _=((cP s.2.2.2.2.1 (3,p,0,())).bind _:Option (bp×Bytes×Bool));cases cP s.2.2.2.2.1 (3,p,0,())<;>rfl
theorem SV(p:Int):Same s (λy=>(jf y.2.2.2.2.1 p).bind λa=>(kA a.1 a.2).bind λb=>O (y,b)) (λy=>bA y iT [p]):=by obtain⟨r,r1,r2,r3⟩:=KE (ee H.ts) p;refine⟨s,xj r.2 r.1,λno what c=> ?_,λv=> ?_,H,λ_=>rfl,td (by omega)⟩;{show(jf s.2.2.2.2.1 p).bind _=_;rw[r1];simp only[ah,DG]};{show((kI s.2.2.2.2.1 p).bind λa=>O (wv s v,a.1,a.2)).bind jM=_;rw[r2];simp only[ah,Ev]}
theorem UW(p:Int):Same s (λy=>(mR y.2.2.2.2.2.1 p).bind λa=>(jW a.1 a.2).bind λb=>O (y,b)) (λy=>bj y qj [p]):=by have hl:=wN H.sh;have d:=UQ (l:=s.2.2.2.2.2.1) (by omega) p;have e:=U7 (l:=s.2.2.2.2.2.1) (by omega) p;(have c:(BA s.2.2.2.2.2.1 p).1.length<=60/\∀x∈(BA s.2.2.2.2.2.1 p).1,0<=x/\x<=9223372036854775807:=by unfold BA;cases io s.2.2.2.2.2.1&&bZ p 0 167 with|false=>exact⟨afc _,λx h=>nomatch h⟩|true=>obtain⟨g1,_⟩:=zn (Ky p s.2.2.2.2.2.1) [] List.Pairwise.nil (by simpa using JX H.sh p);rw[afJ]at g1;refine⟨?_,λx hx=> ?_⟩;{show((Ky p s.2.2.2.2.2.1).foldl gI []).length<=60;rw[g1.length_eq];unfold Ky;rw[agE];exact aC (List.length_filter_le _ _) hl};{have hx:x∈Ky p s.2.2.2.2.2.1:=g1.mem_iff.1 hx;unfold Ky at hx;obtain⟨y,f,rfl⟩:=agn.1 hx;have:=(D9 H.sh).1 y (List.mem_filter.1 f).1;simp only[RO,bZ,ak,au]at this;omega});generalize BA s.2.2.2.2.2.1 p=D at*;have hw:=Ie (l:=D.1) (by omega) c.2;have hi:=zI (l:=D.1) (by omega) c.2;refine⟨s,xj D.2 (if D.1=[]then EG else cY D.1),λno what j=> ?_,λv=> ?_,H,λ_=>rfl,td ?_⟩;{show(mR s.2.2.2.2.2.1 p).bind _=_;rw[d];simp only[ah,jW,hw,DG]};{show(((pP s.2.2.2.2.2.1 p).bind _:Option (bp×Bytes×Bool))).bind jM=_;rw[e];simp only[ah,hi];obtain⟨g,i⟩:=D;cases i with|false=>rfl|true=>cases g with|nil=>rfl|cons x r=>rw[aM (by simp)];simp only[ai,ah];rw[show ae (((x::r).length:Int)=0)=false from ar (by simp;omega)];rfl};{split;{unfold EG;simp};{exact Ak (by omega) c.2}}
theorem Tn(a b t:Int):∃r,kr s.1 s.2.1 a b t=O r/\iL s.1 s.2.1 a b t=O r/\(r.2=true->r.1≠[])/\r.1.length<=20000/\∀x∈r.1,0<=x/\x<=16:=by cases hc:bZ a 0 ((s.1.1.length:Int)-1)&&bZ t 0 10000 with|true=>simp only[bZ,ak,au]at hc;obtain⟨q,rfl⟩:∃q:Nat,a=(q:Int):=⟨a.toNat,by omega⟩;exact B6 H.Cn H.xZ (a:=q) (t:=t) (by omega) ⟨by omega,by omega⟩ b|false=>(have:(bZ a 0 ((s.1.1.length:Int)-1)&& (bZ b 0 ((s.1.1.length:Int)-1)&&bZ t 0 10000))=false:=by cases h1:bZ a 0 ((s.1.1.length:Int)-1)with|false=>rfl|true=>rw[h1,ag6]at hc;rw[hc,ag1];rfl);rw[Gn,GH,Ck H.Cn H.xZ,Ct H.Cn H.xZ,this];exact⟨([],false),rfl,rfl,(λh=>by cases h),by simp,λ_ h=>nomatch h⟩
theorem Oh(a b t:Int):∃r,gA s.1 s.2.1 a b t=O r/\fk s.1 s.2.1 a b t=O r/\0<=r.1/\r.1<=10960:=by cases hc:bZ a 0 ((s.1.1.length:Int)-1)&&bZ t 0 10000 with|true=>simp only[bZ,ak,au]at hc;obtain⟨q,rfl⟩:∃q:Nat,a=(q:Int):=⟨a.toNat,by omega⟩;exact Fi H.Cn H.xZ (a:=q) (t:=t) (by omega) ⟨by omega,by omega⟩ b t rfl|false=>(have:(bZ a 0 ((s.1.1.length:Int)-1)&& (bZ b 0 ((s.1.1.length:Int)-1)&&bZ t 0 10000))=false:=by cases h1:bZ a 0 ((s.1.1.length:Int)-1)with|false=>rfl|true=>rw[h1,ag6]at hc;rw[hc,ag1];rfl);unfold gA fk;rw[Ck H.Cn H.xZ,Ct H.Cn H.xZ,this];exact⟨(0,false),rfl,rfl,by simp,by simp⟩
theorem Xo(p q z:Int):Same s (λy=>(iL y.1 y.2.1 p q z).bind λa=>(jW a.1 a.2).bind λc=>O (y,c)) (λy=>bj y sY [p,q,z]):=by obtain⟨r,r1,r2,r3,f,g⟩:=Tn H p q z;(have d:∀x∈r.1,0<=x/\x<=9223372036854775807:=λx hx=>by have:=g x hx;omega);refine⟨s,xj r.2 (cY r.1),λno what h=> ?_,λv=> ?_,H,λ_=>rfl,td (Ak f d)⟩;{show(iL s.1 s.2.1 p q z).bind _=_;rw[r2];simp only[ah,RL f d r3]};{show((kr s.1 s.2.1 p q z).bind λb=>(cA b.1 ([32]:Bytes)).bind λe=>O (wv s v,e,b.2)).bind jM=_;rw[r1];simp only[ah,zI (by omega) d,Ev]}
theorem SY(p q z:Int):Same s (λy=>(fk y.1 y.2.1 p q z).bind λa=>(dZ a.1).bind λc=>(kA c a.2).bind λd=>O (y,d)) (λy=>bj y kT [p,q,z]):=by obtain⟨r,r1,r2,r3,f⟩:=Oh H p q z;have hl:=vz (n:=r.1) r3 (by omega);refine⟨s,xj r.2 (itoa r.1),λno what g=> ?_,λv=> ?_,H,λ_=>rfl,td (by omega)⟩;{show(fk s.1 s.2.1 p q z).bind _=_;rw[r2];simp only[ah,rG (n:=r.1) r3 (by omega),DG]};{show((gA s.1 s.2.1 p q z).bind λb=>(wl b.1).bind λe=>O (wv s v,e,b.2)).bind jM=_;rw[r1];simp only[ah,wl,Ev]}
end
end Sh
namespace Go.Ab
open Go
theorem Cr(c:UInt8):∀(s:Bytes),∀l∈cut c s,l.length<=s.length
 |[],l,h=>by simp[cut]at h;rw[h];simp
 |x::r,l,h=>by have a:=Cr c r;unfold cut at h;by_cases hx:x=c;{rw[aq hx]at h;simp only[ai,aeT]at h;rcases h with h|h;{rw[h];simp};{have:=a l h;simp;omega}};{rw[ar hx]at h;simp only[aj]at h;split at h;{simp only[afI]at h;rw[h];simp};{rename_i y ys e;rw[e]at a;simp only[aeT]at h;rcases h with h|h;{have:=a y (by simp);rw[h];simp;omega};{have:=a l (aL _ h);simp;omega}}}
end Go.Ab
namespace Sh
open Go Go.Ab Go.Proofs Go.Lib
set_option maxRecDepth 100000
def U5(s:bT)(t:Bytes):Prop:=∃s' r,pV s t=O (s',r)/\(∀no what a,fl (kK s no what a) t=O (kK s' no what a,r))/\PV s'/\(gw r=true->s'=s)/\r.length<=500000
theorem Eg{w x:Bytes}{r:List Bytes}{q:Bytes×List Int}(h:BR w x r=O q):bZ (q.2.length:Int) ((wants w).getD (-1,-1)).1 ((wants w).getD (-1,-1)).2=true/\q.1=x:=by unfold BR at h;cases hc:(r.all isNum&&bZ (r.length:Int) ((wants w).getD (-1,-1)).1 ((wants w).getD (-1,-1)).2)with|false=>rw[hc]at h;cases h|true=>rw[hc]at h;cases h;rw[ak]at hc;refine⟨?_,rfl⟩;show bZ ((r.map E8).length:Int) _ _=true;rw[agE];exact hc.2
theorem Jn{w:Bytes}{rest:List Bytes}{q:Bytes×List Int}(h:oJ w rest=O q):bZ (q.2.length:Int) ((wants w).getD (-1,-1)).1 ((wants w).getD (-1,-1)).2=true/\((ae (w=cu)||ae (w=dR))=false->q.1=[])/\((ae (w=cu)||ae (w=dR))=true->0<q.1.length/\q.1.length<=40):=by unfold oJ at h;cases hc:(ae (w=cu)||ae (w=dR))with|false=>rw[hc]at h;obtain⟨h1,a⟩:=Eg h;exact⟨h1,λ_=>a,λh=>by cases h⟩|true=>rw[hc]at h;cases rest with|nil=>cases h|cons x r=>simp only[ai]at h;cases hx:qA x with|false=>rw[hx]at h;cases h|true=>rw[hx]at h;obtain⟨h1,a⟩:=Eg h;refine⟨h1,(λh=>by cases h),λ_=> ?_⟩;rw[a];simp only[qA,bZ,ak,au]at hx;omega
section
variable {s:bT} {t w:Bytes} {rest:List Bytes} (hc:cut 32 t=w::rest) (hlen:t.length<=2000) (hl:rest.length<=3000) (hs:∀z∈rest,z.length<=1048576)
include hc hlen hl hs
theorem Rf(H:PV s)(hq:oJ w rest=U):U5 s t:=by refine⟨s,eE,?_,λno what a=> ?_,H,λ_=>rfl,by unfold eE;simp⟩;{unfold pV;have:=MJ hc (by omega) hl hs s.1.1 s.1.2.1 s.2.1 s.2.2.1.1 s.2.2.2.1.1 s.2.2.2.1.2.1 s.2.2.2.1.2.2.1 s.2.2.2.2.1 s.2.2.2.2.2.1 (.bool false);rw[hq]at this;exact(congrArg (afW λr:bp×Bytes=>(dr r.1,r.2)) this)};{rw[Pv hc (by omega) hl hs,hq]}
theorem ia{q:Bytes×List Int}(hq:oJ w rest=O q){sp:cB->Option (cB×Bytes)}{im:bp->Option (bp×Bytes×Bool)}(h:Same s sp im)(b:∀no what a,vH (kK s no what a) (w::rest) (q.1,q.2,true) w=sp (kK s no what a))(c:∀v,wj (s.1.1,s.1.2.1,s.2.1,s.2.2.1.1,s.2.2.2.1.1,s.2.2.2.1.2.1,s.2.2.2.1.2.2.1,s.2.2.2.2.1,s.2.2.2.2.2.1,v,q.2) w q.1=(im (wv s v)).bind jM):U5 s t:=by obtain⟨s',r,h1,d,e,f,g⟩:=h;refine⟨s',r,?_,λno what a=> ?_,e,f,g⟩;{unfold pV;have:=MJ hc (by omega) hl hs s.1.1 s.1.2.1 s.2.1 s.2.2.1.1 s.2.2.2.1.1 s.2.2.2.1.2.1 s.2.2.2.1.2.2.1 s.2.2.2.2.1 s.2.2.2.2.2.1 (.bool false);rw[hq]at this;have this:=this.trans ((c (.bool false)).trans (d (.bool false)));exact(congrArg (afW λr:bp×Bytes=>(dr r.1,r.2)) this)};{rw[Pv hc (by omega) hl hs,hq];exact(b no what a).trans (h1 no what a)}
end
theorem jg(a:Option (cB×Bytes)):(a.bind λr=>O (r.1,r.2))=a:=by cases a<;>rfl
theorem xH{x:cB}{w:Bytes}{rest:List Bytes}{r2:Bytes×List Int×Bool}(h1:ae (w=cd)=false)(a:ae (w=dR)=false)(b:ae (w=cu)=false)(c:ae (w=ig)=false)(d:ae (w=kx)=false)(e:ae (w=oM)=false)(f:ae (w=jC)=false)(g:ae (w=gY)=false)(h:ae (w=jq)=false):vH x (w::rest) r2 w=nD x w r2.2.1:=by unfold vH;rw[h1,a,b,c,d,e,f,g,h,show(ae ((0:Nat)<=0)&&ae ((0:Int)<((w::rest).length:Int)))=true by simp];exact jg _
theorem H7{l:List Int}(h:bZ (l.length:Int) 1 1=true):∃p,l=[p]:=by simp only[bZ,ak,au]at h;match l,h with|[p],_=>exact⟨p,rfl⟩|[],h=>simp at h|_::_::_,h=>simp at h;omega
theorem Mt{l:List Int}(h:bZ (l.length:Int) 2 2=true):∃p q,l=[p,q]:=by simp only[bZ,ak,au]at h;match l,h with|[p,q],_=>exact⟨p,q,rfl⟩|[],h=>simp at h|[_],h=>simp at h|_::_::_::_,h=>simp at h;omega
theorem pB{l:List Int}(h:bZ (l.length:Int) 3 3=true):∃p q z,l=[p,q,z]:=by simp only[bZ,ak,au]at h;match l,h with|[p,q,z],_=>exact⟨p,q,z,rfl⟩|[],h=>simp at h|[_],h=>simp at h|[_,_],h=>simp at h|_::_::_::_::_,h=>simp at h;omega
theorem Kc{l:List Int}(h:bZ (l.length:Int) 0 0=true):l=[]:=by simp only[bZ,ak,au]at h;exact aH (by omega)
theorem Nk{s:bT}(H:PV s){t:Bytes}(hlen:t.length<=2000):U5 s t:=by have C:=AR 32 t;have A:=Ho 32 t;have B:=Cr 32 t;cases hc:cut 32 t with|nil=>exact absurd hc C|cons w rest=>rw[hc]at A B;(have hl:rest.length<=3000:=by simp at A;omega);(have hs:∀z∈rest,z.length<=1048576:=λz E=>by have:=B z (aL _ E);omega);cases hq:oJ w rest with|none=>exact Rf hc hlen hl hs H hq|some q=>obtain⟨D,x⟩:=q;obtain⟨f1,f2,f3⟩:=Jn hq;have f1:bZ (x.length:Int) ((wants w).getD (-1,-1)).1 ((wants w).getD (-1,-1)).2=true:=f1;by_cases b:w=cd;{subst b;obtain rfl:=Kc f1;refine ia hc hlen hl hs hq (Pa H) (λno what i=>rfl) (λv=> ?_);unfold wj;simp only[show ae (cd=cu)=false from rfl,show ae (cd=dR)=false from rfl,show ae (cd=gY)=false from rfl,show ae (cd=jq)=false from rfl,show ae (cd=ft)=false from rfl,show ae (cd=eV)=false from rfl,show ae (cd=jJ)=false from rfl,show ae (cd=iT)=false from rfl,aj,ah];generalize cd=y;rfl};by_cases j:w=dR;{subst j;obtain rfl:=Kc f1;obtain⟨g1,g2⟩:=f3 rfl;exact ia hc hlen hl hs hq (U3 H g1 g2) (λno what i=>rfl) (λv=>rfl)};by_cases c:w=cu;{subst c;obtain⟨g1,g2⟩:=f3 rfl;(have hn:x.length<=20:=by have:bZ (x.length:Int) 1 3=true:=f1;simp only[bZ,ak,au]at this;omega);exact ia hc hlen hl hs hq (Pz H g2 hn) (λno what i=>jg _) (λv=>rfl)};by_cases e:w=ig;{subst e;obtain⟨p,q,z,rfl⟩:=pB f1;exact ia hc hlen hl hs hq (Sp H p q z) (λno what i=>jg _) (λv=>rfl)};by_cases k:w=kx;{subst k;obtain⟨p,q,z,rfl⟩:=pB f1;exact ia hc hlen hl hs hq (UN H p q z) (λno what i=>jg _) (λv=>rfl)};by_cases r:w=oM;{subst r;obtain⟨p,q,z,rfl⟩:=pB f1;exact ia hc hlen hl hs hq (VM H p q z) (λno what i=>jg _) (λv=>rfl)};by_cases f:w=jC;{subst f;obtain⟨p,q,z,rfl⟩:=pB f1;exact ia hc hlen hl hs hq (Sa H p q z) (λno what i=>jg _) (λv=>rfl)};by_cases l:w=gY;{subst l;have hx:D=[]:=f2 rfl;subst hx;(have hn:x.length<=20:=by have:bZ (x.length:Int) 1 20=true:=f1;simp only[bZ,ak,au]at this;omega);exact ia hc hlen hl hs hq (UI H hn) (λno what i=>rfl) (λv=>rfl)};by_cases m:w=jq;{subst m;have hx:D=[]:=f2 rfl;subst hx;(have hn:1<=x.length/\x.length<=20:=by have:bZ (x.length:Int) 1 20=true:=f1;simp only[bZ,ak,au]at this;omega);exact ia hc hlen hl hs hq (Vm H hn.1 hn.2) (λno what i=>jg _) (λv=>rfl)};by_cases d:w=ft;{subst d;obtain⟨p,q,rfl⟩:=Mt f1;exact ia hc hlen hl hs hq (RB H p q) (λno what i=>(xH rfl rfl rfl rfl rfl rfl rfl rfl rfl).trans (jg _)) (λv=>rfl)};by_cases a:w=eV;{subst a;obtain⟨p,q,rfl⟩:=Mt f1;exact ia hc hlen hl hs hq (NJ H p q) (λno what i=>(xH rfl rfl rfl rfl rfl rfl rfl rfl rfl).trans (jg _)) (λv=>rfl)};by_cases n:w=jJ;{subst n;obtain⟨p,rfl⟩:=H7 f1;exact ia hc hlen hl hs hq (UR H p) (λno what i=>(xH rfl rfl rfl rfl rfl rfl rfl rfl rfl).trans (jg _)) (λv=>rfl)};by_cases g:w=iT;{subst g;obtain⟨p,rfl⟩:=H7 f1;exact ia hc hlen hl hs hq (SV H p) (λno what i=>(xH rfl rfl rfl rfl rfl rfl rfl rfl rfl).trans rfl) (λv=>rfl)};by_cases o:w=qj;{subst o;obtain⟨p,rfl⟩:=H7 f1;exact ia hc hlen hl hs hq (UW H p) (λno what i=>(xH rfl rfl rfl rfl rfl rfl rfl rfl rfl).trans rfl) (λv=>rfl)};by_cases u:w=sY;{subst u;obtain⟨p,q,z,rfl⟩:=pB f1;exact ia hc hlen hl hs hq (Xo H p q z) (λno what i=>(xH rfl rfl rfl rfl rfl rfl rfl rfl rfl).trans rfl) (λv=>rfl)};by_cases h:w=kT;{subst h;obtain⟨p,q,z,rfl⟩:=pB f1;exact ia hc hlen hl hs hq (SY H p q z) (λno what i=>(xH rfl rfl rfl rfl rfl rfl rfl rfl rfl).trans rfl) (λv=>rfl)};exfalso;(have:wants w=U:=by unfold wants;simp only[aM b,aM j,aM n,aM d,aM e,aM c,aM l,aM m,aM k,aM r,aM h,aM u,aM f,aM o,aM a,aM g]);rw[this]at f1;simp only[Option.getD_none,bZ,ak,au]at f1;omega
end Sh
namespace Sh
open Go Go.Ab Go.Proofs Go.Lib
set_option maxRecDepth 100000
noncomputable def eI(s:bT)(t:Bytes):bT×Bytes:=(pV s t).getD (s,[])
def start:bT:=(([(0,0,20,())],[],()),[],([(([97]:Bytes),[1],())],()),(7,10,[],()),[],[],())
theorem zZ:PV start where
  Cn:=by decide
  xZ:=by decide
  book:=by decide
  bf:=⟨by unfold maxLen;decide,λx hx=>by
    have hx:x∈[(([97]:Bytes),[(1:Int)],())]:=hx;rw[afI]at hx;rw[hx];unfold maxLen
    decide,λx hx=>by
    have hx:x∈[(([97]:Bytes),[(1:Int)],())]:=hx;rw[afI]at hx;rw[hx];unfold maxLen
    decide⟩
  key:=⟨0,by omega,rfl⟩
  tk:=by decide
  ts:=⟨by decide,λx hx=>nomatch hx⟩
  sh:=by decide
structure DV (s:bT) (t:Bytes):Prop where
  im:pV s t=O (eI s t)
  sp:∀no what ln,fl (kK s no what ln) t=O (kK (eI s t).1 no what ln,(eI s t).2)
  ok:PV (eI s t).1
  keep:gw (eI s t).2=true->(eI s t).1=s
  len:(eI s t).2.length<=500000
theorem HY{s:bT}(H:PV s){t:Bytes}(ht:t.length<=2000):DV s t:=by obtain⟨s',r,h1,a,b,c,d⟩:=Nk H ht;(have e:eI s t=(s',r):=by unfold eI;rw[h1];rfl);exact⟨by rw[h1,e],by rw[e];exact a,by rw[e];exact b,by rw[e];exact c,by rw[e];exact d⟩
noncomputable def runK(ls:List Bytes):bT×List Bytes:=qH eI start ls
theorem Aj:∀(ls:List Bytes) (s:bT),PV s->(∀l∈ls,l.length<=2000)->PV (qH eI s ls).1/\(∀r∈(qH eI s ls).2,r.length<=500000)/\(qH eI s (xk gw ls (qH eI s ls).2)).1=(qH eI s ls).1
 |[],s,H,_=>⟨H,(λ_ h=>nomatch h),rfl⟩
 |t::r,s,H,hl=>by have L:=HY H (hl t (by simp));obtain⟨h1,c,a⟩:=Aj r _ L.ok λl h=>hl l (aL _ h);refine⟨h1,λy b=> ?_,?_⟩;{rcases aeT.1 b with rfl|b;{exact L.len};{exact c y b}};{simp only[qH,xk];cases d:gw (eI s t).2 with|true=>have e:=L.keep d;simp only[ai];rw[e]at a⊢;exact a|false=>simp only[aj,qH];exact a}
theorem w6(a:List Bytes)(t:Bytes):runK (a++[t])=((eI (runK a).1 t).1,(runK a).2++[(eI (runK a).1 t).2]):=O3 eI a t start
theorem jS(a:List Bytes):(runK a).2.length=a.length:=MU eI a start
def qz(r:Bytes):Bool:=ae (r=([110,111]:Bytes))
def fK(r:Bytes):Bool:=ae (r=eE)
noncomputable def M9(ls:List Bytes):(List aO)×(List aO)×(List aO)×(List aV)×Int×Int×(List Int)×(List aT)×(List aO)×(List Int)×(List Int)×Int×Bytes×Int->Option (((List aO)×(List aO)×(List aO)×(List aV)×Int×Int×(List Int)×(List aT)×(List aO)×(List Int)×(List Int)×Int×Bytes×Int)⊕(((List aO)×(List aO)×(List aO)×(List aV)×Int×Int×(List Int)×(List aT)×(List aO)×(List Int)×(List Int)×Int×Bytes))):=λa=>bif(ae (a.2.2.2.2.2.2.2.2.2.2.2.2.2<(ls.length:Int)))then(idx ls a.2.2.2.2.2.2.2.2.2.2.2.2.2).bind λc=>(fl ((a.1,a.2.1,()),a.2.2.1,(a.2.2.2.1,()),(a.2.2.2.2.1,a.2.2.2.2.2.1,a.2.2.2.2.2.2.1,()),a.2.2.2.2.2.2.2.1,a.2.2.2.2.2.2.2.2.1,a.2.2.2.2.2.2.2.2.2.1,a.2.2.2.2.2.2.2.2.2.2.1,a.2.2.2.2.2.2.2.2.2.2.2.1,()) c).bind λb=>bif(ae (b.2=([110,111]:Bytes)))then bif ae (aeP b.1.2.2.2.2.2.2.1+aeP [(aW (a.2.2.2.2.2.2.2.2.2.2.2.2.2+1))]<=lim)then bif ae (aeP b.2+aeP ([10]:Bytes)<=lim)then bif ae (aeP a.2.2.2.2.2.2.2.2.2.2.2.2.1+aeP (b.2++([10]:Bytes))<=lim)then O (.inl (b.1.1.1,b.1.1.2.1,b.1.2.1,b.1.2.2.1.1,b.1.2.2.2.1.1,b.1.2.2.2.1.2.1,b.1.2.2.2.1.2.2.1,b.1.2.2.2.2.1,b.1.2.2.2.2.2.1,(b.1.2.2.2.2.2.2.1++[(aW (a.2.2.2.2.2.2.2.2.2.2.2.2.2+1))]),b.1.2.2.2.2.2.2.2.1,b.1.2.2.2.2.2.2.2.2.1,(a.2.2.2.2.2.2.2.2.2.2.2.2.1++(b.2++([10]:Bytes))),(aW (a.2.2.2.2.2.2.2.2.2.2.2.2.2+1))))else U else U else U else bif(ae (b.2=eE))then bif ae (aeP b.1.2.2.2.2.2.2.2.1+aeP [(aW (a.2.2.2.2.2.2.2.2.2.2.2.2.2+1))]<=lim)then bif ae (aeP b.2+aeP ([10]:Bytes)<=lim)then bif ae (aeP a.2.2.2.2.2.2.2.2.2.2.2.2.1+aeP (b.2++([10]:Bytes))<=lim)then O (.inl (b.1.1.1,b.1.1.2.1,b.1.2.1,b.1.2.2.1.1,b.1.2.2.2.1.1,b.1.2.2.2.1.2.1,b.1.2.2.2.1.2.2.1,b.1.2.2.2.2.1,b.1.2.2.2.2.2.1,b.1.2.2.2.2.2.2.1,(b.1.2.2.2.2.2.2.2.1++[(aW (a.2.2.2.2.2.2.2.2.2.2.2.2.2+1))]),b.1.2.2.2.2.2.2.2.2.1,(a.2.2.2.2.2.2.2.2.2.2.2.2.1++(b.2++([10]:Bytes))),(aW (a.2.2.2.2.2.2.2.2.2.2.2.2.2+1))))else U else U else U else bif ae (aeP b.2+aeP ([10]:Bytes)<=lim)then bif ae (aeP a.2.2.2.2.2.2.2.2.2.2.2.2.1+aeP (b.2++([10]:Bytes))<=lim)then O (.inl (b.1.1.1,b.1.1.2.1,b.1.2.1,b.1.2.2.1.1,b.1.2.2.2.1.1,b.1.2.2.2.1.2.1,b.1.2.2.2.1.2.2.1,b.1.2.2.2.2.1,b.1.2.2.2.2.2.1,b.1.2.2.2.2.2.2.1,b.1.2.2.2.2.2.2.2.1,b.1.2.2.2.2.2.2.2.2.1,(a.2.2.2.2.2.2.2.2.2.2.2.2.1++(b.2++([10]:Bytes))),(aW (a.2.2.2.2.2.2.2.2.2.2.2.2.2+1))))else U else U else O (.inr (a.1,a.2.1,a.2.2.1,a.2.2.2.1,a.2.2.2.2.1,a.2.2.2.2.2.1,a.2.2.2.2.2.2.1,a.2.2.2.2.2.2.2.1,a.2.2.2.2.2.2.2.2.1,a.2.2.2.2.2.2.2.2.2.1,a.2.2.2.2.2.2.2.2.2.2.1,a.2.2.2.2.2.2.2.2.2.2.2.1,a.2.2.2.2.2.2.2.2.2.2.2.2.1))
noncomputable def Mm(ls:List Bytes):(List aO)×(List aO)×(List aO)×(List aV)×Int×Int×(List Int)×(List aT)×(List aO)×(List Bytes)×(List aO)×(List aO)×(List aO)×(List aV)×Int×Int×(List Int)×(List aT)×(List aO)×(List Bytes)×(List Bytes)×Int->Option (((List aO)×(List aO)×(List aO)×(List aV)×Int×Int×(List Int)×(List aT)×(List aO)×(List Bytes)×(List aO)×(List aO)×(List aO)×(List aV)×Int×Int×(List Int)×(List aT)×(List aO)×(List Bytes)×(List Bytes)×Int)⊕(((List aO)×(List aO)×(List aO)×(List aV)×Int×Int×(List Int)×(List aT)×(List aO)×(List Bytes)×(List aO)×(List aO)×(List aO)×(List aV)×Int×Int×(List Int)×(List aT)×(List aO)×(List Bytes)))):=λa=>bif(ae (a.2.2.2.2.2.2.2.2.2.2.2.2.2.2.2.2.2.2.2.2.2<(ls.length:Int)))then bif ae (0<=a.2.2.2.2.2.2.2.2.2.2.2.2.2.2.2.2.2.2.2.2.2)&&ae (a.2.2.2.2.2.2.2.2.2.2.2.2.2.2.2.2.2.2.2.2.2<(a.2.2.2.2.2.2.2.2.2.2.2.2.2.2.2.2.2.2.2.2.1.length:Int))then(a.2.2.2.2.2.2.2.2.2.2.2.2.2.2.2.2.2.2.2.2.1[(agC a.2.2.2.2.2.2.2.2.2.2.2.2.2.2.2.2.2.2.2.2.2)]?).bind λd=>bN ((pV ((a.2.2.2.2.2.2.2.2.2.2.1,a.2.2.2.2.2.2.2.2.2.2.2.1,()),a.2.2.2.2.2.2.2.2.2.2.2.2.1,(a.2.2.2.2.2.2.2.2.2.2.2.2.2.1,()),(a.2.2.2.2.2.2.2.2.2.2.2.2.2.2.1,a.2.2.2.2.2.2.2.2.2.2.2.2.2.2.2.1,a.2.2.2.2.2.2.2.2.2.2.2.2.2.2.2.2.1,()),a.2.2.2.2.2.2.2.2.2.2.2.2.2.2.2.2.2.1,a.2.2.2.2.2.2.2.2.2.2.2.2.2.2.2.2.2.2.1,()) d).bind λc=>bif ae (aeP a.2.2.2.2.2.2.2.2.2.2.2.2.2.2.2.2.2.2.2.1+aeP [c.2]<=lim)then O (.inl (a.1,a.2.1,a.2.2.1,a.2.2.2.1,a.2.2.2.2.1,a.2.2.2.2.2.1,a.2.2.2.2.2.2.1,a.2.2.2.2.2.2.2.1,a.2.2.2.2.2.2.2.2.1,a.2.2.2.2.2.2.2.2.2.1,c.1.1.1,c.1.1.2.1,c.1.2.1,c.1.2.2.1.1,c.1.2.2.2.1.1,c.1.2.2.2.1.2.1,c.1.2.2.2.1.2.2.1,c.1.2.2.2.2.1,c.1.2.2.2.2.2.1,(a.2.2.2.2.2.2.2.2.2.2.2.2.2.2.2.2.2.2.2.1++[c.2]),a.2.2.2.2.2.2.2.2.2.2.2.2.2.2.2.2.2.2.2.2.1,(aW (a.2.2.2.2.2.2.2.2.2.2.2.2.2.2.2.2.2.2.2.2.2+1))))else U) ((pV ((a.2.2.2.2.2.2.2.2.2.2.1,a.2.2.2.2.2.2.2.2.2.2.2.1,()),a.2.2.2.2.2.2.2.2.2.2.2.2.1,(a.2.2.2.2.2.2.2.2.2.2.2.2.2.1,()),(a.2.2.2.2.2.2.2.2.2.2.2.2.2.2.1,a.2.2.2.2.2.2.2.2.2.2.2.2.2.2.2.1,a.2.2.2.2.2.2.2.2.2.2.2.2.2.2.2.2.1,()),a.2.2.2.2.2.2.2.2.2.2.2.2.2.2.2.2.2.1,a.2.2.2.2.2.2.2.2.2.2.2.2.2.2.2.2.2.2.1,()) d).bind λb=>bN (bif ae (aeP a.2.2.2.2.2.2.2.2.2.2.2.2.2.2.2.2.2.2.2.1+aeP [b.2]<=lim)then O (.inl (a.1,a.2.1,a.2.2.1,a.2.2.2.1,a.2.2.2.2.1,a.2.2.2.2.2.1,a.2.2.2.2.2.2.1,a.2.2.2.2.2.2.2.1,a.2.2.2.2.2.2.2.2.1,a.2.2.2.2.2.2.2.2.2.1,b.1.1.1,b.1.1.2.1,b.1.2.1,b.1.2.2.1.1,b.1.2.2.2.1.1,b.1.2.2.2.1.2.1,b.1.2.2.2.1.2.2.1,b.1.2.2.2.2.1,b.1.2.2.2.2.2.1,(a.2.2.2.2.2.2.2.2.2.2.2.2.2.2.2.2.2.2.2.1++[b.2]),a.2.2.2.2.2.2.2.2.2.2.2.2.2.2.2.2.2.2.2.2.1,(aW (a.2.2.2.2.2.2.2.2.2.2.2.2.2.2.2.2.2.2.2.2.2+1))))else U) (bif ae (aeP a.2.2.2.2.2.2.2.2.2.2.2.2.2.2.2.2.2.2.2.1+aeP [b.2]<=lim)then O (.inl (a.1,a.2.1,a.2.2.1,a.2.2.2.1,a.2.2.2.2.1,a.2.2.2.2.2.1,a.2.2.2.2.2.2.1,a.2.2.2.2.2.2.2.1,a.2.2.2.2.2.2.2.2.1,a.2.2.2.2.2.2.2.2.2.1,b.1.1.1,b.1.1.2.1,b.1.2.1,b.1.2.2.1.1,b.1.2.2.2.1.1,b.1.2.2.2.1.2.1,b.1.2.2.2.1.2.2.1,b.1.2.2.2.2.1,b.1.2.2.2.2.2.1,(a.2.2.2.2.2.2.2.2.2.2.2.2.2.2.2.2.2.2.2.1++[b.2]),a.2.2.2.2.2.2.2.2.2.2.2.2.2.2.2.2.2.2.2.2.1,(aW (a.2.2.2.2.2.2.2.2.2.2.2.2.2.2.2.2.2.2.2.2.2+1))))else U))else U else O (.inr (a.1,a.2.1,a.2.2.1,a.2.2.2.1,a.2.2.2.2.1,a.2.2.2.2.2.1,a.2.2.2.2.2.2.1,a.2.2.2.2.2.2.2.1,a.2.2.2.2.2.2.2.2.1,a.2.2.2.2.2.2.2.2.2.1,a.2.2.2.2.2.2.2.2.2.2.1,a.2.2.2.2.2.2.2.2.2.2.2.1,a.2.2.2.2.2.2.2.2.2.2.2.2.1,a.2.2.2.2.2.2.2.2.2.2.2.2.2.1,a.2.2.2.2.2.2.2.2.2.2.2.2.2.2.1,a.2.2.2.2.2.2.2.2.2.2.2.2.2.2.2.1,a.2.2.2.2.2.2.2.2.2.2.2.2.2.2.2.2.1,a.2.2.2.2.2.2.2.2.2.2.2.2.2.2.2.2.2.1,a.2.2.2.2.2.2.2.2.2.2.2.2.2.2.2.2.2.2.1,a.2.2.2.2.2.2.2.2.2.2.2.2.2.2.2.2.2.2.2.1))
abbrev U1(s:bT)(no what:List Int)(a:Int)(out:Bytes)(j:Int):(List aO)×(List aO)×(List aO)×(List aV)×Int×Int×(List Int)×(List aT)×(List aO)×(List Int)×(List Int)×Int×Bytes×Int:=(s.1.1,s.1.2.1,s.2.1,s.2.2.1.1,s.2.2.2.1.1,s.2.2.2.1.2.1,s.2.2.2.1.2.2.1,s.2.2.2.2.1,s.2.2.2.2.2.1,no,what,a,out,j)
abbrev VB(s:bT)(rs ls:List Bytes)(j:Int):(List aO)×(List aO)×(List aO)×(List aV)×Int×Int×(List Int)×(List aT)×(List aO)×(List Bytes)×(List aO)×(List aO)×(List aO)×(List aV)×Int×Int×(List Int)×(List aT)×(List aO)×(List Bytes)×(List Bytes)×Int:=([],[],[],[],0,0,[],[],[],[],s.1.1,s.1.2.1,s.2.1,s.2.2.1.1,s.2.2.2.1.1,s.2.2.2.1.2.1,s.2.2.2.1.2.2.1,s.2.2.2.2.1,s.2.2.2.2.2.1,rs,ls,j)
theorem nK{n:Nat}(h:n<=4294967296):ae (n<=lim)=true:=by unfold lim;exact aq h
theorem UZ{ls:List Bytes}(d:ls.length<=40){j:Nat}{t:Bytes}(c:ls[j]? =O t){s:bT}(L:DV s t){rs:List Bytes}(e:rs.length<=40):Mm ls (VB s rs ls (j:Int))=O (.inl (VB (eI s t).1 (rs++[(eI s t).2]) ls ((j:Int)+1))):=by have b:=(aeK.1 c).1;have h':pV ((s.1.1,s.1.2.1,()),s.2.1,(s.2.2.1.1,()),(s.2.2.2.1.1,s.2.2.2.1.2.1,s.2.2.2.1.2.2.1,()),s.2.2.2.2.1,s.2.2.2.2.2.1,()) t=O (eI s t):=L.im;have a:ae (aeP rs+aeP [(eI s t).2]<=lim)=true:=nK (by simp;omega);unfold Mm;simp only[bG b,aq (show(0:Int)<=(j:Int) by omega),ag2,ai,aK,c,ah,h',a,cz,aZ (show -9223372036854775808<=(j:Int)+1 by omega) (show(j:Int)+1<=9223372036854775807 by omega)]
theorem Uh{ls:List Bytes}(a:ls.length<=40)(hl:∀l∈ls,l.length<=2000):∀(r pre:List Bytes),ls=pre++r->aX (Mm ls) (VB (runK pre).1 (runK pre).2 ls (pre.length:Int))=O ([],[],[],[],0,0,[],[],[],[],(runK ls).1.1.1,(runK ls).1.1.2.1,(runK ls).1.2.1,(runK ls).1.2.2.1.1,(runK ls).1.2.2.2.1.1,(runK ls).1.2.2.2.1.2.1,(runK ls).1.2.2.2.1.2.2.1,(runK ls).1.2.2.2.2.1,(runK ls).1.2.2.2.2.2.1,(runK ls).2)
 |[],pre,e=>by rw[aew]at e;subst e;refine bb ?_;unfold Mm;simp only[show ae ((ls.length:Int)<(ls.length:Int))=false from ar (by omega),aj]
 |t::r,pre,e=>by(have b:ls[pre.length]? =O t:=by rw[e];simp);(have hp:pre.length<ls.length:=by rw[e];simp);have H:=(Aj pre start zZ λl h=>hl l (by rw[e];exact afC _ h)).1;have L:DV (runK pre).1 t:=HY (t:=t) H (hl t (aF b));have c:=Uh a hl r (pre++[t]) (by rw[e];simp);rw[w6,show((pre++[t]).length:Int)=(pre.length:Int)+1 by simp]at c;rw[bq (UZ a b L (by rw[jS];omega))];exact c
theorem Vq{ls:List Bytes}(e:ls.length<=40){j:Nat}{t:Bytes}(c:ls[j]? =O t){s:bT}(L:DV s t){no what:List Int}{a:Int}{out:Bytes}(hn:no.length<=40)(hw:what.length<=40)(ho:out.length<=40000000):M9 ls (U1 s no what a out (j:Int))=O (.inl (U1 (eI s t).1 (no++bif qz (eI s t).2 then [(j:Int)+1]else []) (what++bif fK (eI s t).2 then [(j:Int)+1]else []) a (out++((eI s t).2++[10])) ((j:Int)+1))):=by have b:=(aeK.1 c).1;have k:=L.len;have h':fl ((s.1.1,s.1.2.1,()),s.2.1,(s.2.2.1.1,()),(s.2.2.2.1.1,s.2.2.2.1.2.1,s.2.2.2.1.2.2.1,()),s.2.2.2.2.1,s.2.2.2.2.2.1,no,what,a,()) t=O (kK (eI s t).1 no what a,(eI s t).2):=L.sp no what a;have f:ae (aeP no+aeP [(j:Int)+1]<=lim)=true:=nK (by simp;omega);have g:ae (aeP what+aeP [(j:Int)+1]<=lim)=true:=nK (by simp;omega);have h:ae (aeP (eI s t).2+aeP ([10]:Bytes)<=lim)=true:=nK (by simp;omega);have i:ae (aeP out+aeP ((eI s t).2++([10]:Bytes))<=lim)=true:=nK (by simp;omega);unfold M9;simp only[bG b,ai,bh,c,ah,h',f,g,h,i,aZ (show -9223372036854775808<=(j:Int)+1 by omega) (show(j:Int)+1<=9223372036854775807 by omega)];unfold qz fK;by_cases d:(eI s t).2=([110,111]:Bytes);{rw[d];simp only[decide_true,ai,show ae (([110,111]:Bytes)=eE)=false from rfl,aj,aew]};{rw[ar d];cases ae ((eI s t).2=eE)<;>simp only[aj,ai,aew]}
noncomputable def Ik(ls:List Bytes):List Int:=eU qz 1 (runK ls).2
noncomputable def qh(ls:List Bytes):List Int:=eU fK 1 (runK ls).2
theorem Qm(a:List Bytes)(t:Bytes):Ik (a++[t])=Ik a++bif qz (eI (runK a).1 t).2 then [(a.length:Int)+1]else []:=by unfold Ik;rw[w6,rr,jS,show((1+a.length:Nat):Int)=(a.length:Int)+1 by omega]
theorem LC(a:List Bytes)(t:Bytes):qh (a++[t])=qh a++bif fK (eI (runK a).1 t).2 then [(a.length:Int)+1]else []:=by unfold qh;rw[w6,rr,jS,show((1+a.length:Nat):Int)=(a.length:Int)+1 by omega]
theorem Mi(ls:List Bytes):(Ik ls).length<=ls.length:=by unfold Ik;rw[iX];have:=ahO (p:=qz) (l:=(runK ls).2);rw[jS]at this;exact this
theorem FU(ls:List Bytes):(qh ls).length<=ls.length:=by unfold qh;rw[iX];have:=ahO (p:=fK) (l:=(runK ls).2);rw[jS]at this;exact this
theorem HT:∀(rs:List Bytes),(∀r∈rs,r.length<=500000)->(glue rs).length<=500001*rs.length
 |[],_=>aB _
 |r::rs,h=>by have b:=HT rs λy a=>h y (aL _ a);have:=h r (by simp);rw[iA];simp only[aG,aeQ];omega
theorem Ur{ls:List Bytes}(a:ls.length<=40)(hl:∀l∈ls,l.length<=2000):∀(r pre:List Bytes),ls=pre++r->aX (M9 ls) (U1 (runK pre).1 (Ik pre) (qh pre) 0 (glue (runK pre).2) (pre.length:Int))=O ((runK ls).1.1.1,(runK ls).1.1.2.1,(runK ls).1.2.1,(runK ls).1.2.2.1.1,(runK ls).1.2.2.2.1.1,(runK ls).1.2.2.2.1.2.1,(runK ls).1.2.2.2.1.2.2.1,(runK ls).1.2.2.2.2.1,(runK ls).1.2.2.2.2.2.1,Ik ls,qh ls,0,glue (runK ls).2)
 |[],pre,e=>by rw[aew]at e;subst e;refine bb ?_;unfold M9;simp only[show ae ((ls.length:Int)<(ls.length:Int))=false from ar (by omega),aj]
 |t::r,pre,e=>by(have c:ls[pre.length]? =O t:=by rw[e];simp);(have hp:pre.length<ls.length:=by rw[e];simp);obtain⟨H,d,_⟩:=Aj pre start zZ λl h=>hl l (by rw[e];exact afC _ h);have L:DV (runK pre).1 t:=HY (t:=t) H (hl t (aF c));have b:=Ur a hl r (pre++[t]) (by rw[e];simp);have g:=HT (runK pre).2 d;rw[jS]at g;have f:=Mi pre;have i:=FU pre;rw[w6,Qm,LC,show((pre++[t]).length:Int)=(pre.length:Int)+1 by simp,zF]at b;rw[bq (Vq a c L (by omega) (by omega) (by omega))];rw[show glue [(eI (runK pre).1 t).2]=(eI (runK pre).1 t).2++[10] by simp[glue]]at b;exact b
theorem lC{s:Bytes}(hl:s.length<4294967200):fZ s=O (bif(a7 s).2 then(((runK (a7 s).1).1.1,(runK (a7 s).1).1.2.1,(runK (a7 s).1).1.2.2.1,(runK (a7 s).1).1.2.2.2.1,(runK (a7 s).1).1.2.2.2.2.1,(runK (a7 s).1).1.2.2.2.2.2.1,(runK (a7 s).1).2,()),true)else((([],[],()),[],([],()),(0,0,[],()),[],[],[],()),false)):=by unfold fZ;rw[Cz hl];simp only[ah];cases a:(a7 s).2 with|false=>rfl|true=>simp only[afl,aj,ai];(obtain⟨e,f⟩:(a7 s).1.length<=40/\∀l∈(a7 s).1,l.length<=2000:=by unfold a7 at a⊢;by_cases h1:2000<s.length;{rw[aq h1]at a;cases a};{rw[ar h1]at a⊢;simp only[aj]at a⊢;cases c:(!decide (s=[])&&!decide (s.getLast? =O 10))with|true=>rw[c]at a;cases a|false=>rw[c]at a;simp only[aj]at a⊢;by_cases d:40<(cut 10 s).dropLast.length;{rw[aq d]at a;cases a};{rw[ar d];refine⟨by simp only[aj];omega,λl b=> ?_⟩;have:=Cr 10 s l (ahQ _ b);omega}});have:=Uh e f (a7 s).1 [] rfl;exact bind_eq this rfl
theorem sk{s:Bytes}(a:(a7 s).2=true):(a7 s).1.length<=40/\(∀l∈(a7 s).1,l.length<=2000/\(10:UInt8)∉l)/\s=glue (a7 s).1/\s.length<=2000:=by unfold a7 at a⊢;by_cases h1:2000<s.length;{rw[aq h1]at a;cases a};{rw[ar h1]at a⊢;simp only[aj]at a⊢;cases b:(!decide (s=[])&&!decide (s.getLast? =O 10))with|true=>rw[b]at a;cases a|false=>rw[b]at a;simp only[aj]at a⊢;by_cases d:40<(cut 10 s).dropLast.length;{rw[aq d]at a;cases a};{rw[ar d];refine⟨by simp only[aj];omega,λl c=> ?_,?_,by omega⟩;{have:=Cr 10 s l (ahQ _ c);exact⟨by omega,Je s l (ahQ _ c)⟩};{refine(N3 ?_).symm;rw[Bool.and_eq_false_iff]at b;rcases b with b|b;{left;simpa using b};{right;simpa using b}}}}
theorem wO{s:Bytes}(hl:s.length<4294967200):oO s=O (bif(a7 s).2 then(kK (runK (a7 s).1).1 (Ik (a7 s).1) (qh (a7 s).1) ((a7 s).1.length:Int),glue (runK (a7 s).1).2,true)else(kK start [] [] 0,[],false)):=by unfold oO Bo;rw[Cx hl];simp only[ah];cases a:(a7 s).2 with|false=>rfl|true=>simp only[afl,aj,ai];obtain⟨b,c,_⟩:=sk a;have:=Ur b (λl h=>(c l h).1) (a7 s).1 [] rfl;exact bind_eq this rfl
end Sh
namespace Sh
open Go Go.Ab Go.Proofs
end Sh
namespace Sh.Q.D
open Go Go.Ab Go.Proofs
theorem AW{l:List Int}(h:l.length<=maxLen):mo l l=O true:=by have:mo l l=eW l l:=rfl;rw[this,Ii h];simp
end Sh.Q.D
namespace Sh
open Go Go.Ab Go.Proofs Go.Lib
set_option maxRecDepth 100000
noncomputable def uT(s:Bytes):Bytes:=bif(a7 s).2 then glue (runK (a7 s).1).2 else []
theorem nz{s:Bytes}(a:(a7 s).2=true):PV (runK (a7 s).1).1/\(∀r∈(runK (a7 s).1).2,r.length<=500000)/\(runK (a7 s).1).2.length<=40:=by obtain⟨b,c,_⟩:=sk a;obtain⟨h1,d,_⟩:=Aj (a7 s).1 start zZ λl h=>(c l h).1;exact⟨h1,d,by rw[jS];exact b⟩
theorem Dn{s:Bytes}(hl:s.length<4294967200):qF s=O (uT s):=by unfold qF uT;rw[wO hl];cases (a7 s).2<;>rfl
theorem tS{s:Bytes}(hl:s.length<4294967200):gO s=O (uT s):=by unfold gO uT;rw[lC hl];cases a:(a7 s).2 with|false=>rfl|true=>obtain⟨_,b,c⟩:=nz a;have g:=HT (runK (a7 s).1).2 b;simp only[ai,ah];rw[aM (by simp),aN ⟨by omega,λx hx=>by have:=b x hx;omega,by show(glue (runK (a7 s).1).2).length<=_;omega⟩];rfl
def jz(r:Bytes):Bool:=!gw r
theorem yg{rs:List Bytes}(h:rs.length<=40):∀(r pre:List Bytes),rs=pre++r->aX (λ(a:Int×Int×Int×(List Bytes)×Int)=>(bif(ae (a.2.2.2.2<(rs.length:Int)))then bif ae (0<=a.2.2.2.2)&&ae (a.2.2.2.2<(a.2.2.2.1.length:Int))then(a.2.2.2.1[(agC a.2.2.2.2)]?).bind λc=>bif(ae (c=([110,111]:Bytes)))then O (.inl ((aW (a.1+1)),a.2.1,a.2.2.1,a.2.2.2.1,(aW (a.2.2.2.2+1))))else bif(ae (c=eE))then O (.inl (a.1,(aW (a.2.1+1)),a.2.2.1,a.2.2.2.1,(aW (a.2.2.2.2+1))))else O (.inl (a.1,a.2.1,(aW (a.2.2.1+1)),a.2.2.2.1,(aW (a.2.2.2.2+1))))else U else O (.inr (a.1,a.2.1,a.2.2.1)):Option ((Int×Int×Int×(List Bytes)×Int)⊕((Int×Int×Int))))) (((pre.countP qz:Nat):Int),((pre.countP fK:Nat):Int),((pre.countP jz:Nat):Int),rs,(pre.length:Int))=O (((rs.countP qz:Nat):Int),((rs.countP fK:Nat):Int),((rs.countP jz:Nat):Int))
 |[],pre,e=>by rw[aew]at e;subst e;exact bb (by simp)
 |x::r,pre,e=>by(have f:rs[pre.length]? =O x:=by rw[e];simp);(have hp:pre.length<rs.length:=by rw[e];simp);have b:=yg h r (pre++[x]) (by rw[e];simp);have c1:=ahO (p:=qz) (l:=pre);have c2:=ahO (p:=fK) (l:=pre);have c3:=ahO (p:=jz) (l:=pre);simp only[ahM,ahN,ahP,afb]at b;rw[show((pre++[x]).length:Int)=(pre.length:Int)+1 by simp]at b;have w0:aW ((pre.length:Int)+1)=(pre.length:Int)+1:=aZ (by omega) (by omega);(have g:aW (((pre.countP qz:Nat):Int)+1)=((pre.countP qz+1:Nat):Int):=by rw[aZ (by omega) (by omega)];omega);(have i:aW (((pre.countP fK:Nat):Int)+1)=((pre.countP fK+1:Nat):Int):=by rw[aZ (by omega) (by omega)];omega);(have j:aW (((pre.countP jz:Nat):Int)+1)=((pre.countP jz+1:Nat):Int):=by rw[aZ (by omega) (by omega)];omega);rw[bq (a':=(((pre.countP qz+(if qz x=true then 1 else 0):Nat):Int),((pre.countP fK+(if fK x=true then 1 else 0):Nat):Int),((pre.countP jz+(if jz x=true then 1 else 0):Nat):Int),rs,(pre.length:Int)+1)) ?_];{exact b};{simp only[bG hp,aq (show(0:Int)<=(pre.length:Int) by omega),ag2,ai,aK,f,ah,w0,g,i,j];unfold jz gw qz fK;by_cases d:x=([110,111]:Bytes);{subst d;rfl};{rw[ar d];cases ae (x=eE)<;>rfl}}
theorem counts(rs:List Bytes):rs.countP qz+rs.countP fK+rs.countP jz=rs.length:=by induction rs with|nil=>rfl|cons x rs b=>simp only[ahN,aeQ];(have:(if qz x=true then 1 else 0)+(if fK x=true then 1 else 0)+(if jz x=true then 1 else 0)=1:=by unfold jz gw qz fK;by_cases a:x=([110,111]:Bytes);{subst a;rfl};{rw[ar a];cases ae (x=eE)<;>rfl});omega
noncomputable def wY(s:Bytes):Int×Int×Int×Bool:=bif(a7 s).2 then(((runK (a7 s).1).2.countP qz:Nat),((runK (a7 s).1).2.countP fK:Nat),((runK (a7 s).1).2.countP jz:Nat),true)else(0,0,0,false)
theorem Ka{s:Bytes}(hl:s.length<4294967200):jU s=O (wY s):=by unfold jU wY;rw[lC hl];simp only[ah];cases a:(a7 s).2 with|false=>have:=yg (rs:=[]) (by simp) [] [] rfl;exact bind_eq this rfl|true=>obtain⟨_,_,b⟩:=nz a;have:=yg b (runK (a7 s).1).2 [] rfl;exact bind_eq this rfl
noncomputable def Bh(ls:List Bytes):List Int:=eU gw 1 (runK ls).2
noncomputable def gD(s:Bytes):List Int×Bool:=bif(a7 s).2 then(Bh (a7 s).1,true)else([],false)
theorem vA{rs:List Bytes}(h:rs.length<=40):∀(r pre:List Bytes),rs=pre++r->aX (λ(a:(List Int)×(List Bytes)×Int)=>(bif(ae (a.2.2<(rs.length:Int)))then bif ae (0<=a.2.2)&&ae (a.2.2<(a.2.1.length:Int))then(a.2.1[(agC a.2.2)]?).bind λc=>(bif(ae (c=([110,111]:Bytes)))then O true else O (ae (c=eE))).bind λc5=>bif c5 then bif ae (aeP a.1+aeP [(aW (a.2.2+1))]<=lim)then O (.inl ((a.1++[(aW (a.2.2+1))]),a.2.1,(aW (a.2.2+1))))else U else O (.inl (a.1,a.2.1,(aW (a.2.2+1))))else U else O (.inr a.1):Option (((List Int)×(List Bytes)×Int)⊕((List Int))))) (eU gw 1 pre,rs,(pre.length:Int))=O (eU gw 1 rs)
 |[],pre,e=>by rw[aew]at e;subst e;exact bb (by simp)
 |x::r,pre,e=>by(have f:rs[pre.length]? =O x:=by rw[e];simp);(have hp:pre.length<rs.length:=by rw[e];simp);have d:=vA h r (pre++[x]) (by rw[e];simp);have c1:=ahO (p:=gw) (l:=pre);have c2:=iX gw pre 1;rw[rr,show((pre++[x]).length:Int)=(pre.length:Int)+1 by simp,show((1+pre.length:Nat):Int)=(pre.length:Int)+1 by omega]at d;have w0:aW ((pre.length:Int)+1)=(pre.length:Int)+1:=aZ (by omega) (by omega);(have hc:(bif(ae (x=([110,111]:Bytes)))then O true else O (ae (x=eE)))=O (gw x):=by unfold gw;cases ae (x=([110,111]:Bytes))<;>rfl);have b:ae (aeP (eU gw 1 pre)+aeP [(pre.length:Int)+1]<=lim)=true:=nK (by simp;omega);rw[bq (a':=(eU gw 1 pre++(bif gw x then [(pre.length:Int)+1]else []),rs,(pre.length:Int)+1)) ?_];{exact d};{simp only[bG hp,aq (show(0:Int)<=(pre.length:Int) by omega),ag2,ai,aK,f,ah,hc,w0];cases gw x with|false=>simp only[aj,aew]|true=>simp only[ai,b]}
theorem Jt{s:Bytes}(hl:s.length<4294967200):jl s=O (gD s):=by unfold jl gD;rw[lC hl];simp only[ah];cases a:(a7 s).2 with|false=>have:=vA (rs:=[]) (by simp) [] [] rfl;exact bind_eq this rfl|true=>obtain⟨_,_,b⟩:=nz a;have:=vA b (runK (a7 s).1).2 [] rfl;exact bind_eq this rfl
theorem Ex:∀(rs:List Bytes) (k:Nat),(eU qz k rs++eU fK k rs).Perm (eU gw k rs)
 |[],_=>List.Perm.refl _
 |x::rs,k=>by have a:=Ex rs (k+1);simp only[eU];by_cases b:x=([110,111]:Bytes);{subst b;exact a.cons _};{have h1:qz x=false:=ar b;(have c:gw x=fK x:=by unfold gw fK;rw[ar b];rfl);rw[h1,c];cases fK x with|false=>exact a|true=>exact(List.perm_middle).trans (a.cons _)}
theorem PY{L:List Int}(h:L.length<=80):aX (λ(b:(List Int)×(List Int)×Int)=>(bif(ae (b.2.2<(L.length:Int)))then bif ae (0<=b.2.2)&&ae (b.2.2<(b.2.1.length:Int))then(b.2.1[(agC b.2.2)]?).bind λd=>(ko b.1 d).bind λe=>bif e then O (.inl (b.1,b.2.1,(aW (b.2.2+1))))else(nj b.1 d).bind λg=>O (.inl (g,b.2.1,(aW (b.2.2+1))))else U else O (.inr b.1):Option (((List Int)×(List Int)×Int)⊕((List Int))))) ([],L,0)=O (L.foldl gI []):=by have:=fE (l:=L) (f:=(λ(b:(List Int)×(List Int)×Int)=>(bif(ae (b.2.2<(L.length:Int)))then bif ae (0<=b.2.2)&&ae (b.2.2<(b.2.1.length:Int))then(b.2.1[(agC b.2.2)]?).bind λd=>(ko b.1 d).bind λe=>bif e then O (.inl (b.1,b.2.1,(aW (b.2.2+1))))else(nj b.1 d).bind λg=>O (.inl (g,b.2.1,(aW (b.2.2+1))))else U else O (.inr b.1):Option (((List Int)×(List Int)×Int)⊕((List Int)))))) (λ(a:List Int) (i:Int)=>(a,L,i)) gI (λa=>a) (λi a=>a.length<=i/\a.Pairwise (· < ·)) [] ⟨by simp,List.Pairwise.nil⟩ (λa i x hx hi hI=>by obtain⟨f1,f2⟩:=wA hI.2 (by omega) x;have hl:=CB a x;refine⟨?_,by omega,vq hI.2⟩;simp only[bG hi,aq (show(0:Int)<=(i:Int) by omega),ag2,ai,aK,hx,ah,f1,aZ (show -9223372036854775808<=(i:Int)+1 by omega) (show(i:Int)+1<=9223372036854775807 by omega)];cases c:a.any λy=>ae (x=y)with|true=>(have:gI a x=a:=by unfold gI;rw[c];rfl);rw[this];rfl|false=>rw[f2 c];rfl) (λa _=>by simp);exact this.1
theorem IC{s:Bytes}(hl:s.length<4294967200):kB s=O (gD s):=by unfold kB gD;rw[wO hl];simp only[ah];cases f:(a7 s).2 with|false=>rfl|true=>obtain⟨_,_,k⟩:=nz f;rw[jS]at k;have hn:=Mi (a7 s).1;have hw:=FU (a7 s).1;have hp:(Ik (a7 s).1++qh (a7 s).1).Perm (Bh (a7 s).1):=Ex _ _;have i:(Bh (a7 s).1).Pairwise (· < ·):=BG _ _ _;have g:(Ik (a7 s).1++qh (a7 s).1).Pairwise (· ≠ ·):=hp.symm.pairwise (i.imp λ{a b} h=>by omega) (λh=>h.symm);obtain⟨j,m⟩:=zn (Ik (a7 s).1++qh (a7 s).1) [] List.Pairwise.nil (by rw[afJ];exact g);rw[afJ]at j;have e:(Ik (a7 s).1++qh (a7 s).1).foldl gI []=Bh (a7 s).1:=pw (lt:=λa b:Int=>a<b) (λa b h1 n=>by omega) (j.trans hp) (m.imp λ{a b} h=>by omega) i;have c:=PY (L:=Ik (a7 s).1++qh (a7 s).1) (by simp;omega);rw[e]at c;have d:ae (aeP (Ik (a7 s).1)+aeP (qh (a7 s).1)<=lim)=true:=nK (by omega);simp only[ai,afl,aj,Q3 (l:=Ik (a7 s).1) (by omega),ah,d,cz];exact bind_eq c rfl
theorem ER(s:Bytes):(gD s).1.length<=1000:=by unfold gD;cases a:(a7 s).2 with|false=>simp|true=>obtain⟨_,_,b⟩:=nz a;have c1:=ahO (p:=gw) (l:=(runK (a7 s).1).2);show(eU gw 1 (runK (a7 s).1).2).length<=1000;rw[iX];omega
noncomputable def B9(s:Bytes):b9×Bool:=bif(a7 s).2 then((runK (a7 s).1).1.1,true)else(([],[],()),false)
theorem Rn{s:Bytes}(hl:s.length<4294967200):kV s=O (B9 s):=by unfold kV B9;rw[lC hl];cases (a7 s).2<;>rfl
theorem Uo{s:Bytes}(hl:s.length<4294967200):qx s=O (B9 s):=by unfold qx B9;rw[wO hl];cases (a7 s).2<;>rfl
noncomputable def jc(s:Bytes):List aT×Bool:=bif(a7 s).2 then((runK (a7 s).1).1.2.2.2.2.1,true)else([],false)
theorem AZ{s:Bytes}(hl:s.length<4294967200):gy s=O (jc s):=by unfold gy jc;rw[lC hl];cases (a7 s).2<;>rfl
theorem Gh{s:Bytes}(hl:s.length<4294967200):jO s=O (jc s):=by unfold jO jc;rw[wO hl];cases (a7 s).2<;>rfl
noncomputable def sq(s:Bytes):bE×Bool:=bif(a7 s).2 then((runK (a7 s).1).1.2.2.1,true)else(([],()),false)
theorem KL{s:Bytes}(hl:s.length<4294967200):jQ s=O (sq s):=by unfold jQ sq;rw[lC hl];cases (a7 s).2<;>rfl
theorem Rq{s:Bytes}(hl:s.length<4294967200):nL s=O (sq s):=by unfold nL sq;rw[wO hl];cases (a7 s).2<;>rfl
end Sh
namespace Go.Proofs.YtkemmodgpafkmaaGreatDoor
open Go Go.Ab
theorem own:ownKnob Tryz.prog.godebug=U:=by kernel_rfl
theorem CY{H:Type}:∀l:List (DataW H),(l.map Rows.uptoBulk).sum=Rows.uptoBulkAll l
 |[]=>by simp[Rows.uptoBulkAll]
 |d::l=>by simp[Rows.uptoBulkAll,CY l]
theorem Du{H:Type}:IU (Rows.uptoBulk (H:=H)) where
  lit l:=by cases l<;>simp[Rows.uptoBulk]
  str b:=by simp[Rows.uptoBulk]
  nil:=by simp[Rows.uptoBulk]
  slice e r:=by rw[CY];simp only[Rows.uptoBulk];omega
  agg e:=by rw[CY];simp only[Rows.uptoBulk];omega
end Go.Proofs.YtkemmodgpafkmaaGreatDoor
namespace Sh
open Go Go.Ab Go.Proofs
theorem JD{l:List Int}(h:good (.slice (.int .u8)) l):∀b∈l,0<=b/\b<=255:=λb a=>by
  have:=h.2 b a;have c:CC .u8 b:=this;simp[CC,Lit.wf,IntKind.min,IntKind.max,IntKind.signed,IntKind.bits]at c;omega
theorem xl{P:Program}{W:World}{l:List (String×DataW Unit)}{name m:String}{d:DataW Unit}{g:Nat}{t:TypeId}(hg:P.globalNamed name=O g)(f:(P.globals[g]?).map (·.type)=O t)(ht:∃ms,P.underlying t=O (.interface ms))(hp:(l.all λx=>x.2.handleName?.isNone)=true)(hm:(name,DataW.iface m d)∈l)(h:laidMetH P l W):g<W.heap.size/\¬False/\∃o,W.heap[g]? =O o/\tY o:=by obtain⟨ms,ht⟩:=ht;rw[MakeChecks.laidMetH_plain _ _ _ hp]at h;obtain⟨q,s,cs,fuel,p,i,j,a,b⟩:=Lib.laidMet.reads h hm;obtain rfl:=aA (hg.symm.trans i);obtain rfl:=aA (f.symm.trans j);unfold World.var? at a;rw[hg,ah]at a;split at a;{rename_i c e fz k;injection a with a;subst a;refine⟨(Array.getElem?_eq_some_iff.1 k).1,λh=>h,_,k,?_⟩;(have key:∃v,c.toList=[v]/\(v=.nilIface\/∃te n,v=.iface te n):=by cases fuel with|zero=>simp[DataW.trod]at b|succ fuel=>match hcs:c.toList with|[]=>rw[hcs]at b;simp[DataW.trod,ht]at b|[.nilIface]=>exact⟨_,rfl,.inl rfl⟩|[.iface u v]=>exact⟨_,rfl,.inr ⟨u,v,rfl⟩⟩|x::y::r=>rw[hcs]at b;simp[DataW.trod,ht]at b|[x]=>rw[hcs]at b;cases x<;>first|exact⟨_,rfl,.inl rfl⟩|exact⟨_,rfl,.inr ⟨_,_,rfl⟩⟩|(simp[DataW.trod,ht]at b));obtain⟨v,k1,k2⟩:=key;exact⟨_,_,_,v,rfl,by rw[<-Array.getElem?_toList,k1];rfl,k2⟩};{cases a}
theorem uh{l:List (String×DataW Unit)}{W:World}(hp:(l.all fun x=>x.2.handleName?.isNone)=true)(hm:("internal/strconv.uint64pow10",Lib.tabData .u64 Lib.pow10Tab)∈l){c d:String}{d1 d2:DataW Unit}
    (h1:("strconv.ErrSyntax",DataW.iface c d1)∈l) (e:("strconv.ErrRange",DataW.iface d d2)∈l) (b:laidMetH Tryz.prog l W) (h:W.ShapedOpen Tryz.prog):lU W W.heap.size (fun _=>False):=fun p a=>by
  have a:p∈[(0,zw),(1,tY),(2,tY),(5,pZ (Lib.pow10Tab.map fun z=>Value.int .u64 z).toArray)]:=a;simp only[aeT,ahq,or_false]at a;rcases a with rfl|rfl|rfl|rfl
  ·exact Ff (t:=3) (zero:= #[.int .i64 0]) h (of_decide_eq_true (by kernel_rfl)) (by kernel_rfl) rfl (by kernel_rfl) (by kernel_rfl) Tryz.underlying3
  ·exact xl (name:= "strconv.ErrSyntax") (by kernel_rfl) (by kernel_rfl) ⟨_,Tryz.underlying78⟩ hp h1 b
  ·exact xl (name:= "strconv.ErrRange") (by kernel_rfl) (by kernel_rfl) ⟨_,Tryz.underlying78⟩ hp e b
  ·exact Jz (name:= "internal/strconv.uint64pow10") (zs:=Lib.pow10Tab) (by kernel_rfl) (by kernel_rfl) Tryz.underlying300 Tryz.underlying96 (by kernel_rfl) (by kernel_rfl) hp hm b
end Sh
