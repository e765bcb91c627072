/-
  Plain facts, over this seat.
-/
import Derived.Test.YtkemmodgpafkmaaGreatDoorBulkS
open Bool renaming not_false->ag5
open Int renaming emod_lt_of_pos->ahK,emod_nonneg->ahL,le_refl->aes,tmod_eq_emod_of_nonneg->ahb
open List renaming getElem_mem->ahi
namespace Sh
open Go Go.Ab Go.Proofs
set_option maxRecDepth 100000
structure Ok (c:cF):Prop where
  Zi:∀b∈c.1,0<=b/\b<=255
  len:c.1.length<=1048576
  WM:0<=c.2.1
  at1:c.2.1<=2305843009213693952
def uY(c:cF):Int:=c.1.getD c.2.1.toNat 0
def wb(c:cF):Int:=(c.2.2.1*6364136223846793005+(if c.2.1<(c.1.length:Int)then uY c else 0)+1442695040888963407)%18446744073709551616
def nx(c:cF):cF×Int:=((c.1,c.2.1+1,wb c,()),if c.2.1<(c.1.length:Int)then uY c else(wb c/1099511627776)%256)
theorem F4{c:cF}(h:Ok c)(hl:c.2.1<(c.1.length:Int)):idx c.1 c.2.1=some (uY c)/\0<=uY c/\uY c<=255:=by have h0:=h.WM;(have hn:c.2.1.toNat<c.1.length:=by omega);(have e:uY c=c.1[c.2.1.toNat]:=by unfold uY;rw[List.getD_eq_getElem?_getD,aJ hn];rfl);refine⟨?_,?_⟩;{unfold idx;rw[aM (by omega),aJ hn,e]};{rw[e];exact h.Zi _ (ahi hn)}
theorem M3{c:cF}(h:Ok c):0<=(nx c).2/\(nx c).2<=255:=by unfold nx;simp only;split;{rename_i hl;exact(F4 h hl).2};{omega}
theorem V9{c:cF}(h:Ok c)(a:c.2.1<2305843009213693952):Ok (nx c).1:=⟨h.Zi,h.len,by have:=h.WM;show 0<=c.2.1+1;omega,by show c.2.1+1<=_;omega⟩
theorem Jw(x:Int):IntKind.u64.wrap x=x%18446744073709551616:=by simp[IntKind.wrap,IntKind.signed,IntKind.bits]
theorem T7(s b:Int):IntKind.u64.wrap (IntKind.u64.wrap (IntKind.u64.wrap (s*6364136223846793005)+IntKind.u64.wrap b)+1442695040888963407)=(s*6364136223846793005+b+1442695040888963407)%18446744073709551616:=by simp only[Jw];omega
theorem Vi(x:Int)(h0:0<=x)(h1:x<18446744073709551616):aW (vC .and .u64 (uE .shr .u64 x 40) 255)=(x/1099511627776)%256:=by unfold vC uE;(have c:x.fdiv (2^(min (40:Int).toNat IntKind.u64.bits))=x/1099511627776:=by rw[Int.fdiv_eq_ediv_of_nonneg _ (by decide)];rfl);simp only[c];(have a:0<=x/1099511627776:=by omega);(have b:x/1099511627776<16777216:=by omega);generalize x/1099511627776=q at a b;obtain⟨n,rfl⟩:=Int.eq_ofNat_of_zero_le a;(have hn:n<16777216:=by omega);(have d:(BitVec.ofInt IntKind.u64.bits (n:Int)&&&BitVec.ofInt IntKind.u64.bits 255).toNat=n%256:=by rw[BitVec.toNat_and];(have e:(BitVec.ofInt IntKind.u64.bits (n:Int)).toNat=n:=by rw[BitVec.ofInt_natCast,BitVec.toNat_ofNat];exact Nat.mod_eq_of_lt (by show n<2^64;omega));(have a2:(BitVec.ofInt IntKind.u64.bits 255).toNat=255:=by rfl);rw[e,a2];exact Nat.and_two_pow_sub_one_eq_mod n 8);rw[d,Jw,aZ (by omega) (by omega)];omega
theorem Qe{c:cF}(h:Ok c)(d:c.2.1<2305843009213693952):lZ c=some (nx c):=by obtain⟨code,at_,a,u⟩:=c;unfold lZ nx;have h0:=h.WM;simp only at h0 d;(have hs:0<=wb (code,at_,a,u)/\wb (code,at_,a,u)<18446744073709551616:=by unfold wb;omega);by_cases hl:at_<(code.length:Int);{obtain⟨b,f,g⟩:=F4 h hl;simp only at b;simp only[dQ hl,ai,b,ah,aZ (x:=uY (code,at_,a,u)) (by omega) (by omega),aZ (x:=at_+1) (by omega) (by omega),dQ (by omega:at_+1<=(code.length:Int)),T7];unfold wb;simp only[aN hl]};{simp only[cH hl,aj,ah,aZ (x:=at_+1) (by omega) (by omega),cH (by omega:¬at_+1<=(code.length:Int)),T7,aM hl];(have e:(a*6364136223846793005+0+1442695040888963407)%18446744073709551616=wb (code,at_,a,u):=by unfold wb;simp only[aM hl]);rw[e,Vi _ hs.1 hs.2]}
def N:Nat->cF->cF
 |0,c=>c
 |k+1,c=>(nx (N k c)).1
theorem O8(k:Nat)(c:cF):(N k c).1=c.1:=by induction k with|zero=>rfl|succ k a=>exact a
theorem UA(k:Nat)(c:cF):(N k c).2.1=c.2.1+(k:Int):=by induction k with|zero=>simp[N]|succ k a=>show(N k c).2.1+1=_;rw[a];omega
theorem Yw{c:cF}(h:Ok c){k:Nat}(a:c.2.1+(k:Int)<=2305843009213693952):Ok (N k c):=
  ⟨by rw[O8];exact h.Zi,by rw[O8];exact h.len,by have:=h.WM;rw[UA];omega,by rw[UA];exact a⟩
theorem Xe(k j:Nat)(c:cF):N k (N j c)=N (j+k) c:=by induction k with|zero=>rfl|succ k a=>show(nx (N k (N j c))).1=(nx (N (j+k) c)).1;rw[a]
def pk(c:cF)(n:Int):cF×Int:=if n<=1 then(c,0)else if 200<n then(N 2 c,((nx c).2*256+(nx (N 1 c)).2)%n)else(N 1 c,(nx c).2%n)
theorem U0{c:cF}(h:Ok c)(b:c.2.1+2<=2305843009213693952)(n:Int):dD c n=some (pk c n):=by unfold dD pk;by_cases h1:n<=1;{rw[dQ h1,aN h1];rfl};rw[cH h1,aM h1,Qe h (by omega)];have hx:=M3 h;simp only[aj,ah];by_cases a:200<n;{have ho:=V9 h (by omega);have d:=M3 ho;rw[dQ a,aN a,Qe ho (by show c.2.1+1<_;omega)];simp only[ai,ah,cH (by omega:¬n=0),ag5];rw[aZ (x:=(nx c).2*256) (by omega) (by omega),aZ (by omega) (by omega),ahb (by omega)];rfl};{rw[cH a,aM a];simp only[aj,ai,cH (by omega:¬n=0),ag5];rw[ahb (by omega)];rfl}
theorem Qz{c:cF}{n:Int}(hn:0<n):0<=(pk c n).2/\(pk c n).2<n:=by unfold pk;split;{exact⟨aes _,hn⟩};{split;{exact⟨ahL _ (by omega),ahK _ hn⟩};{exact⟨ahL _ (by omega),ahK _ hn⟩}}
def Goes{α:Type}(m:Option (cF×α))(c:cF)(k:Nat)(Q:α->Prop):Prop:=∃j v,m=some (N j c,v)/\j<=k/\Q v
theorem Goes.bind{α β:Type}{m:Option (cF×α)}{c:cF}{k k2:Nat}{Q:α->Prop}{b:β->Prop}{f:cF×α->Option (cF×β)}(h:Goes m c k Q)(d:∀j v,j<=k->Q v->Goes (f (N j c,v)) (N j c) k2 b):Goes (m.bind f) c (k+k2) b:=by obtain⟨j,v,rfl,g,i⟩:=h;obtain⟨l,v2,e,n,a⟩:=d j v g i;exact⟨j+l,v2,by rw[<-Xe];exact e,by omega,a⟩
theorem Goes.ret{α:Type}{c:cF}{v:α}{Q:α->Prop}(h:Q v):Goes (some (c,v)) c 0 Q:=⟨0,v,rfl,aB _,h⟩
theorem Goes.mono{α:Type}{m:Option (cF×α)}{c:cF}{k k2:Nat}{Q a:α->Prop}(h:Goes m c k Q)(hk:k<=k2)(b:∀v,Q v->a v):Goes m c k2 a:=by obtain⟨j,v,e,f,d⟩:=h;exact⟨j,v,e,by omega,b v d⟩
end Sh
namespace Sh
open Go Go.Ab Go.Proofs
set_option maxRecDepth 100000
theorem OT{σ ρ:Type}{f:σ->Option (σ⊕ρ)}(I:Nat->σ->Prop)(Q:ρ->Prop)(step:∀n s,I n s->(∃r,f s=some (.inr r)/\Q r)\/(∃m s',m<n/\f s=some (.inl s')/\I m s')):∀n s,I n s->∃r,aX f s=some r/\Q r:=by intro n;induction n using Nat.strongRecOn with|ind n d=>intro s h;rcases step n s h with ⟨r,h1,c⟩|⟨m,s',h1,c,e⟩;{exact⟨r,bb h1,c⟩};{obtain⟨r,a,b⟩:=d m h1 s' e;exact⟨r,(bq c).trans a,b⟩}
end Sh
namespace Sh
open Go Go.Ab Go.Proofs
set_option maxRecDepth 100000
def To{α:Type}(m:Option α)(Q:α->Prop):Prop:=∃r,m=some r/\Q r
theorem To.bind{α β:Type}{m:Option α}{f:α->Option β}{Q:α->Prop}{R:β->Prop}(h:To m Q)(k:∀r,Q r->To (f r) R):To (m.bind f) R:=by obtain⟨r,rfl,a⟩:=h;exact k r a
theorem To.ret{α:Type}{r:α}{Q:α->Prop}(h:Q r):To (some r) Q:=⟨r,rfl,h⟩
theorem To.mono{α:Type}{m:Option α}{Q R:α->Prop}(h:To m Q)(k:∀r,Q r->R r):To m R:=by obtain⟨r,e,a⟩:=h;exact⟨r,e,k r a⟩
theorem To.cond{α:Type}{b:Bool}{x y:Option α}{Q:α->Prop}(h1:To x Q)(a:To y Q):To (bif b then x else y) Q:=by cases b<;>assumption
theorem To.ite{α:Type}{p:Prop}[Decidable p]{x y:Option α}{Q:α->Prop}(h1:p->To x Q)(a:¬p->To y Q):To (bif decide p then x else y) Q:=by by_cases h:p;{rw[dQ h];exact h1 h};{rw[cH h];exact a h}
theorem To.guard{α:Type}{p:Prop}[Decidable p]{x:Option α}{Q:α->Prop}(hp:p)(h:To x Q):To (bif decide p then x else none) Q:=by rw[dQ hp];exact h
theorem To.at_{α β:Type}{l:List α}{v:Int}{f:α->Option β}{Q:β->Prop}(h0:0<=v)(h1:v<(l.length:Int))(k:∀e,e∈l->To (f e) Q):To ((l[Int.toNat v]?).bind f) Q:=by(have h:v.toNat<l.length:=by omega);rw[aJ h];exact k _ (ahi h)
theorem To.idx{α β:Type}{l:List α}{v:Int}{f:α->Option β}{Q:β->Prop}(h0:0<=v)(h1:v<(l.length:Int))(k:∀e,e∈l->To (f e) Q):To ((idx l v).bind f) Q:=by unfold Go.Ab.idx;rw[aM (by omega)];exact To.at_ h0 h1 k
def mW{σ ρ:Type}(I:Nat->σ->Prop)(Q:ρ->Prop)(n:Nat):σ⊕ρ->Prop
 |.inl s=>∃m,m<n/\I m s
 |.inr r=>Q r
theorem mW.on{σ ρ:Type}{I:Nat->σ->Prop}{Q:ρ->Prop}{n:Nat}{s:σ}(m:Nat)(h:m<n)(a:I m s):mW I Q n (.inl s):=⟨m,h,a⟩
theorem mW.end_{σ ρ:Type}{I:Nat->σ->Prop}{Q:ρ->Prop}{n:Nat}{r:ρ}(h:Q r):mW I Q n (.inr r):=h
theorem To.loop{σ ρ:Type}{f:σ->Option (σ⊕ρ)}(I:Nat->σ->Prop){Q:ρ->Prop}{n:Nat}{s:σ}(h:I n s)(step:∀n s,I n s->To (f s) (mW I Q n)):To (aX f s) Q:=by refine OT I Q (λn s hI=> ?_) n s h;obtain⟨r,e,ht⟩:=step n s hI;cases r with|inl s'=>obtain⟨m,h1,a⟩:=ht;exact .inr ⟨m,s',h1,e,a⟩|inr r=>exact .inl ⟨r,e,ht⟩
structure At (c:cF) (n:Nat):Prop where
  ok:Ok c
  le:c.2.1<=(n:Int)
theorem At.mono{c:cF}{n m:Nat}(h:At c n)(hm:n<=m):At c m:=⟨h.ok,by have:=h.le;omega⟩
theorem U6{c:cF}{n:Int}:0<=(pk c n).2:=by unfold pk;split;{exact aes _};{split;{exact ahL _ (by omega)};{exact ahL _ (by omega)}}
theorem Vk(c:cF)(n:Int):∃j,j<=2/\(pk c n).1=N j c:=by unfold pk;split;{exact⟨0,by omega,rfl⟩};{split;{exact⟨2,by omega,rfl⟩};{exact⟨1,by omega,rfl⟩}}
theorem uj{c:cF}{n:Nat}(h:At c n)(hn:n<=1000000000)(m:Int):To (dD c m) (λr=>At r.1 (n+2)/\0<=r.2/\(0<m->r.2<m)):=by have h1:=h.le;have h0:=h.ok.WM;refine⟨_,U0 h.ok (by omega) m,?_,U6,λhm=>(Qz hm).2⟩;obtain⟨j,a,e⟩:=Vk c m;rw[e];exact⟨Yw h.ok (by omega),by rw[UA];omega⟩
theorem Ub{c:cF}{n:Nat}(h:At c n)(hn:n<=1000000000)(m:Int):To (nX c m) (λr=>At r.1 (n+2)):=by unfold nX;exact(uj h hn m).bind λr a=>.ret a.1
end Sh
