/-
  The kinds of expressions by the document, over trees (the library Vx); used by the theorem at the end of the claim.
  Conditions: as each theorem states them.
-/
import Derived.Test.YtegbonbgofjlcaaGreatMAJ
import Derived.Test.YtegbonbgofjlcaaGreatMAF
set_option maxHeartbeats 8000000
namespace Go.Proofs.YtegbonbgofjlcaaGreat.R
open Go Go.Vx Go.Proofs.Tryz
set_option maxRecDepth 100000
variable{i:Nat}{n:Nat}{e:Int}{I:St}{x:Nat}{g:Tag}
def iH:alW->Nat->Nat->Nat×Nat×Int |[],_,_=>(0,0,2)|c::rest,i,v=>if i=9/\1<c.toNat then(0,0,5)else if c.toNat<128then(if c.toNat=0/\0<i then(0,0,9)else(v+c.toNat%128*128^i,i+1,0))else iH rest (i+1) (v+c.toNat%128*128^i)
def Hx(r:Nat×Nat×Int):V:=.cC [.int .u64 r.1,.int .i64 r.2.1,.int .i64 r.2.2]
theorem xf4:((List.range 256).all λm=>jF .andNot .u8 (m:Int) 128==((m%128:Nat):Int))=true:=by decide+kernel
theorem xK7(c:UInt8):jF .andNot .u8 (c.toNat:Int) 128=((c.toNat%128:Nat):Int):=by have h:=Am.1 xf4 c.toNat (Cs.2 c.toNat_lt);exact beq_iff_eq.1 h
theorem wC2{m:Nat}(hm:m<18446744073709551616)(hn:n<18446744073709551616)(ho:m|||n<18446744073709551616):jF .or .u64 (m:Int) (n:Int)=((m|||n:Nat):Int):=by show IntKind.u64.wrap ((BitVec.ofInt 64 (m:Int)|||BitVec.ofInt 64 (n:Int)).toNat:Int)=_;rw[alz,alz,BitVec.toNat_or,alC,alC,Ce om,Ce om];exact dp om om
theorem U1(i:Nat):128^i=2^(7*i):=by rw[Nat.pow_mul]
theorem Jw{v:Nat}(hv:v<128^i):v|||(x*128^i)=v+x*128^i:=by rw[U1]at*;have:=Nat.shiftLeft_add_eq_or_of_lt hv x;rw[Nat.shiftLeft_eq]at this;rw[Nat.or_comm,<-this,E6]
theorem P6{v:Nat}(hv:v<128^i)(hx:x<128):v+x*128^i<128^(i+1):=by have:(x+1)*128^i<=128*128^i:=Ak _ om;rw[E8];rw[B5]at this;omega
theorem U3{v:Nat}(hv:v<128^i)(hx:x<128)(h9:i<=8\/i=9/\x<=1):v+x*128^i<18446744073709551616/\x*128^i<18446744073709551616:=by
 rcases h9 with h|⟨rfl,h⟩;.have h1:=P6 hv hx;have h2:128^(i+1)<=128^9:=Nat.pow_le_pow_right om om;omega
 .have:x=0\/x=1:=om;rcases this with rfl|rfl<;>omega
theorem Mr{b:alW}(h:i<(zU b).length):(zU b)[i]=[.int .u8 (b[i]'(by rw[zW]at h;exact h)).toNat]:=by simp[zU]
theorem P7(b:alW)(ai:b.length<=cN):Pure prog 248 [fc b] (Hx (iH b 0 0)):=by
 refine iV 0 func248 ntmps248 results248 λc hc hb=>?_;refine zA ?_;simp[go_sem,fc,zW];refine zG (S:=Nat×Nat) [2,7,8,9] (λu=>[.int .u64 u.2,fc b,.int .i64 b.length,.int .i64 u.1]) (λ_=>[]) (λu=>b.length-u.1) (λu=>u.1<=b.length/\u.1<=9/\u.2<128^u.1/\iH (b.drop u.1) u.1 u.2=iH b 0 0) hc hb (0,0) ⟨A5 _,A5 _,dC,rfl⟩ ?_ ?_;.exact gC rfl (zR (by simp[go_sem,fc]) rfl)
 rintro⟨i,v⟩⟨hi,h9,hv,ht⟩;simp only at hi h9 hv ht;refine zA ?_;simp[go_sem,fc];refine zX (λq=>?_) (λq=>?_)
 .have q:i<b.length:=sU q;obtain⟨c0,ae⟩:∃c,b[i]=c:=⟨_,rfl⟩;rw[A4 q,ae,iH]at ht;have al:c0.toNat<256:=c0.toNat_lt;have ei:IntKind.i64.wrap ((i:Int)+1)=((i+1:Nat):Int):=zO q (by unfold cN at ai;omega);have ret:∀(r:Nat×Nat×Int)(I:St),r=iH b 0 0->cz (some (Hx r)) 0 (λr s=>r=Hx (iH b 0 0)/\s=[]) I:=λr I h=>by subst h;exact wR
  by_cases hA:i=9/\1<c0.toNat
  .rw[alq hA]at ht;simp[go_sem,zW,q,Mr,ae];have f1:((i:Int)==9)=true:=by simp;omega
   refine xG (λw=>?_) (λw=>absurd (f1.symm.trans w) dC);simp[go_sem,w];refine zX (λw2=>?_) (λw2=>absurd w2 (by simp;omega));simp[go_sem];exact ret (0,0,5) _ ht
  rw[alp hA]at ht;have aj:i<=8\/i=9/\c0.toNat%128<=1:=by
   by_cases h:i=9;.exact .inr ⟨h,by have:¬1<c0.toNat:=λw=>hA ⟨h,w⟩;omega⟩
   .exact .inl om
  have hx:c0.toNat%128<128:=Cw _ om;have n12:=U3 hv hx aj;have fA:i=9->¬1<c0.toNat:=λh w=>hA ⟨h,w⟩;have a1:=xK7 c0;have e1:IntKind.i64.wrap (7*(i:Int))=7*(i:Int):=bX om om;have e2:IntKind.u64.wrap (7*(i:Int))=7*(i:Int):=dp om om;have e3:IntKind.u64.wrap ((c0.toNat:Int)%128)=(c0.toNat:Int)%128:=dp om om;obtain⟨x,ad⟩:∃x:Nat,x=c0.toNat%128*128^i:=⟨_,rfl⟩;obtain⟨m,af⟩:∃m:Nat,m=v+x:=⟨_,rfl⟩;have ah:m<128^(i+1):=by rw[af,ad];exact P6 hv hx
  have ak:v|||x=m:=by rw[af,ad];exact Jw hv
  rw[<-ad,<-af]at ht n12;have e4:IntKind.u64.wrap ((c0.toNat:Int)%128*2^min (7*(i:Int)).toNat 64)=(x:Int):=by
   have:min (7*(i:Int)).toNat 64=7*i:=om;rw[this];have h3:(c0.toNat:Int)%128*2^(7*i)=(x:Int):=by rw[ad,U1];simp
   rw[h3,dp om om]
  have e5:jF .or .u64 (v:Int) (x:Int)=(m:Int):=by rw[wC2 om om om,ak]
  simp[go_sem,zW,q,Mr,ae];refine xG (λw=>?_) (λw=>?_)
  .have w9:i=9:=by simp at w;omega
   have w1:=fA w9;simp[go_sem,w];refine zX (λw2=>absurd w2 (by simp;omega)) (λw2=>?_);simp[go_sem,a1,e1,e2,e3,e4];try(refine zJ om ?_;simp[go_sem,e5])
   refine zX (λw3=>?_) (λw3=>?_)
   .have w4:¬c0.toNat<128:=by have:=alA w3;omega
    have i8:i+1<=9:=om;rw[alp w4]at ht;simp[go_sem,ei];exact zH (i+1,m) ⟨by simp only;omega,⟨q,i8,ah,ht⟩,gC rfl (zR (by simp[go_sem]) rfl)⟩
   .have w4:c0.toNat<128:=by have:=alE w3;omega
    rw[alq w4]at ht;simp[go_sem];refine xG (λw5=>?_) (λw5=>?_)
    .have aa:c0.toNat=0:=by simp at w5;omega
     simp[go_sem,w5];refine zX (λw6=>?_) (λw6=>?_);.have ab:0<i:=sU w6;rw[alq ⟨aa,ab⟩]at ht;simp[go_sem];exact ret (0,0,9) _ ht
     .have ab:¬0<i:=sU w6;rw[alp (λh=>ab h.2)]at ht;simp[go_sem,ei];exact ret (m,i+1,0) _ ht
    .have aa:¬c0.toNat=0:=by simp at w5;omega
     rw[alp (λh=>aa h.1)]at ht;simp[go_sem,w5,ei];exact ret (m,i+1,0) _ ht
  .have w9:¬i=9:=by simp at w;omega
   simp[go_sem,w,a1,e1,e2,e3,e4];try(refine zJ om ?_;simp[go_sem,e5])
   refine zX (λw3=>?_) (λw3=>?_)
   .have w4:¬c0.toNat<128:=by have:=alA w3;omega
    have i8:i+1<=9:=om;rw[alp w4]at ht;simp[go_sem,ei];exact zH (i+1,m) ⟨by simp only;omega,⟨q,i8,ah,ht⟩,gC rfl (zR (by simp[go_sem]) rfl)⟩
   .have w4:c0.toNat<128:=by have:=alE w3;omega
    rw[alq w4]at ht;simp[go_sem];refine xG (λw5=>?_) (λw5=>?_)
    .have aa:c0.toNat=0:=by simp at w5;omega
     simp[go_sem,w5];refine zX (λw6=>?_) (λw6=>?_);.have ab:0<i:=sU w6;rw[alq ⟨aa,ab⟩]at ht;simp[go_sem];exact ret (0,0,9) _ ht
     .have ab:¬0<i:=sU w6;rw[alp (λh=>ab h.2)]at ht;simp[go_sem,ei];exact ret (m,i+1,0) _ ht
    .have aa:¬c0.toNat=0:=by simp at w5;omega
     rw[alp (λh=>aa h.1)]at ht;simp[go_sem,w5,ei];exact ret (m,i+1,0) _ ht
 .have q:i=b.length:=by have:¬i<b.length:=sU q;omega
  subst q;rw[Cn,iH]at ht;simp[go_sem];rw[<-ht];exact wR
theorem Hy:∀(l:alW)(i v:Nat),(iH l i v).2.2=0->(iH l i v).2.1<=i+l.length
 |[],i,v,h=>by simp[iH]at h|c::rest,i,v,h=>by
  unfold iH at h⊢;split;.simp_all
  .rename_i h1;rw[alp h1]at h;split
   .rename_i h2;rw[alq h2]at h;split;.rename_i h3;rw[alq h3]at h;simp at h
    .simp
   .rename_i h2;rw[alp h2]at h;have:=Hy rest (i+1) _ h;simp only[Ah];omega
def wY(b:alW)(r:Nat×Nat×Int):alW×Nat×Int:=if r.2.2≠0then([],0,r.2.2)else if 1048576<r.1then([],0,3)else if b.length-r.2.1<r.1then([],0,2)else((b.take (r.2.1+r.1)).drop r.2.1,r.2.1+r.1,0)
def uR(b:alW):alW×Nat×Int:=wY b (iH b 0 0)
def Ms(r:alW×Nat×Int):V:=.cC [fc r.1,.int .i64 r.2.1,.int .i64 r.2.2]
theorem Mt{r:alW×Nat×Int}{rows:List (List V)}(h1:zU r.1=rows)(h2:r.2.1=n)(h3:r.2.2=e):cz (some (.cC [.sl g rows,.int .i64 n,.int .i64 e])) 0 (λv s=>v=Ms r/\s=[]) I:=by subst h1 h2 h3;have h:cW (cO [] I.length) (Ms r) (.cC [.sl g (zU r.1),.int .i64 r.2.1,.int .i64 r.2.2]):=yO ⟨rP,xD rfl,xD rfl,tV⟩;exact zQ h ⟨rfl,rfl⟩
theorem xf3(b:alW)(ab:b.length<=cN):Pure prog 323 [fc b] (Ms (uR b)):=by
 have hle:=Hy b 0 0;have aa:=P7 b ab;unfold uR;revert hle aa;generalize iH b 0 0=r;obtain⟨n,k,e⟩:=r;intro hle aa;simp only at hle;refine iW 0 func323 ntmps323 results323 λc hc hb=>zM ?_;simp[go_sem];refine pC aa ?_;simp[go_sem,Hx];refine zX (λh=>?_) (λh=>?_);.have h:e≠0:=sU h;simp[go_sem];exact Mt (by simp[wY,h,zU]) (by simp[wY,h]) (by simp[wY,h])
 have h:e=0:=sU h;have hk:=hle h;have e1:IntKind.i64.wrap ((b.length:Int)-(k:Int))=((b.length-k:Nat):Int):=by rw[bX (by unfold cN at*;omega) (by unfold cN at*;omega)];omega
 have e2:IntKind.u64.wrap ((b.length-k:Nat):Int)=((b.length-k:Nat):Int):=dp om (by unfold cN at*;omega);simp[go_sem];refine zX (λh2=>?_) (λh2=>?_)
 .have h2:1048576<n:=by have:=alA h2;omega
  simp[go_sem];exact Mt (by simp[wY,h,h2,zU]) (by simp[wY,h,h2]) (by simp[wY,h,h2])
 have h2:¬1048576<n:=by have:=alE h2;omega
 simp[go_sem,fc,zW,e1,e2];refine zX (λh3=>?_) (λh3=>?_)
 .have h3:b.length-k<n:=by have:=alA h3;omega
  simp[go_sem];exact Mt (by simp[wY,h,h2,h3,zU]) (by simp[wY,h,h2,h3]) (by simp[wY,h,h2,h3])
 have h3:¬b.length-k<n:=by have:=alE h3;omega
 have e3:IntKind.i64.wrap (n:Int)=(n:Int):=bX om om;have e4:IntKind.i64.wrap ((k:Int)+(n:Int))=((k+n:Nat):Int):=by rw[bX (by unfold cN at*;omega) (by unfold cN at*;omega)];omega
 simp[go_sem,zW,e3,e4];refine zJ ⟨om,om,sk b⟩ ?_;have e5:((k:Int)+(n:Int)).toNat=k+n:=om;have hlen:((b.take (k+n)).drop k).length<=cN:=by simp;omega
 simp[go_sem,e5];refine DA (P1 ((b.take (k+n)).drop k) 0 hlen dC) cB ⟨wX (by simp[zU,List.map_take]),zC rfl,tV⟩ ?_;rintro r s ⟨rfl,rfl⟩;simp[go_sem,ib,gL];exact Mt (by simp[wY,h,h2,h3]) (by simp[wY,h,h2,h3]) (by simp[wY,h,h2,h3])
def lu(u:Nat):Int:=if u%2=0then((u/2:Nat):Int)else-((u/2:Nat):Int)-1
structure jP where
 v:bK
 n:Nat
 e:Int
def jP.V(r:jP):V:=.cC [.agg r.v.row,.int .i64 r.n,.int .i64 r.e]
def v0:bK:=⟨0,0,[]⟩
def wv(b:alW):jP:=if b.length<2then⟨v0,0,2⟩else if 1<(b.getD 1 0).toNat then⟨v0,0,9⟩else⟨⟨1,(b.getD 1 0).toNat,[]⟩,2,0⟩
theorem tG{r:jP}{k m:Int}{s:alW}(h:r=⟨⟨k,m,s⟩,n,e⟩):cz (some (.cC [.agg [.int .i64 k,.int .i64 m,.str s],.int .i64 n,.int .i64 e])) 0 (λv s=>v=r.V/\s=[]) I:=by subst h;exact wR
theorem xn6(b:alW)(_:b.length<=cN):Pure prog 321 [fc b] (wv b).V:=by
 refine iW 0 func321 ntmps321 results321 λc hc hb=>zM ?_;simp[go_sem,fc,zW];refine zX (λh=>?_) (λh=>?_)
 .have h:b.length<2:=by have:=alA h;omega
  simp[go_sem];exact tG (n:=0) (by simp[wv,h,v0])
 have h:¬b.length<2:=by have:=alE h;omega
 have h1:1<b.length:=om;obtain⟨c0,aa⟩:∃c,b[1]=c:=⟨_,rfl⟩;have ab:b.getD 1 0=c0:=by rw[Aj,A0 h1,aa];rfl
 have e1:IntKind.i64.wrap (c0.toNat:Int)=(c0.toNat:Int):=bX om (by have:=c0.toNat_lt;omega);simp[go_sem,zW,h1,Mr,aa];refine zJ om ?_;simp[go_sem];refine zX (λh2=>?_) (λh2=>?_)
 .have h2:1<c0.toNat:=by have:=alA h2;omega
  simp[go_sem];exact tG (n:=0) (by simp only[wv,ab];rw[alp h,alq h2];rfl)
 .have h2:¬1<c0.toNat:=by have:=alE h2;omega
  simp[go_sem,zW,h1,Mr,aa];refine zJ om ?_;simp[go_sem,e1];exact tG (n:=2) (by simp only[wv,ab];rw[alp h,alp h2])
theorem wC7{x:Int}(h:0<=x)(h2:x<=9223372036854775807):jF .xor .i64 x 0=x:=by obtain⟨m,rfl⟩:=Dz h;show IntKind.i64.wrap ((BitVec.ofInt 64 (m:Int)^^^BitVec.ofInt 64 0).toNat:Int)=m;have e:BitVec.ofInt 64 (0:Int)=0#64:=rfl;rw[e,BitVec.xor_zero,alz,alC,Ce om];exact bX om om
theorem wC8{x:Int}(h:0<=x)(h2:x<=9223372036854775807):jF .xor .i64 x (-1)=-x-1:=by
 obtain⟨m,rfl⟩:=Dz h;show IntKind.i64.wrap ((BitVec.ofInt 64 (m:Int)^^^BitVec.ofInt 64 (-1)).toNat:Int)=_;have e:BitVec.ofInt 64 (-1:Int)=BitVec.allOnes 64:=by decide+kernel
 rw[e,BitVec.xor_allOnes,alz,BitVec.toNat_not,alC,Ce om];rw[IntKind.wrap_i64];omega
theorem wD9{m:Nat}(h:m<18446744073709551616):jF .and .u64 (m:Int) 1=(m:Int)%2:=by show IntKind.u64.wrap ((BitVec.ofInt 64 (m:Int)&&&BitVec.ofInt 64 1).toNat:Int)=_;have e:BitVec.ofInt 64 (1:Int)=1#64:=rfl;rw[e,alz,BitVec.toNat_and,alC,Ce om];have e2:m&&&(1#64).toNat=m%2:=Nat.and_one_is_mod m;rw[e2,dp om om];omega
theorem wD7(u:Nat)(hu:u<18446744073709551616):Pure prog 322 [.int .u64 u] (.int .i64 (lu u)):=by
 have e0:=wD9 hu;have e1:(u:Int).fdiv 2=(u:Int)/2:=Dt _ om;have e3:IntKind.i64.wrap ((u:Int)/2)=(u:Int)/2:=bX om om;have e4:IntKind.i64.wrap ((u:Int)%2)=(u:Int)%2:=bX om om;have e5:IntKind.i64.wrap (-((u:Int)%2))=-((u:Int)%2):=bX om om;have e6:jF .xor .i64 ((u:Int)/2) (-((u:Int)%2))=lu u:=by
  unfold lu;by_cases h:u%2=0;.rw[alq h,show-((u:Int)%2)=0 by omega,wC7 om om];omega
  .rw[alp h,show-((u:Int)%2)=-1by omega,wC8 om om];omega
 refine iW 0 func322 ntmps322 results322 λc hc hb=>zM ?_;simp[go_sem,e0,e1,e3,e4,e5,e6];exact wR
theorem Mu:∀(l:alW)(i v:Nat),v<128^i->i<=9->(iH l i v).1<18446744073709551616
 |[],i,v,_,_=>by simp[iH]|c::rest,i,v,hv,h9=>by
  have hc:=c.toNat_lt;unfold iH;split;.simp
  .rename_i h1;have aa:i<=8\/i=9/\c.toNat%128<=1:=by
    by_cases h:i=9;.exact .inr ⟨h,by have:¬1<c.toNat:=λw=>h1 ⟨h,w⟩;omega⟩
    .exact .inl om
   have hx:c.toNat%128<128:=Cw _ om;have n12:=U3 hv hx aa;split
   .split;.simp
    .exact n12.1
   .rename_i h2;refine Mu rest (i+1) _ (P6 hv hx) ?_;rcases aa with h|h;.omega
    .exfalso;have:¬1<c.toNat:=λw=>h1 ⟨h.1,w⟩;omega
def p5(k:Nat)(tb:jP)(r:Nat×Nat×Int)(t:alW×Nat×Int):jP:=if k=0then⟨v0,1,0⟩else if k=1then tb else if k=2then(if r.2.2≠0then⟨v0,0,r.2.2⟩else⟨⟨2,lu r.1,[]⟩,1+r.2.1,0⟩)else if k=3then(if t.2.2≠0then⟨v0,0,t.2.2⟩else if 64<t.1.length then⟨v0,0,3⟩else⟨⟨3,0,t.1⟩,1+t.2.1,0⟩)else⟨v0,0,9⟩
def mg:alW->jP|[]=>⟨v0,0,2⟩|c::rest=>p5 c.toNat (wv (c::rest)) (iH rest 0 0) (uR rest)
theorem U4(b:alW):(uR b).2.1<=b.length/\((uR b).2.2=0->(uR b).1.length<=b.length):=by
 have hle:=Hy b 0 0;unfold uR wY;revert hle;generalize iH b 0 0=r;obtain⟨n,k,e⟩:=r;intro hle;simp only at hle⊢;split;.simp
 .rename_i h;have h:e=0:=Decidable.not_not.1 h;have hk:=hle h;split;.simp
  .split;.simp
   .refine⟨?_,λ_=>?_⟩;.simp only;omega
    .simp;omega
theorem wv6(b:alW)(ai:b.length<=cN):Pure prog 249 [fc b] (mg b).V:=by cases b with |nil=>refine iW 0 func249 ntmps249 results249 λc hc hb=>zM ?_;simp[go_sem,fc,zU];exact tG (n:=0) rfl|cons c0 rest=>
  have hc:=c0.toNat_lt;have hr:rest.length<=cN:=by simp only[Ah]at ai;omega
  have ab:=Mu rest 0 0 dC dC;have hle:=Hy rest 0 0;have ad:=P7 rest hr;have ae:=xf3 rest hr;have af:=U4 rest;have ah:=xn6 (c0::rest) ai;have e1:IntKind.i64.wrap (c0.toNat:Int)=(c0.toNat:Int):=bX om om;have aa:zU (c0::rest)=[.int .u8 c0.toNat]::zU rest:=rfl;rw[mg];revert ab hle ad ae ah af;generalize iH rest 0 0=r;generalize uR rest=t;generalize wv (c0::rest)=tb;obtain⟨n,k,e⟩:=r;obtain⟨tx,tk,te⟩:=t;obtain⟨⟨bk,bn,bs⟩,bm,be⟩:=tb;obtain⟨q,hq⟩:=eX c0.toNat;intro ab hle ad ae af ah;simp only at ab hle af;rw[hq]at hc e1 aa⊢;have e2:e=0->IntKind.i64.wrap (1+(k:Int))=((1+k:Nat):Int):=λh=>by have:=hle h;rw[bX om (by unfold cN at*;omega)];omega
  have e3:IntKind.i64.wrap (1+(tk:Int))=((1+tk:Nat):Int):=by rw[bX om (by unfold cN at*;omega)];omega
  have e4:(zU rest).take rest.length=zU rest:=Ad (by rw[zW];omega);have hu:eU 1 ([V.int .u8 (q:Int)]::zU rest):=aa▸sk (c0::rest);refine iW 0 func249 ntmps249 results249 λc hc hb=>zM ?_;simp[go_sem,fc,aa,zW];refine zX (λw=>absurd w (by simp;omega)) (λw=>?_);simp[go_sem,zW,e1];refine zX (λw1=>?_) (λw1=>?_)
  .have w1:q=0:=by simp at w1;omega
   simp[go_sem];exact tG (n:=1) (by simp[p5,w1,v0])
  have w1:¬q=0:=by simp at w1;omega
  simp[go_sem];refine zX (λw2=>?_) (λw2=>?_)
  .have w2:q=1:=by simp at w2;omega
   simp[go_sem];refine zL ah cB (zR (by simp[fc,aa]) rfl) rfl ?_;simp[go_sem,jP.V];exact tG (n:=bm) (by simp[p5,w2])
  have w2:¬q=1:=by simp at w2;omega
  simp[go_sem];refine zX (λw3=>?_) (λw3=>?_)
  .have w3:q=2:=by simp at w3;omega
   simp[go_sem,zW];refine zJ ⟨om,hu⟩ ?_;simp[go_sem,e4];refine pC ad ?_;simp[go_sem,Hx];refine zX (λw4=>?_) (λw4=>?_);.have w4:e≠0:=sU w4;simp[go_sem];exact tG (n:=0) (by simp[p5,w3,w4,v0])
   have w4:e=0:=sU w4;have e5:=e2 w4;simp[go_sem];refine pC (wD7 n ab) ?_;simp[go_sem,e5];exact tG (n:=1+k) (by simp[p5,w3,w4])
  have w3:¬q=2:=by simp at w3;omega
  simp[go_sem];refine zX (λw4=>?_) (λw4=>?_)
  .have w4:q=3:=by simp at w4;omega
   simp[go_sem,zW];refine zJ ⟨om,hu⟩ ?_;simp[go_sem,e4];refine pC ae ?_;simp[go_sem,Ms,fc];refine zX (λw5=>?_) (λw5=>?_);.have w5:te≠0:=sU w5;simp[go_sem];exact tG (n:=0) (by simp[p5,w4,w5,v0])
   have w5:te=0:=sU w5;simp[go_sem,zW];refine zX (λw6=>?_) (λw6=>?_)
   .have w6:64<tx.length:=by have:=alA w6;omega
    simp[go_sem];exact tG (n:=0) (by simp[p5,w4,w5,w6,v0])
   have w6:¬64<tx.length:=by have:=alE w6;omega
   simp[go_sem];refine zJ (xX _) ?_;simp[go_sem,e3,Gk];exact tG (n:=1+tk) (by simp[p5,w4,w5,w6])
  have w4:¬q=3:=by simp at w4;omega
  simp[go_sem];exact tG (n:=0) (by simp[p5,w1,w2,w3,w4,v0])
theorem jM(aa gh:List (List V))(t:Int):Pure prog 247 [.agg [.sl .ro aa,.sl .ro gh],.int .i64 t] (.bool (decide (0<=t)&&decide (t<gh.length))):=by
 refine iW 0 func247 ntmps247 results247 λc hc hb=>zM ?_;simp[go_sem];repeat'(first|(refine xG (λq=>?_) (λq=>?_)<;>simp[go_sem,q])|(refine zX (λq=>?_) (λq=>?_)<;>simp[go_sem,q]))
 all_goals exact zQ (zC rfl) ⟨by simp_all,rfl⟩
theorem wc1(b:alW):(mg b).e=0->(mg b).n<=b.length:=by cases b<;>grind[mg,Hy,U4,p5,wv]
def iQ:Nat->alW->Option (List bK) |0,b=>if b=[]then some []else none|n+1,b=>if(mg b).e=0then(iQ n (b.drop (mg b).n)).map ((mg b).v::·)else none
def uS(o:Option (List bK)):List bK×Int:=match o with|some l=>(l,0)|none=>([],9)
def kj(nc:Nat)(data:alW):List bK×Int:=if(iH data 0 0).2.2=0/\(iH data 0 0).1=nc then uS (iQ nc (data.drop (iH data 0 0).2.1))else([],9)
def eM(ts:List bL)(table:Int)(data:alW):List bK×Int:=if h:0<=table/\table<ts.length then kj (ts[table.toNat]'om).cw.length data else([],1)
theorem yE3(b:alW)(k:Nat):List.drop k (List.take b.length (zU b))=zU (b.drop k):=by simp[Ad,zU]
def eG(r:List bK×Int):V:=.cC [.sl .ro (r.1.map bK.row),.int .i64 r.2]
theorem U5{r:List bK×Int}{l:List bK}(h:r=(l,e)):cz (some (.cC [.sl g (l.map bK.row),.int .i64 e])) 0 (λv s=>v=eG r/\s=[]) I:=by subst h;exact zQ (r:=eG (l,e)) (yO (iA:=[.sl .ro (l.map bK.row),.int .i64 e]) ⟨rP,xD rfl,tV⟩) sM
theorem Mw{r:List bK×Int}(h:r=([],e)):cz (some (.cC [.sl g [],.int .i64 e])) 0 (λv s=>v=eG r/\s=[]) I:=U5 (l:=[]) h
theorem U6(ab:List (List V))(ts:List bL)(table:Int)(data:alW)(hd:data.length<=cN)(al:∀t∈ts,t.cw.length<=cN):Pure prog 172 [.agg [.sl .ro ab,.sl .ro (ts.map bL.row)],.int .i64 table,.str data] (eG (eM ts table data)):=by
 have af:=Mu data 0 0 dC dC;have hle:=Hy data 0 0;have ah:=P7 data hd;by_cases ht:0<=table/\table<ts.length
 .obtain⟨j,rfl⟩:∃j:Nat,table=j:=⟨table.toNat,om⟩;have hj:j<ts.length:=om;obtain⟨t,ak⟩:=eX (ts[j]);have an:=al t (ak▸A9 hj);have hF:eM ts j data=kj t.cw.length data:=by simp_all[eM]
  rw[hF];unfold kj;revert af hle ah;generalize iH data 0 0=r;obtain⟨n,k,e⟩:=r;intro af hle ah;simp only at af hle⊢;obtain⟨nc,ae⟩:=eX t.cw.length;rw[ae]at an⊢;have eu:IntKind.u64.wrap (nc:Int)=nc:=dp om (by grind);refine iV 0 func172 ntmps172 results172 λc hc hb=>?_;refine zA ?_;simp[go_sem];refine pC (jM ab (ts.map bL.row) j) ?_;simp[go_sem,hj];refine zL ah cB (zR (by rfl) rfl) rfl ?_;simp[go_sem,Hx];have bad:∀I:St,¬(e=0/\n=nc)->cz (some (.cC [.sl .full [],.int .i64 9])) 0 (λv s=>v=eG (if e=0/\n=nc then uS (iQ nc (data.drop k))else([],9))/\s=[]) I:=λI h=>Mw (by grind);refine xG (λai=>?_) (λai=>?_)
  .have q1:e=0:=by grind
   simp[go_sem,ai,hj,ak,ae,eu];refine zX (λq2=>?_) (λq2=>?_)
   .have q2:¬n=nc:=by grind
    simp[go_sem];exact bad _ om
   have q2:n=nc:=by grind
   have hk:=hle q1;rw[alq ⟨q1,q2⟩];simp[go_sem];refine wQ 12 3 dC rfl ?_;refine zG (S:=Nat×Nat×List bK) [8,10,12,42,43] (λu=>[fc data,.int .i64 u.2.1,.sl (.app 1) (u.2.2.map bK.row),.int .u64 nc,.int .u64 u.1]) (λu=>[.box [.sl .ro ab,.sl .ro (ts.map bL.row)],.app u.2.2.length 3]) (λu=>nc-u.1) (λu=>u.1<=nc/\u.2.1<=data.length/\u.2.2.length=u.1/\(iQ (nc-u.1) (data.drop u.2.1)).map (u.2.2++·)=iQ nc (data.drop k)) hc hb (0,k,[]) (by simp_all) ?_ ?_;.exact bU 2 sM rfl rfl om (zD (by simp[go_sem,fc,zU,q2]) rfl)
   rintro⟨i,at_,l⟩⟨hi,ao,aq,aa⟩;simp only at hi ao aq aa;have ar:data.length-at_<=cN:=om;have aj:=wv6 (data.drop at_) (by simp;omega);have ad:=wc1 (data.drop at_);rw[D9]at ad;refine zA ?_;simp[go_sem];refine zX (λq3=>?_) (λq3=>?_)
   .have q3:i<nc:=by grind
    rw[show nc-i=(nc-i-1)+1by omega,iQ]at aa;revert aj ad aa;generalize mg (data.drop at_)=r;obtain⟨⟨vk,vn,vs⟩,rn,re⟩:=r;intro aa aj ad;simp only at ad aa;simp[go_sem,fc,zW];refine zJ (by grind[sk]) ?_;simp[go_sem];refine zL aj cB (zR (by grind[fc,yE3]) rfl) rfl ?_;simp[go_sem,jP.V];refine zX (λq4=>?_) (λq4=>?_)
    .have q4:¬re=0:=by grind
     rw[alp q4]at aa;simp[go_sem];rw[<-aa];exact Mw rfl
    have q4:re=0:=by grind
    rw[alq q4]at aa;have au:=ad q4;have ea:IntKind.i64.wrap ((at_:Int)+rn)=((at_+rn:Nat):Int):=by rw[bX om (by grind)];omega
    have ei:IntKind.u64.wrap ((i:Int)+1)=((i+1:Nat):Int):=by rw[dp om om];omega
    have av:(l.length+1)*32<=140737488355328:=by grind
    simp[go_sem];refine zJ ⟨om,zZ rfl⟩ ?_;simp[go_sem,ea,ei];refine zH (i+1,at_+rn,l++[⟨vk,vn,vs⟩]) ⟨om,⟨q3,by grind,by grind,?_⟩,bU 2 sM rfl rfl om (zD (by simp[go_sem]) rfl)⟩;rw[<-aa];simp only;rw[show nc-(i+1)=nc-i-1by omega,alQ];cases iQ (nc-i-1) (data.drop (at_+rn))<;>simp
   .have q3:i=nc:=by grind
    subst q3;simp[iQ]at aa;simp[go_sem,fc,zW];refine zX (λq4=>?_) (λq4=>?_)
    .have q4:at_<data.length:=by grind
     rw[alp om]at aa;simp[go_sem];rw[<-aa];exact Mw rfl
    have q4:data.length<=at_:=by grind
    rw[alq q4]at aa;simp[go_sem];rw[<-aa];exact U5 (by rfl)
  .have q1:¬e=0:=by grind
   simp[go_sem,ai];exact bad _ om
 .have hF:eM ts table data=([],1):=by simp_all[eM,dif_neg]
  rw[hF];refine iV 0 func172 ntmps172 results172 λc hc hb=>?_;refine zA ?_;simp[go_sem];refine pC (jM ab (ts.map bL.row) table) ?_;have hn:(decide (0<=table)&&decide (table<((ts.map bL.row).length:Int)))=false:=by grind
  rw[hn];simp[go_sem];exact Mw rfl
def be(v:Nat):Nat->alW |0=>[]|k+1=>UInt8.ofNat (v/256^k)::be v k
theorem zh(v:Nat):∀k,(be v k).length=k|0=>rfl|k+1=>by simp[be,zh v k]
theorem Mx(a b:UInt8)(l m:alW):Op.bytesLess (a::l) (b::m)=if a.toNat<b.toNat then true else if b.toNat<a.toNat then false else Op.bytesLess l m:=by
 rw[Op.bytesLess];simp only[UInt8.lt_iff_toNat_lt];by_cases h1:a.toNat<b.toNat;.grind
 .by_cases h2:b.toNat<a.toNat;.grind
  .have:a=b:=E5.1 om;grind
def nQ:alW->alW|[]=>[]|c::s=>if c=0then 0::255::nQ s else c::nQ s
theorem P8:∀s,(nQ s).length<=2*s.length
 |[]=>by decide|c::s=>by have:=P8 s;unfold nQ;split<;>simp<;>omega
theorem U7:∀a b,nQ (a++b)=nQ a++nQ b
 |[],b=>rfl|c::a,b=>by have:=U7 a b;rw[Bk,nQ,nQ];split<;>simp[this]
def lv(v:bK):alW:=if e9 v=true then UInt8.ofNat v.kind.toNat::(if v.kind=1then[UInt8.ofNat v.n.toNat]else if v.kind=2then be (v.n+9223372036854775808).toNat 8 else if v.kind=3then nQ v.s++[0,1]else[])else[]
theorem U8{v:bK}:(lv v).length<=2*v.s.length+10:=by grind[P8,zh,lv]
theorem wH4(a:Nat)(h:a<2^64):a^^^2^63=(2^63+a)%2^64:=by
 apply Nat.eq_of_testBit_eq;intro j;rw[Nat.testBit_xor,Nat.testBit_two_pow,Nat.testBit_mod_two_pow];rcases Bc j 63with h1|h1|h1;.rw[Nat.testBit_two_pow_add_gt h1];simp[show j<64by omega,show¬63=j by omega]
 .subst h1;rw[Nat.testBit_two_pow_add_eq];simp
 .rw[Nat.testBit_lt_two_pow (Dk h (Nat.pow_le_pow_right dC om))];simp[show¬j<64by omega,show¬63=j by omega]
theorem wm6{n:Int}(h1:-9223372036854775808<=n)(h2:n<=9223372036854775807):jF .xor .u64 (IntKind.u64.wrap n) 9223372036854775808=(((n+9223372036854775808).toNat:Nat):Int):=by
 obtain⟨a,ha,aa⟩:∃a:Nat,IntKind.u64.wrap n=(a:Int)/\(a:Int)=n%18446744073709551616:=by unfold IntKind.wrap;simp[IntKind.bits,IntKind.signed];exact⟨(n%18446744073709551616).toNat,om,om⟩
 have hl:a<2^64:=om;show IntKind.u64.wrap ((BitVec.ofInt 64 (IntKind.u64.wrap n)^^^BitVec.ofInt 64 ((9223372036854775808:Nat):Int)).toNat:Int)=_;rw[ha,alz,alz,BitVec.toNat_xor,alC,alC,Ce hl,show 9223372036854775808%2^64=2^63by decide,wH4 a hl];unfold IntKind.wrap;simp[IntKind.bits,IntKind.signed];omega
theorem wg3(n:Int)(hn:cL n):Pure prog 379 [.int .i64 n] (.int .u64 (n+9223372036854775808).toNat):=by have e:=wm6 hn.1 hn.2;refine iW 0 func379 ntmps379 results379 λc hc hb=>zM ?_;simp[go_sem,e];exact wR
theorem U9(n:Int)(hn:cL n):Pure prog 362 [.int .i64 n] (.int .u64 (n+9223372036854775808).toNat):=by
 unfold cL at hn;refine iW 0 func362 ntmps362 results362 λc hc hb=>zM ?_;simp[go_sem];refine zX (λq=>?_) (λq=>?_)
 .have q:0<=n:=sU q;have e1:IntKind.u64.wrap n=n:=dp om om;have e2:IntKind.u64.wrap (9223372036854775808+n)=((n+9223372036854775808).toNat:Int):=by rw[dp om om];omega
  simp[go_sem,e1,e2];exact wR
 .have q:n<0:=sU q;have e1:IntKind.i64.wrap (n+9223372036854775807)=n+9223372036854775807:=bX om om;have e2:IntKind.i64.wrap (n+9223372036854775807+1)=n+9223372036854775807+1:=bX om om;have e3:IntKind.u64.wrap (n+9223372036854775807+1)=((n+9223372036854775808).toNat:Int):=by rw[dp om om];omega
  simp[go_sem,e1,e2,e3];exact wR
theorem wH0(n:Int):IntKind.u8.wrap n<256:=by unfold IntKind.wrap;simp[IntKind.bits,IntKind.signed];omega
theorem wB6(l:alW)(h:l.all (λc=>decide (c.toNat<=8)))(i:Nat):(l[i]?.getD 0).toNat<=8:=by
 rcases C3 i l.length with q|q;.rw[A0 q];simpa using Am.1 h _ (A9 q)
 .rw[Do q];decide
theorem Va{n:Int}(h0:0<=n)(h:n<=64):∃m:Nat,V.int .i64 n=.int .i64 m/\m<=64:=⟨n.toNat,by congr 1;omega,om⟩
theorem wg0(v:Nat)(_hv:v<18446744073709551616):bN prog 347 [.int .u64 v] [] λr s=>(∃n:Nat,r=.int .i64 n/\n<=64)/\s=[]:=by
 have aa:IntKind.i64.wrap 48=48:=by decide+kernel
 have ab:IntKind.i64.wrap 40=40:=by decide+kernel
 have ad:IntKind.i64.wrap 16=16:=by decide+kernel
 have w8:IntKind.i64.wrap 8=8:=by decide+kernel
 have ae:IntKind.i64.wrap (48+8)=56:=by decide+kernel
 have af:IntKind.i64.wrap (16+8)=24:=by decide+kernel
 refine iW 0 func347 ntmps347 results347 λc hc hb=>zM ?_;simp[go_sem];repeat'(refine zX (λq=>?_) (λq=>?_)<;>simp[go_sem])
 all_goals refine zJ (wH0 _) ?_;generalize hx:UInt8.toNat (Option.getD _ _)=x;have h8:x<=8:=hx▸wB6 _ (by decide+kernel) _;clear hx;have e8:IntKind.i64.wrap (x:Int)=x:=bX om om;simp[go_sem,e8]
 all_goals
  try simp only[aa,ab,ad,w8,ae,af]
  first |exact zQ (zC rfl) ⟨Va om om,rfl⟩|(rw[bX om om];exact zQ (zC rfl) ⟨Va om om,rfl⟩)
theorem wi6(v k:Nat)(_hk:k<=7):IntKind.u8.wrap ((v:Int).fdiv (2^(8*k)))=((UInt8.ofNat (v/256^k)).toNat:Int):=by
 have e:(v:Int).fdiv (2^(8*k))=((v/256^k:Nat):Int):=by rw[Dt _ (by exact Int.le_of_lt (Int.pow_pos dC))];rw[show(2:Int)^(8*k)=((256^k:Nat):Int)by rw[Int.pow_mul];simp];rw[Int.natCast_ediv]
 rw[e,uQ]
theorem wD3(b:alW)(v:Nat)(ab:b.length<=cN)(hv:v<18446744073709551616):Pure prog 378 [fc b,.int .u64 v,.int .i64 8] (.cC [fc (b++be v 8),.int .i64 0]):=by
 refine iV 0 func378 ntmps378 results378 λc hc hb=>?_;refine zA ?_;simp[go_sem,fc];refine wr0 (R:=λr=>∃n:Nat,r=.int .i64 n/\n<=64) (wg0 v hv) cB (yD rfl) (λr h=>by obtain⟨b,rfl,_⟩:=h;rfl) ?_;rintro r ⟨n,rfl,hn⟩;have ad:IntKind.i64.wrap 64=64:=by decide+kernel
 simp[go_sem,ad];refine zX (λq=>absurd q (by simp;omega)) (λq=>?_);simp[go_sem];refine DA (P1 b 8 ab dC) cB (yD rfl) ?_;rintro r s ⟨rfl,rfl⟩;simp[go_sem,ib,gL];have ew:∀k:Nat,k<=8->IntKind.i64.wrap (8*(k:Int)-8)=8*(k:Int)-8:=λk h=>bX om om;have ae:IntKind.i64.wrap (8*IntKind.i64.wrap 7)=56:=by decide+kernel
 refine zG (S:=Nat×alW) [1,8,9] (λu=>[.int .u64 v,ib u.2,.int .i64 (8*(u.1:Int)-8)]) (λu=>gL u.2) (λu=>u.1) (λu=>u.1<=8/\u.2++be v u.1=b++be v 8) hc hb (8,b) ⟨A7 _,rfl⟩ ?_ ?_;.exact bU 1 (by simp[gL]) rfl rfl (A5 _) (zD (by simp[go_sem,ib]) rfl)
 rintro⟨k,out⟩⟨hk,aa⟩;simp only at hk aa;have af:out.length+k=b.length+8:=by have:=alv List.length aa;simpa[zh]using this
 refine zA ?_;simp[go_sem,ib,gL];refine zX (λq=>?_) (λq=>?_)
 .obtain⟨j,rfl⟩:∃j,k=j+1:=⟨k-1,by simp at q;omega⟩;have e1:IntKind.u64.wrap (8*((j+1:Nat):Int)-8)=((8*j:Nat):Int):=by rw[dp om om];omega
  have e2:IntKind.i64.wrap (8*((j+1:Nat):Int)-8-8)=8*(j:Int)-8:=by rw[bX om om];omega
  have e3:=wi6 v j om;simp[go_sem]at e1 e2;simp[go_sem,e1];refine zJ om ?_;have e4:min (8*(j:Int)).toNat 64=8*j:=om;simp[go_sem,e4,e3];refine zJ ⟨zW out,by rw[zW];unfold cN at ab;omega,zZ rfl⟩ ?_;simp[go_sem,e2];rw[be]at aa;refine zH (j,out++[UInt8.ofNat (v/256^j)]) ⟨by simp only;omega,⟨by simp only;omega,by simpa using aa⟩,bU 1 sM rfl rfl (A5 _) (zD (by simp[go_sem,zU]) rfl)⟩
 .have:k=0:=by simp at q;omega
  subst this;rw[show be v 0=[]from rfl,Aw]at aa;simp[go_sem];rw[<-aa];exact zQ (yO (iA:=[fc out,.int .i64 0]) ⟨rP,xD rfl,tV⟩) ⟨rfl,rfl⟩
def ic(v k:Nat):List (List V):=List.replicate (8-k) [.int .u8 0]++zU (be v k)
theorem Vb{v k:Nat}(h:k<=8):(ic v k).length=8:=by simp[ic,zW,zh];omega
theorem Vc{v k:Nat}(h:k+1<=8):(ic v k).set (7-k) [.int .u8 (UInt8.ofNat (v/256^k)).toNat]=ic v (k+1):=by unfold ic;rw[be,show(8-k)=(8-(k+1))+1by omega,List.replicate_succ',Bj,List.set_append_right _ _ sM];rw[show 7-k-(List.replicate (8-(k+1)) [V.int IntKind.u8 0]).length=0 by simp];rfl
def P9(r:List V):Prop:=∃x,r=[.int .u8 x]
theorem Jx(v k:Nat):∀r∈ic v k,P9 r:=λr hr=>by
 unfold ic at hr;rcases Ai.1 hr with h|h;.exact⟨0,(List.mem_replicate.1 h).2⟩
 .obtain⟨x,_,rfl⟩:=Ab.1 h;exact⟨_,rfl⟩
theorem Qa{rows:List (List V)}(h:∀r∈rows,P9 r)(n:Nat):[Ob.cv rows 1].all (bS n)=true:=by simp only[Az,De,Dg,bS,Am];intro r hr;obtain⟨x,rfl⟩:=h r hr;intro y hy;cases hy with |head=>rfl|tail _ h=>cases h
theorem Vd{rows:List (List V)}(h:∀r∈rows,P9 r):xB rows=true:=by simp only[xB,Am];intro r hr;obtain⟨x,rfl⟩:=h r hr;intro y hy;cases hy with |head=>rfl|tail _ h=>cases h
theorem wA5(v:Nat):ic v 8=zU (be v 8):=by simp[ic]
theorem xZ2(v:Nat)(hv:v<18446744073709551616):Pure prog 415 [fc [],.int .u64 v,.int .i64 8] (.cC [fc (be v 8),.int .i64 0]):=by
 refine iV 0 func415 ntmps415 results415 λc hc hb=>?_;refine tg 17 dC ?_;refine zA ?_;simp[go_sem,fc,zU];refine zG (S:=Nat×Nat) [0,1,8,9] (λu=>[fc [],.int .u64 u.2,.cS 0 1 8 0 8,.int .i64 (7-(u.1:Int))]) (λu=>[.cv (ic v u.1) 1]) (λu=>8-u.1) (λu=>u.1<=8/\u.2=v/256^u.1) hc hb (0,v) ⟨A5 _,sM⟩ ?_ ?_;.exact bU 1 (by simp[ic,be,zU]) rfl (Qa (Jx _ _) _) (A5 _) (zD (by simp[go_sem,fc,zU]) rfl)
 rintro⟨k,z⟩⟨hk,hz⟩;simp only at hk hz;have ah:z<=v:=hz▸Nat.div_le_self _ _;have ab:=Vb (v:=v) hk;refine zA ?_;simp[go_sem];refine zX (λq=>?_) (λq=>?_)
 .have q:k+1<=8:=by simp at q;omega
  have e0:((7:Int)-k).toNat=7-k:=om;have e1:IntKind.i64.wrap (7-(k:Int)-1)=7-((k:Int)+1):=by rw[bX om om];omega
  have e2:IntKind.u64.wrap ((z:Int)/256)=((z/256:Nat):Int):=by rw[dp om om];omega
  have e3:IntKind.u8.wrap ((z:Int).tmod 256)=((UInt8.ofNat z).toNat:Int):=by rw[Cp om,show(z:Int)%256=((z%256:Nat):Int)by omega,uQ];simp
  have aa:=Vc (v:=v) q;rw[<-hz]at aa;simp[go_sem];refine zJ ⟨om,om⟩ ?_;have ad:∀h,(ic v k)[7-k]'h=[.int .u8 0]:=λh=>by
   have:(ic v k)[7-k]?=some [.int .u8 0]:=by unfold ic;rw[Ap (by simp;omega),List.getElem?_replicate,alq om]
   exact(A3.1 this).2
  simp at aa;simp[go_sem,ab,show 7-k<8by omega,ad,e1,e2,e3];refine zH (k+1,z/256) ⟨by simp only;omega,⟨q,by rw[hz,E8,Nat.div_div_eq_div_mul]⟩,bU 1 (by simp[aa]) rfl (Qa (Jx _ _) _) (A5 _) (zD (by simp[go_sem,fc,zU]) rfl)⟩
 .have:k=8:=by simp at q;omega
  subst this;have ae:z=0:=by rw[hz];exact Nat.div_eq_of_lt om
  subst ae;simp[go_sem,fc,zU];refine zJ (λr h=>by cases h) ?_;have af:wU (ic v 8) 0 8=zU (be v 8):=by rw[wA5];simp[wU,Ad,zh,zU,lS]
  simp[go_sem,ab,af];refine zJ ⟨Vd λr hr=>Jx v 8 r (B6 hr),by rw[zW,zh];decide,sk _⟩ ?_;simp[go_sem];exact zQ (yO (iA:=[fc (be v 8),.int .i64 0]) ⟨rP,xD rfl,tV⟩) ⟨rfl,rfl⟩
theorem wf9(v:Nat)(hv:v<18446744073709551616):Pure prog 361 [.int .u64 v] (fc (be v 8)):=by refine iW 0 func361 ntmps361 results361 λc hc hb=>zM ?_;simp[go_sem];refine zL (xZ2 v hv) cB ⟨wX rfl,zC rfl,zC rfl,tV⟩ rfl ?_;simp[go_sem];exact wR
theorem xi3{v:bK}(h:e9 v):v.kind=0\/v.kind=1\/v.kind=2\/v.kind=3:=by
 unfold e9 at h;by_cases h0:v.kind=0;.exact .inl h0
 .by_cases h1:v.kind=1;.exact .inr (.inl h1)
  .by_cases h2:v.kind=2;.exact .inr (.inr (.inl h2))
   .by_cases h3:v.kind=3;.exact .inr (.inr (.inr h3))
    .simp[h0,h1,h2,h3]at h
theorem xQ5{s:alW}(h:i<s.length):nQ (s.take (i+1))=nQ (s.take i)++(if s[i]=0then[0,255]else[s[i]]):=by rw[Ac h,U7];simp only[nQ]
theorem wq3{s:Nat}{a b:List V}(h1:a.length=s)(h2:b.length=s):eU s [a,b]:=λr hr=>by simp at hr;rcases hr with rfl|rfl<;>assumption
theorem Ve{v:bK}(h:e9 v):v.s.length<=64:=by
 unfold e9 at h;split at h;.simp at h;rw[h.2];decide
 split at h;.simp at h;rw[h.2];decide
 split at h;.simp at h;rw[h];decide
 split at h;.simp at h;exact h.2
 .cases h
theorem wv4(b:alW)(v:bK)(hv:v.ok)(ad:b.length<=cN-1):Pure prog 324 [fc b,.agg v.row] (fc (b++lv v)):=by
 refine iV 0 func324 ntmps324 results324 λc hc hb=>?_;refine zA ?_;obtain⟨k,n,s⟩:=v;have hn:=hv.n;simp only at hn;simp[go_sem,fc,zW];refine zJ ⟨by unfold cN at*;omega,by simp[eU],sk b⟩ ?_;simp[go_sem];refine pC (Hw ⟨k,n,s⟩) ?_;simp[go_sem];refine zX (λh=>?_) (λh=>?_);.simp[go_sem];refine wu ?_;have h:e9 ⟨k,n,s⟩=false:=sU h;simp[lv,h,zU]
 have h:e9 ⟨k,n,s⟩:=sU h;have hs:s.length<=500:=by have:s.length<=64:=Ve h;omega
 have hk:=xi3 h;simp only at hk;simp[go_sem,zW];refine zJ ⟨by unfold cN at*;omega,zZ rfl⟩ ?_;have w0:IntKind.u8.wrap 0=0:=by decide+kernel
 have w1:IntKind.u8.wrap 1=1:=by decide+kernel
 have w2:IntKind.u8.wrap 2=2:=by decide+kernel
 have w3:IntKind.u8.wrap 3=3:=by decide+kernel
 rcases hk with rfl|rfl|rfl|rfl;.simp[go_sem];refine wu ?_;simp[lv,h,zU,w0]
 .have h1:n=0\/n=1:=by unfold e9 at h;simp at h;exact h.1
  simp[go_sem];refine zJ ⟨zW b,by rw[zW];unfold cN at*;omega,zZ rfl⟩ ?_;simp[go_sem];refine wu ?_;rcases h1 with rfl|rfl<;>simp[lv,h,zU,w0,w1]
 .simp[go_sem];obtain⟨u,hu⟩:=eX ((n+9223372036854775808).toNat);have hO:=wg3 n hn;rw[hu]at hO;refine pC hO ?_;simp[go_sem];refine zL (wD3 (b++[2]) u (by simp;unfold cN at*;omega) om) cB ⟨wX (by simp[zU,w2]),zC rfl,zC rfl,tV⟩ rfl ?_;simp[go_sem];refine wu ?_;simp[lv,h,hu]
 .simp[go_sem];refine zG (S:=Nat) [3,5,44,45] (λi=>[.ptr 0 0,.sl (.app 1) (zU (b++3::nQ (s.take i))),.int .i64 s.length,.int .i64 i]) (λi=>[.box [.int .i64 3,.int .i64 n,.str s],.app (b++3::nQ (s.take i)).length 1]) (λi=>s.length-i) (λi=>i<=s.length) hc hb 0 (A5 _) ?_ ?_;.exact bU 2 (by simp[nQ]) rfl rfl (A5 _) (zD (by simp[go_sem,nQ,zU,w3]) rfl)
  intro i hi;have ae:=P8 (s.take i);have af:(s.take i).length<=s.length:=by simp;omega
  obtain⟨o,ho⟩:∃o,b++3::nQ (s.take i)=o:=⟨_,rfl⟩;have ah:o.length<=cN+1100:=by rw[<-ho];simp;unfold cN at*;omega
  rw[ho];refine zA ?_;simp[go_sem];refine zX (λq=>?_) (λq=>?_)
  .have q:i<s.length:=sU q;have ei:=zO q om;have aa:=xQ5 q;obtain⟨c0,ab⟩:=eX (s[i]);simp[go_sem,q,ab,zW];refine zJ ⟨by unfold cN at*;omega,zZ rfl⟩ ?_;simp[go_sem,q,ab];refine zX (λq2=>?_) (λq2=>?_)
   .have q2:c0=0:=by
     have:c0.toNat=0:=by simp at q2;omega
     exact E5.1 (sU this)
    rw[ab,alq q2]at aa;simp[go_sem,zW];refine zJ ⟨by unfold cN at*;omega,zZ rfl⟩ ?_;simp[go_sem,ei];exact zH (i+1) ⟨om,q,bU 2 (by simp[aa,<-ho];omega) rfl rfl (A5 _) (zD (by simp[go_sem,aa,<-ho,zU,q2]) rfl)⟩
   .have q2:¬c0=0:=λh=>by rw[h]at q2;simp at q2
    rw[ab,alp q2]at aa;simp[go_sem,ei];exact zH (i+1) ⟨om,q,bU 2 (by simp[aa,<-ho];omega) rfl rfl (A5 _) (zD (by simp[go_sem,aa,<-ho,zU]) rfl)⟩
  .have q:i=s.length:=by have:¬i<s.length:=sU q;omega
   subst q;simp[go_sem,zW];refine zJ ⟨by unfold cN at*;omega,wq3 rfl rfl⟩ ?_;simp[go_sem];refine wu ?_;rw[List.take_length]at ho;simp[lv,h,zU,<-ho]
def uT(n:Nat)(t:Int):Bool:=decide (0<=t)&&decide (t<n)
theorem Qb{t:Int}(h:uT n t):∃j:Nat,t=j/\j<n:=by simp[uT]at h;exact⟨t.toNat,om,om⟩
def oz(n:Nat)(t:Int)(v:bK):alW:=if uT n t=true then UInt8.ofNat (t.toNat+1)::lv v else[]
def oA(n:Nat)(t:Int):alW×alW:=if uT n t=true then([UInt8.ofNat (t.toNat+1)],[UInt8.ofNat (t.toNat+2)])else([],[])
theorem Vf(aa gh:List (List V))(t:Int)(v:bK)(hn:gh.length<=cN)(hv:v.ok):Pure prog 251 [.agg [.sl .ro aa,.sl .ro gh],.int .i64 t,.agg v.row] (.str (oz gh.length t v)):=by
 have ab:=jM aa gh t;rw[show(decide (0<=t)&&decide (t<gh.length))=uT gh.length t from rfl]at ab;refine iW 0 func251 ntmps251 results251 λc hc hb=>zM ?_;simp[go_sem];refine pC ab ?_;unfold oz;refine(A6 (uT gh.length t)).elim (λh=>?_) (λh=>?_)
 .obtain⟨j,rfl,hj⟩:=Qb h;rw[h,alq rfl];have e1:IntKind.u8.wrap (IntKind.i64.wrap ((j:Int)+1))=((UInt8.ofNat (j+1)).toNat:Int):=by rw[bX om (by unfold cN at hn;omega),show(j:Int)+1=((j+1:Nat):Int)by omega,uQ]
  simp[go_sem,e1];refine zL (wv4 [UInt8.ofNat (j+1)] v hv (by simp[cN])) cB ⟨wX (by simp[zU]),zC rfl,tV⟩ rfl ?_;simp[go_sem,fc];refine zJ (xX _) ?_;simp[go_sem,Gk];exact wR
 .rw[h];simp[go_sem];exact wR
theorem Vg(aa gh:List (List V))(t:Int)(v:bK)(hn:gh.length<=cN)(hv:v.ok)(_hs:v.s.length<=500):Pure prog 251 [.agg [.sl .ro aa,.sl .ro gh],.int .i64 t,.agg v.row] (.str (oz gh.length t v)):=Vf aa gh t v hn hv
theorem wD0(aa gh:List (List V))(t:Int)(hn:gh.length<=cN):Pure prog 267 [.agg [.sl .ro aa,.sl .ro gh],.int .i64 t] (.cC [.str (oA gh.length t).1,.str (oA gh.length t).2]):=by
 have ab:=jM aa gh t;rw[show(decide (0<=t)&&decide (t<gh.length))=uT gh.length t from rfl]at ab;refine iW 0 func267 ntmps267 results267 λc hc hb=>zM ?_;simp[go_sem];refine pC ab ?_;unfold oA;refine(A6 (uT gh.length t)).elim (λh=>?_) (λh=>?_)
 .obtain⟨j,rfl,hj⟩:=Qb h;rw[h,alq rfl];obtain⟨x,hx⟩:=eX (UInt8.ofNat (j+1));obtain⟨y,hy⟩:=eX (UInt8.ofNat (j+2));have e1:IntKind.u8.wrap (IntKind.i64.wrap ((j:Int)+1))=(x.toNat:Int):=by rw[bX om (by unfold cN at hn;omega),show(j:Int)+1=((j+1:Nat):Int)by omega,uQ,hx]
  have e2:IntKind.u8.wrap (IntKind.i64.wrap ((j:Int)+2))=(y.toNat:Int):=by rw[bX om (by unfold cN at hn;omega),show(j:Int)+2=((j+2:Nat):Int)by omega,uQ,hy]
  simp only;simp[go_sem];refine yA [] 1 rfl kR kR ?_;simp[go_sem,e1];refine zJ (xX [x]) ?_;have r1:vL [V.int IntKind.u8 x.toNat]=x:=by simp[vL]
  have r2:vL [V.int IntKind.u8 y.toNat]=y:=by simp[vL]
  simp[go_sem,e2,r1];refine zJ (xX [y]) ?_;simp[go_sem,r2];exact zQ (zC rfl) ⟨by rw[<-hx,<-hy];simp,rfl⟩
 .rw[h];simp[go_sem];exact wR
end Go.Proofs.YtegbonbgofjlcaaGreat.R
namespace Go.Proofs.YtegbonbgofjlcaaGreat
open Go Go.Vx R Go.Proofs.Tryz
set_option maxRecDepth 100000
theorem Vh(v:bK):(lv v).length<=140:=by
 by_cases h:e9 v=true;.have h1:=U8 (v:=v);have h2:=Ve h;omega
 .unfold lv;rw[alp h];simp
def oB(x y:alW):alW:=if Op.bytesLess x y=true then y else x
def uV(x y:alW):alW:=if Op.bytesLess x y=true\/x=y then x else y
def p6(at_:alW)(sign:alW)(b:alW×alW):alW×alW:=if sign=[61]then(oB b.1 at_,uV b.2 (at_++[0]))else if sign=[60]then(b.1,uV b.2 at_)else if sign=[60,61]then(b.1,uV b.2 (at_++[0]))else if sign=[62]then(oB b.1 (at_++[0]),b.2)else if sign=[62,61]then(oB b.1 at_,b.2)else b
def uW(n:Nat)(t:Int)(name:alW)(l:List bJ)(b:alW×alW):alW×alW:=l.foldl (λb e=>match pn e name with|none=>b|some (s,v)=>p6 (oz n t v) s b) b
def Jy(T:bL):Option alW:=if 0<=T.key then(T.cw[T.key.toNat]?).map (·.name)else none
def oC(ts:List bL)(t:Int)(st:bZ):alW×alW:=if uT ts.length t=true then match(ts[t.toNat]?).bind Jy with |none=>oA ts.length t|some name=>let b:=uW ts.length t name (pj st) (oA ts.length t);(b.1,oB b.2 b.1)else oA ts.length t
def My(b:alW×alW):V:=.cC [.str b.1,.str b.2]
theorem Vi(o:Option (alW×bK)):gY (oy o)=true:=by obtain _|⟨s,v⟩:=o<;>rfl
theorem Vj(aa:List (List V))(ts:List bL)(t:Int)(st:bZ)(hn:ts.length<=cN)(_hc0:∀T∈ts,T.cw.length<=maxLen)(hl:(pj st).length<=maxLen)(hv:∀e∈pj st,∀name s v,pn e name=some (s,v)->v.ok):Pure prog 181 [.agg [.sl .ro aa,.sl .ro (ts.map bL.row)],.int .i64 t,.agg st.row] (My (oC ts t st)):=by
 generalize hM:oC ts t st=M;have ret:∀(r:alW×alW)(I:St),r=M->cz (some (.cC [.str r.1,.str r.2])) 0 (λr s=>r=My M/\s=[]) I:=λr I h=>by subst h;exact wR
 have ab:=wD0 aa (ts.map bL.row) t (sU hn);have ah:=UT st;simp only[Au]at ab;unfold oC at hM;generalize hA:oA ts.length t=A at ab hM;generalize hL:pj st=L at ah hM hl hv;refine iV 0 func181 ntmps181 results181 λc hc hb=>?_;refine zA ?_;simp[go_sem];refine pC ab ?_;simp[go_sem];refine(A6 (uT ts.length t)).elim (λh=>?_) (λh=>?_);rotate_left
 .simp only[h]at hM;have h2:decide (t<0)=true\/(decide (t<0)=false/\decide ((ts.length:Int)<=t)=true):=by unfold uT at h;simp only[Bool.and_eq_false_iff,aly]at h;simp only[alw,aly];omega
  refine h2.elim (λq=>?_) (λq=>?_);all_goals simp[go_sem,q]
  all_goals exact ret _ _ hM
 obtain⟨j,rfl,hj⟩:=Qb h;obtain⟨T,hT⟩:=eX (ts[j]);have ay:decide ((ts.length:Int)<=j)=false:=alr om;have ai:decide ((j:Int)<0)=false:=alr om;simp only[h,alB,Ay,A0 hj,hT,Av]at hM;have aj:decide (ts.length<=j)=false:=alr om;simp[go_sem,ai,aj,hj,hT];by_cases hk:0<=T.key/\T.key<T.cw.length;rotate_left
 .have ad:Jy T=none:=by
   unfold Jy;split;.rw[Do om];rfl
   .rfl
  rw[ad]at hM;have h2:decide (T.key<0)=true\/(decide (T.key<0)=false/\decide ((T.cw.length:Int)<=T.key)=true):=by simp only[alw,aly];omega
  refine h2.elim (λq=>?_) (λq=>?_);all_goals simp[go_sem,q]
  all_goals exact ret _ _ hM
 obtain⟨m,hm⟩:∃m:Nat,T.key=m:=⟨T.key.toNat,om⟩;have ae:m<T.cw.length:=om;obtain⟨C,hC⟩:=eX (T.cw[m]);have ad:Jy T=some C.name:=by unfold Jy;rw[alq om,hm,Ay,A0 ae,hC];rfl
 simp only[ad]at hM;have ak:decide (T.key<0)=false:=alr om;have al:decide ((T.cw.length:Int)<=T.key)=false:=alr om;simp[go_sem,ak,al];refine zL ah cB (zR sg rfl) rfl ?_;simp[go_sem];refine zG (S:=Nat×alW×alW) [1,3,6,7,8,52,53,54] (λu=>[.int .i64 j,.ptr 0 0,.str u.2.1,.str u.2.2,.ptr 1 0,.sl .ro (L.map bJ.row),.int .i64 L.length,.int .i64 u.1]) (λ_=>[.box [.sl .ro aa,.sl .ro (ts.map bL.row)],.box T.row]) (λu=>L.length-u.1) (λu=>u.1<=L.length/\uW ts.length j C.name (L.drop u.1) u.2=uW ts.length j C.name L A) hc hb (0,A) ⟨A5 _,rfl⟩ ?_ ?_
 .exact yu [0,2] dC rfl ⟨by simp[go_sem,yC,du,dv],by simp[go_sem,yC,du,dv],tV⟩ ⟨zC rfl,.inl (by simp[go_sem,dL,dQ,du,dv,cO]),zC rfl,zC rfl,.inl (by simp[go_sem,dL,dQ,du,dv,cO]),zK,zC rfl,zC rfl,tV⟩
 rintro⟨i,b⟩⟨hi,hinv⟩;simp only at hi hinv;by_cases q:i<L.length;rotate_left;.rw[A8 om]at hinv;have an:b=uW ts.length j C.name L A:=hinv;rw[<-an]at hM;refine zA ?_;simp[go_sem,q];exact ret (b.1,oB b.2 b.1) _ hM
 have ei:=zO q (by unfold maxLen at hl;omega);obtain⟨x,hx⟩:=eX (L[i]);have ao:x∈L:=hx▸A9 q;rw[A4 q,hx]at hinv;have aq:=UU x C.name;have ar:=hv x ao C.name;have ax:=bJ.bQ x;refine zA ?_;simp[go_sem,q,hx];refine yA [(8,0),(15,3)] 3 sM kR kR ?_;have au:T.cw[m]?=some C:=by rw[A0 ae,hC]
 simp[go_sem,hm,au];refine zJ ae ?_;simp[go_sem];refine wW aq cB (λ_=>zR sg (by rw[bJ.bQ];rfl)) (Vi _) ?_;cases ha:pn x C.name with |none=>simp only[uW,B7,ha]at hinv;simp[go_sem,oy,Mo,ei];refine zH (i+1,b) ⟨by simp only;omega,⟨by simp only;omega,hinv⟩,?_⟩;exact bU 2 (by simp[go_sem,hm]) rfl (by rfl) (A5 _) (zD sg rfl)|some p=>
  obtain⟨s,v⟩:=p;have av:=ar s v ha;have af:=Vf aa (ts.map bL.row) j v (sU hn) av;simp only[Au]at af;simp only[uW,B7,ha]at hinv;obtain⟨B,hB⟩:=eX (oz ts.length j v);have aw:B.length<=9223372036854775806:=by have:=Vh v;rw[<-hB];unfold oz;rw[alq h];simp only[Ah];omega
  rw[hB]at af;simp[go_sem,oy];refine zL af cB (zR sg rfl) rfl ?_;simp[go_sem];refine zJ aw ?_;simp[go_sem];have fin:∀b',p6 B s b=b'->uW ts.length j C.name (L.drop (i+1)) b'=uW ts.length j C.name L A:=λb' h=>by rw[<-h,<-hB];exact hinv
  repeat'(first|(refine zX (λq=>?_) (λq=>?_)<;>simp[go_sem,q,ei]))
  all_goals simp only[alx,beq_eq_false_iff_ne]at*
  all_goals refine zH (i+1,p6 B s b) ⟨by simp only;omega,⟨by simp only;omega,fin _ rfl⟩,?_⟩
  all_goals refine bU 2 (by simp[go_sem,hm]) rfl (by rfl) (A5 _) (zD ?_ rfl)
  all_goals unfold p6 oB uV
  all_goals simp[go_sem, *]
theorem wx:(Tryz.prog.funcs.all λfn=>!(fn.name=="runtime.NumGoroutine"))=true:=kR
theorem wy:Tryz.prog.follows .mixedOrders=true:=kR
def marks(f:Nat):alX:=if f=318then[7]else[]
def Qc:DB:=⟨[1],[],[0,1],0,0,0⟩
def zi:bL:=⟨[84],[⟨[82],2,false⟩,⟨[75],2,false⟩,⟨[86],3,true⟩,⟨[78],2,true⟩],1,0,0,Qc⟩
def FR:bL:=⟨[71],[⟨[75],3,false⟩,⟨[78],2,false⟩,⟨[66],1,true⟩],0,1,0,Qc⟩
def FT:bL:=⟨[72],[⟨[66],1,false⟩,⟨[78],2,true⟩],0,2,1,Qc⟩
def bO:List bL:= [zi,FR,FT]
def xN:List (List V):=[[.int .i64 0],[.int .i64 0],[.int .i64 1],[.int .i64 1]]
def FU:V:=.agg [.sl .full xN,.sl .full (bO.map bL.row)]
def dW(ts:List bL):V:=.agg [.sl .ro xN,.sl .ro (ts.map bL.row)]
theorem xL9:Pure prog 34 [] FU:=yz wx wy marks 10000 kR
theorem wa6{ρ:Nat->Nat}:cW ρ (dW bO) FU:=xM ⟨zY,zY,tV⟩
def xJ(t r:Int):Int×Int:=if t=0then(if r=0then(0,0)else if r=1then(1,0)else(0,19))else if t=1then(2,0)else if t=2then(3,0)else(0,1)
def FV(p:Int×Int):V:=.cC [.int .i64 p.1,.int .i64 p.2]
theorem Jz(t r:Int)(h:t=0\/t=1\/t=2)(hr:r=-1\/r=0\/r=1\/r=2\/r=3\/r=4):Pure prog 183 [dW bO,.int .i64 t,.int .i64 r] (FV (xJ t r)):=by rcases h with rfl|rfl|rfl<;>rcases hr with rfl|rfl|rfl|rfl|rfl|rfl<;>exact yz wx wy marks 10000 kR
theorem xA6(j:Nat)(hj:j<3):Pure prog 183 [dW (bO.take (j+1)),.int .i64 j,.int .i64 0] (FV (xJ j 0)):=by match j,hj with |0,_=>exact yz wx wy marks 10000 kR|1,_=>exact yz wx wy marks 10000 kR|2,_=>exact yz wx wy marks 10000 kR
def ga(r:Int):Int×Int×Int:=if r=0then(0,0,0)else if r=1then(0,1,0)else if r=2then(1,-1,0)else if r=3then(2,1,0)else(0,0,1)
def Hz(p:Int×Int×Int):V:=.cC [.int .i64 p.1,.int .i64 p.2.1,.int .i64 p.2.2]
theorem wk6:Pure prog 270 [dW bO] (.int .i64 0):=yz wx wy marks 10000 kR
theorem xI0:Pure prog 246 [dW bO] (.sl .ro [[.int .i64 0],[.int .i64 1]]):=bN.Ik (xB6 wx wy marks 10000 (v:=.cS 1 1 4 0 2) (I':=[.box [.sl .ro xN,.sl .ro (bO.map bL.row)],.cv [[.int .i64 0],[.int .i64 1],[.int .i64 0],[.int .i64 0]] 1]) kR) (λr s ⟨h1,h2⟩=>by subst h1;subst h2;exact⟨_,_,.step 1 1 [[.int .i64 0],[.int .i64 1],[.int .i64 0],[.int .i64 0]] rfl rfl (.refl _ _),zK⟩)
def Mz(t:Nat):Int:=if t=0then 2 else 1
theorem Qd(j:Nat)(hj:j<3):Pure prog 245 [dW bO,.agg (bO[j]'hj).row] (.int .i64 (Mz j)):=by match j,hj with|0,_=>exact yz wx wy marks 10000 kR|1,_=>exact yz wx wy marks 10000 kR|2,_=>exact yz wx wy marks 10000 kR
theorem MA{M:Int×Int×Int}{a b e:Int}{I:St}(h:(a,b,e)=M):cz (some (.cC [.int .i64 a,.int .i64 b,.int .i64 e])) 0 (λr s=>r=Hz M/\s=[]) I:=by subst h;exact wR
theorem JA(g:Nat)(hg:g<1000):Pure prog 171 [dW bO,.int .i64 g] (Hz (ga g)):=by
 have ab:=Qd 0 dC;have ad:=Qd 1 dC;have ae:=Qd 2 dC;have hr:=xI0;generalize hM:ga g=M;refine iV 0 func171 ntmps171 results171 λc hc hb=>?_;refine zA ?_;simp[go_sem,dW];have h0:decide ((g:Int)<0)=false:=alr om;simp[go_sem,h0];refine zG (S:=Nat×Nat) [1,2,13,14,15] (λu=>[.int .i64 u.2,.ptr 0 0,.sl .ro (bO.map bL.row),.int .i64 3,.int .i64 u.1]) (λ_=>[.box [.sl .ro xN,.sl .ro (bO.map bL.row)]]) (λu=>3-u.1) (λu=>(u.1=0/\u.2=g)\/(u.1=1/\u.2+2=g)\/(u.1=2/\u.2+3=g)\/(u.1=3/\u.2+4=g)) hc hb (0,g) (.inl ⟨rfl,rfl⟩) ?_ ?_;.exact aM 1 (by rfl) (zD (by simp[go_sem];rfl) rfl)
 rintro⟨i,r⟩h;simp only at h;refine h.elim (λ⟨h1,h2⟩=>?_) λh=>h.elim (λ⟨h1,h2⟩=>?_) λh=>h.elim (λ⟨h1,h2⟩=>?_) λ⟨h1,h2⟩=>?_
 .subst h1;refine zA ?_;simp[go_sem,bO];refine zL ab cB (zR (by simp[go_sem,dW,bO]) rfl) rfl ?_;simp[go_sem,Mz];by_cases q:2<=r
  .have q':decide ((2:Int)<=r)=true:=als om;have e:IntKind.i64.wrap ((r:Int)-2)=((r-2:Nat):Int):=by rw[bX om om];omega
   simp[go_sem,q',e];exact zH (1,r-2) ⟨by simp only;omega,.inr (.inl ⟨rfl,by simp only;omega⟩),aN 1 (by rfl)⟩
  .have q':decide ((2:Int)<=r)=false:=alr om;simp[go_sem,q',show zi.place=0from rfl];refine yA [(2,0)] 2 sM kR kR ?_;simp[go_sem];refine wW hr cB (λ_=>zR (by simp[go_sem,dW,bO,show zi.place=0from rfl]) rfl) rfl ?_;have aa:r=0\/r=1:=om;refine aa.elim (λe=>?_) (λe=>?_);all_goals subst e
   all_goals simp[go_sem]
   all_goals exact MA (by rw[<-hM,<-h2];rfl)
 .subst h1;refine zA ?_;simp[go_sem,bO];refine zL ad cB (zR (by simp[go_sem,dW,bO]) rfl) rfl ?_;simp[go_sem,Mz];by_cases q:1<=r
  .have q':decide ((1:Int)<=r)=true:=als om;have e:IntKind.i64.wrap ((r:Int)-1)=((r-1:Nat):Int):=by rw[bX om om];omega
   simp[go_sem,q',e];exact zH (2,r-1) ⟨by simp only;omega,.inr (.inr (.inl ⟨rfl,by simp only;omega⟩)),aN 1 (by rfl)⟩
  .have q':decide ((1:Int)<=r)=false:=alr om;simp[go_sem,q',show FR.place=1from rfl];have aa:r=0:=om;subst aa;exact MA (by rw[<-hM,<-h2];rfl)
 .subst h1;refine zA ?_;simp[go_sem,bO];refine zL ae cB (zR (by simp[go_sem,dW,bO]) rfl) rfl ?_;simp[go_sem,Mz];by_cases q:1<=r
  .have q':decide ((1:Int)<=r)=true:=als om;have e:IntKind.i64.wrap ((r:Int)-1)=((r-1:Nat):Int):=by rw[bX om om];omega
   simp[go_sem,q',e];exact zH (3,r-1) ⟨by simp only;omega,.inr (.inr (.inr ⟨rfl,by simp only;omega⟩)),aN 1 (by rfl)⟩
  .have q':decide ((1:Int)<=r)=false:=alr om;have aa:r=0:=om;subst aa;simp[go_sem,show FT.place=2from rfl];refine yA [] 2 sM kR kR ?_;simp[go_sem];exact MA (by rw[<-hM,<-h2];rfl)
 .subst h1;refine zA ?_;simp[go_sem,bO];exact MA (by rw[<-hM,<-h2];unfold ga;rw[alp om,alp om,alp om,alp om])
theorem wB4(v:bK)(l:alZ):([.box v.row,.cv (l.map yU) 1]:St).all (bS 2)=true:=by simp[bS,cV,cR,yU,bK.row]
theorem Vk(v:bK)(r:Int):bN prog 272 [.int .i64 r,.ptr 0 0] [.box v.row] (λx s=>x=.bool (r !=v.n)/\s=[.box v.row]):=by refine iW 1 func272 ntmps272 results272 λc hc hb=>zM ?_;simp[go_sem];exact yW 1 sg rfl rfl (A7 _) (zC rfl) ⟨rfl,rfl⟩
def lx(p:Int->Bool):alZ->Nat->Int |[],_=>-1|x::l,i=>if p x=true then i else lx p l (i+1)
theorem wE8(v:bK)(xs:alZ)(m:Nat)(hm:m<=xs.length)(hl:xs.length<=1000):bN prog 352 [.cS 1 1 xs.length 0 m,.fn 272 [.ptr 0 0]] [.box v.row,.cv (xs.map yU) 1] (λr s=>r=.int .i64 (lx (λx=>x !=v.n) (xs.take m) 0)/\s=[.box v.row,.cv (xs.map yU) 1]):=by
 generalize hM:lx (λx=>x !=v.n) (xs.take m) 0=M;have ret:∀(r:Int)(I:St),r=M->I.take 2=[.box v.row,.cv (xs.map yU) 1]->cz (some (.int .i64 r)) 2 (λr s=>r=.int .i64 M/\s=[.box v.row,.cv (xs.map yU) 1]) I:=λr I h hs=>by subst h;exact yW 2 hs rfl (by simp[bS,cV,cR,yU,bK.row]) (A7 _) (zC rfl) ⟨rfl,rfl⟩
 refine iV 2 func352 ntmps352 results352 λc hc hb=>?_;refine zA ?_;simp[go_sem];refine zG (S:=Nat) [0,1,7,8] (λi=>[.cS 1 1 xs.length 0 m,.fn 272 [.ptr 0 0],.int .i64 m,.int .i64 i]) (λ_=>[.box v.row,.cv (xs.map yU) 1]) (λi=>m-i) (λi=>i<=m/\lx (λx=>x !=v.n) ((xs.take m).drop i) i=M) hc hb 0 ⟨A5 _,hM⟩ ?_ ?_;.exact aN 2 (by simp[bS,cV,cR,yU,bK.row])
 rintro i ⟨hi,hinv⟩;by_cases q:i<m;rotate_left;.rw[A8 (by simp;omega)]at hinv;refine zA ?_;simp[go_sem,q];exact ret _ _ hinv rfl
 have ei:=zO q om;have aa:i<xs.length:=om;obtain⟨x,hx⟩:=eX (xs[i]);have ab:(xs.take m)[i]'(by simp;omega)=x:=by rw[alS];exact hx
 rw[A4 (by simp;omega),ab,lx]at hinv;have hd:=Vk v x;obtain⟨b,ad⟩:=eX ((x !=v.n));rw[ad]at hd hinv;refine zA ?_;simp[go_sem,q,aa,hx];refine vV 1 hd cB sg rfl rfl (tf rfl) (λr s h=>by obtain⟨rfl,rfl⟩:=h;exact⟨rfl,rfl,rfl⟩) ?_;rintro r s ⟨rfl,rfl⟩;simp[go_sem];refine zX (λw=>?_) (λw=>?_);.rw[alq w]at hinv;simp[go_sem];exact ret _ _ hinv rfl
 .rw[alp (by rw[w];decide)]at hinv;simp[go_sem,ei];exact zH (i+1) ⟨om,⟨q,hinv⟩,aN 2 (by simp[bS,cV,cR,yU])⟩
def ly(n:Int)(l:alZ):alZ:=l.filter (·==n)
theorem Vl{n:Int}:∀(l:alZ)(i:Nat),lx (λx=>x !=n) l i=-1->ly n l=l
 |[],_,_=>rfl|x::l,i,h=>by
  unfold lx at h;split at h;.omega
  .rename_i q;have:=Vl l (i+1) h;have hx:(x==n)=true:=sU q;unfold ly at this⊢;rw[List.filter_cons_of_pos (sU hx),this]
theorem Vm{n:Int}:∀(l:alZ)(i:Nat),lx (λx=>x !=n) l i≠-1->∃k,lx (λx=>x !=n) l i=((i+k:Nat):Int)/\k<l.length/\ly n (l.take k)=l.take k/\(∀x,l[k]?=some x->x≠n)
 |[],i,h=>absurd rfl h|x::l,i,h=>by
  unfold lx at h⊢;split;.rename_i q;exact⟨0,sM,sM,rfl,λy hy=>by simp at hy;subst hy;simpa using q⟩
  .rename_i q;rw[alp q]at h;obtain⟨k,h1,h2,h3,h4⟩:=Vm l (i+1) h;have hx:(x==n)=true:=sU q;refine⟨k+1,by rw[h1];congr 1;omega,by simp;omega,?_,λy hy=>h4 y (sU hy)⟩;unfold ly at h3⊢;rw[Bx,List.filter_cons_of_pos (sU hx),h3]
theorem Qe{n:Int}{xs:alZ}{j:Nat}{x:Int}(h:xs[j]?=some x):ly n (xs.take (j+1))=ly n (xs.take j)++(if x=n then[x]else[]):=by
 unfold ly;rw[Cu,h,List.filter_append];by_cases q:x=n;.simp[q]
 .simp[q]
theorem ww6(v:bK)(xs:alZ)(m:Nat)(hm:m<=xs.length)(hl:xs.length<=1000):bN prog 271 [.cS 1 1 xs.length 0 m,.fn 272 [.ptr 0 0]] [.box v.row,.cv (xs.map yU) 1] (λr s=>∃ys:alZ,ys.length=xs.length/\(ly v.n (xs.take m)).length<=m/\ys.take (ly v.n (xs.take m)).length=ly v.n (xs.take m)/\r=.cS 1 1 xs.length 0 (ly v.n (xs.take m)).length/\s=[.box v.row,.cv (ys.map yU) 1]):=by
 obtain⟨K,hK⟩:=eX (ly v.n (xs.take m));have ao:K.length<=m:=by rw[<-hK];unfold ly;exact Ax (Dp _ _) (by simp;omega)
 rw[hK];have ret:∀(ys:alZ)(k:Nat)(I:St),ys.length=xs.length->k=K.length->ys.take K.length=K->I.take 2=[.box v.row,.cv (ys.map yU) 1]->cz (some (.cS 1 1 xs.length 0 k)) 2 (λr s=>∃ys:alZ,ys.length=xs.length/\K.length<=m/\ys.take K.length=K/\r=.cS 1 1 xs.length 0 K.length/\s=[.box v.row,.cv (ys.map yU) 1]) I:=λys k I h1 h2 h3 h4=>by subst h2;exact yW 2 h4 rfl (by simp[bS,cV,cR,yU,bK.row]) (A7 _) (xR rfl) ⟨ys,h1,ao,h3,rfl,rfl⟩
 have aq:=wE8 v xs m hm hl;refine iV 2 func271 ntmps271 results271 λc hc hb=>?_;refine zA ?_;simp[go_sem];refine vV 2 aq cB sg rfl (by simp[bS,cV,cR,yU,bK.row]) (tf rfl) (λr s h=>by obtain⟨rfl,rfl⟩:=h;exact⟨rfl,by simp[bS,cV,cR,yU,bK.row],rfl⟩) ?_;rintro r s ⟨rfl,rfl⟩;by_cases h0:lx (λx=>x !=v.n) (xs.take m) 0=-1;.have ah:=Vl _ _ h0;rw[hK]at ah;rw[h0];simp[go_sem];exact ret xs m _ rfl (by rw[ah];simp;omega) (by rw[ah];simp) (by rfl)
 obtain⟨k,h1,h2,h3,h4⟩:=Vm _ _ h0;rw[Ae]at h1;rw[h1];have ar:k<m:=by simp at h2;omega
 have au:((k:Int)==-1)=false:=sM;have ek:IntKind.i64.wrap ((k:Int)+1)=((k+1:Nat):Int):=by rw[bX om om];omega
 have av:ly v.n (xs.take (k+1))=xs.take k:=by have aj:k<xs.length:=om;have h5:=h4 xs[k] (by rw[An,alq ar,A0 aj]);rw[Qe (A0 aj),alp h5,Aw];rw[alR,C1 om]at h3;exact h3
 simp[go_sem,au,ek];refine zG (S:=Nat×Nat×alZ) [0,1,5,6] (λu=>[.cS 1 1 xs.length 0 m,.fn 272 [.ptr 0 0],.int .i64 u.1,.int .i64 u.2.1]) (λu=>[.box v.row,.cv (u.2.2.map yU) 1]) (λu=>m-u.2.1) (λu=>u.1<u.2.1/\u.2.1<=m/\u.2.2.length=xs.length/\u.2.2.take u.1=ly v.n (xs.take u.2.1)/\u.2.2.drop u.2.1=xs.drop u.2.1) hc hb (k,k+1,xs) ⟨by simp only;omega,by simp only;omega,rfl,av.symm,rfl⟩ ?_ ?_;.exact aN 2 (by simp[bS,cV,cR,yU,bK.row])
 rintro⟨i,j,ys⟩⟨aw,ax,ad,aa,ab⟩;simp only at aw ax ad aa ab;by_cases q:j<m;rotate_left
 .have hj:j=m:=om;subst hj;rw[hK]at aa;have ak:i=K.length:=by rw[<-aa];simp;omega
  have af:i<=j:=om;refine zA ?_;simp[go_sem];refine zJ af ?_;simp[go_sem,ad];refine zJ om ?_;simp[go_sem];refine zJ (.inl af) ?_;simp[go_sem];refine ret (ys.take i++List.replicate (j-i) 0++ys.drop (i+(j-i))) i _ (by simp;omega) ak (by rw[<-ak,Bj,List.take_append_of_le_length (by simp;omega)];rw[alR,Nat.min_self,aa]) ?_;simp[go_sem,yU]
 have ej:=zO q om;have ay:j<ys.length:=om;have az:j<xs.length:=om;obtain⟨x,hx⟩:=eX (ys[j]);have a1:ys[j]?=some x:=by rw[A0 ay,hx]
 have al:xs[j]?=some x:=by have:=alv (λl=>l[0]?) ab;simp only[Cb,D7]at this;rw[<-this,a1]
 have ei:IntKind.i64.wrap ((i:Int)+1)=((i+1:Nat):Int):=by rw[bX om om];omega
 have hd:=Vk v x;obtain⟨b,ai⟩:=eX ((x !=v.n));rw[ai]at hd;refine zA ?_;simp[go_sem,q,az,hx,ad];refine vV 1 hd cB sg rfl rfl (tf rfl) (λr s h=>by obtain⟨rfl,rfl⟩:=h;exact⟨rfl,rfl,rfl⟩) ?_;rintro r s ⟨rfl,rfl⟩;simp[go_sem];refine zX (λw=>?_) (λw=>?_);all_goals simp[go_sem,ej]
 .have q2:x=v.n:=by simpa using(show(x !=v.n)=false by rw[ai];simpa using w)
  have ae:=Qe (n:=v.n) al;rw[alq q2]at ae;refine zJ om ?_;have an:i<xs.length:=om;obtain⟨y,a6⟩:∃y,ys[i]?=some y:=⟨_,A0 om⟩;simp[go_sem,ad,an,ei,ej];refine zH (i+1,j+1,ys.set i x) ⟨by simp only;omega,⟨by simp only;omega,by simp only;omega,by simp[ad],?_,?_⟩,?_⟩;.rw[ae,<-aa,Cu,Bm om,List.take_set_of_le (A7 i)];simp
  .simp only;rw[List.drop_set,alq om];have:=alv (List.drop 1) ab;simpa[alQ,E6]using this
  .exact bU 2 (by simp[go_sem,yU]) rfl (wB4 v _) (A7 _) (zD sg rfl)
 .have q2:¬x=v.n:=by
   have:(x !=v.n)=true:=by rw[ai];simpa using w
   simpa using this
  have ae:=Qe (n:=v.n) al;rw[alp q2,Aw]at ae;refine zH (i,j+1,ys) ⟨by simp only;omega,⟨by simp only;omega,by simp only;omega,ad,by rw[ae];exact aa,?_⟩,?_⟩;.have:=alv (List.drop 1) ab;simpa[alQ,E6]using this
  .exact aN 2 (by simp[bS,cV,cR,yU])
def tH(t:Nat):alZ:=if t=0then[0,1]else if t=1then[-1]else[1]
def jv(l:List bJ)(rs:alZ):alZ:=l.foldl (λrs e=>match pn e [82]with|none=>rs|some (s,v)=>if s=[61]/\v.kind=2then ly v.n rs else rs) rs
def wJ(t:Int)(st:bZ):alZ:=if t=0then jv (pj st) [0,1]else if t=1then[-1]else if t=2then[1]else[]
theorem xD8{n:Int}(l:alZ):(ly n l).length<=l.length:=Dp _ _
theorem xD6(l:alZ):xB (l.map yU)=true:=by simp[xB,yU,o7]
theorem xg0(l:alZ)(m:Nat):wU (l.map yU) 0 m=(l.take m).map yU:=by unfold wU;rw[B1,<-List.map_take,B8];rfl
theorem Vn(st:bZ)(T:bL)(l:alZ):([.box [.sl .ro xN,.sl .ro (bO.map bL.row)],.box st.row,.box T.row,.cv (l.map yU) 1]:St).all (bS 4)=true:=by simp[bS,cV,cR,yU,bZ.row,bL.row]
theorem Qf(T:bL)(l:alZ):([.box T.row,.cv (l.map yU) 1]:St).all (bS 2)=true:=by simp[bS,cV,cR,yU,bL.row]
theorem Vo(n:Nat)(l:alZ):bS n (.cv (l.map yU) 1)=true:=by simp[bS,cV,cR,yU]
theorem xl3(j:Nat)(hj:j<3):∃s0:Nat,xJ j 0=((s0:Int),0)/\s0+(tH j).length<5/\(∀(k:Nat) x,(tH j)[k]?=some x->ga ((s0+k:Nat):Int)=((j:Int),x,0))/\((ga ((s0+(tH j).length:Nat):Int)).2.2≠0\/((ga ((s0+(tH j).length:Nat):Int)).2.2=0/\(ga ((s0+(tH j).length:Nat):Int)).1≠j)):=by match j,hj with
 |0,_=>exact⟨0,rfl,dC,λk x h=>(by match k with |0=>cases h;rfl|1=>cases h;rfl|k+2=>cases h),.inr dC⟩|1,_=>exact⟨2,rfl,dC,λk x h=>(by match k with|0=>cases h;rfl|k+1=>cases h),.inr dC⟩|2,_=>exact⟨3,rfl,dC,λk x h=>(by match k with|0=>cases h;rfl|k+1=>cases h),.inl dC⟩
theorem Qg:∀(l:List bJ)(rs:alZ),(jv l rs).length<=rs.length
 |[],_=>A7 _|e::l,rs=>by
  have h1:jv (e::l) rs=jv l (match pn e [82]with|none=>rs|some (s,v)=>if s=[61]/\v.kind=2then ly v.n rs else rs):=rfl;rw[h1];refine Ax (Qg l _) ?_;split;.exact A7 _
  .split;.exact xD8 _
   .exact A7 _
theorem Vp(t:Int)(st:bZ)(hl:(pj st).length<=maxLen):Pure prog 182 [dW bO,.int .i64 t,.agg st.row] (.sl .ro ((wJ t st).map yU)):=by
 have an:=UT st;generalize hM:wJ t st=M;unfold wJ at hM;generalize hL:pj st=L at an hM hl;have ao:∀(g:Tag)(I:St),[]=M->cz (some (.sl g [])) 0 (λr s=>r=.sl .ro (M.map yU)/\s=[]) I:=λg I h=>by subst h;exact zQ zK ⟨rfl,rfl⟩
 have ai:∀(id:Nat)(ys:alZ)(N m:Nat)(I:St),I[id]?=some (.cv (ys.map yU) 1)->ys.length=N->m<=N->ys.take m=M->cz (some (.cS id 1 N 0 m)) 0 (λr s=>r=.sl .ro (M.map yU)/\s=[]) I:=λid ys N m I h1 h2 h3 h4=>by refine Lh id 1 (ys.map yU) h1 (xD6 ys) ?_;simp only[fO,fX,fN,fH,Au,h2,Ae,h3,and_self,alB,xg0,h4];exact zQ zK ⟨rfl,rfl⟩
 refine iV 0 func182 ntmps182 results182 λc hc hb=>?_;refine zA ?_;simp[go_sem,dW];by_cases ht:0<=t/\t<3;rotate_left
 .have au:[]=M:=by rw[<-hM,alp om,alp om,alp om]
  have h2:decide (t<0)=true\/(decide (t<0)=false/\decide ((bO.length:Int)<=t)=true):=by simp only[alw,aly,show bO.length=3from rfl];omega
  refine h2.elim (λq=>?_) (λq=>?_);all_goals simp[go_sem,q]
  all_goals exact ao _ _ au
 obtain⟨j,rfl⟩:∃j:Nat,t=j:=⟨t.toNat,om⟩;have hj:j<3:=om;obtain⟨T,hT⟩:=eX (bO[j]'(by exact hj));have aq:=xA6 j hj;obtain⟨s0,av,aw,cZ,aa⟩:=xl3 j hj;obtain⟨n,hn⟩:=eX ((tH j).length);rw[hn]at aw aa;rw[av]at aq;have ax:decide ((j:Int)<0)=false:=alr om;have aH:decide ((bO.length:Int)<=j)=false:=alr (by simp only[show bO.length=3from rfl];omega);have ay:decide (bO.length<=j)=false:=alr (by simp only[show bO.length=3from rfl];omega);have az:j<bO.length:=hj;have hle:=wk6;have e1:IntKind.i64.wrap ((j:Int)+1)=((j+1:Nat):Int):=by rw[bX om om];omega
 simp[go_sem,ax,ay,az];refine Fh 8 1 dC sg ?_;refine yA [(10,0),(11,0)] 4 sM kR kR ?_;simp[go_sem,e1];refine zJ ⟨om,by simp only[show bO.length=3from rfl];omega,lK λT=>rfl⟩ ?_;simp[go_sem];refine wW hle cB (λ_=>zR (by simp[go_sem,dW]) rfl) rfl ?_;simp[go_sem];refine wW aq cB (λ_=>zR (by simp[go_sem,dW]) rfl) rfl ?_;simp[go_sem,FV];refine zG (S:=Nat) [1,3,5,7,8,9] (λk=>[.int .i64 j,.ptr 0 0,.ptr 1 0,.ptr 2 0,.cS 3 1 k 0 k,.int .i64 ((s0+k:Nat):Int)]) (λk=>[.box [.sl .ro xN,.sl .ro (bO.map bL.row)],.box st.row,.box T.row,.cv (((tH j).take k).map yU) 1]) (λk=>n-k) (λk=>k<=n) hc hb 0 (A5 _) ?_ ?_;.exact bU 4 (by simp[go_sem,<-hT];exact⟨rfl,rfl,rfl,rfl,rfl,rfl,rfl,rfl,rfl,rfl,rfl⟩) rfl (Vn st T _) (A5 _) (zD sg rfl)
 intro k hk;have a1:=JA (s0+k) om;refine zA ?_;simp[go_sem];refine zL a1 cB (zR (by simp[go_sem,dW]) rfl) rfl ?_;by_cases aI:k<n
 .obtain⟨x,hx⟩:∃x,(tH j)[k]?=some x:=⟨_,A0 om⟩;rw[cZ k x hx];have a6:¬(k+1<=k):=om;have ei:IntKind.i64.wrap (((s0:Int)+k)+1)=(s0:Int)+k+1:=by rw[bX om om]
  simp[go_sem,Hz,a6];refine zJ ⟨om,zZ rfl,om⟩ ?_;simp[go_sem,ei];refine zH (k+1) ⟨om,om,?_⟩;exact bU 4 (by simp[go_sem,Cu,hx,yU]) rfl (Vn st T _) (A5 _) (zD (by simp[go_sem];omega) rfl)
 .obtain rfl:k=n:=om;obtain⟨⟨a,b2,e⟩,hp⟩:∃p,ga ((s0+k:Nat):Int)=p:=⟨_,rfl⟩;rw[hp]at aa⊢;simp only at aa;have hY:((tH j).take k).length=k:=by simp;omega
  have ad:(e !=0)=true\/((e !=0)=false/\(a !=j)=true):=by
   rcases aa with h|h;.exact .inl (sU h)
   .exact .inr ⟨by simpa using h.1,by simpa using h.2⟩
  by_cases aj:j=0;rotate_left
  .have ak:(T.place !=0)=true:=by rw[<-hT];match j,hj,aj with |1,_,_=>rfl|2,_,_=>rfl
   have a7:(tH j)=M:=by rw[<-hM];match j,hj,aj with |1,_,_=>rfl|2,_,_=>rfl
   refine ad.elim (λq=>?_) (λq=>?_);all_goals simp[go_sem,Hz,q,ak]
   all_goals exact ai 3 ((tH j).take k) k k _ sg hY (A7 _) (by rw[alR,Nat.min_self,Ad om];exact a7)
  subst aj;have ak:(T.place !=0)=false:=by rw[<-hT];rfl
  have ab:T.cw=[⟨[82],2,false⟩,⟨[75],2,false⟩,⟨[86],3,true⟩,⟨[78],2,true⟩]:=by rw[<-hT];rfl
  have a8:k=2:=by rw[<-hn];rfl
  subst a8;have al:(e !=0)=true\/((e !=0)=false/\(a !=0)=true):=sU ad;refine al.elim (λq=>?_) (λq=>?_);all_goals simp[go_sem,Hz,q,ak,ab]
  all_goals refine zL an cB (zR sg rfl) rfl ?_
  all_goals simp[go_sem]
  all_goals refine zG (S:=Nat×alZ×alZ) [7,8,79,80,81] (λu=>[.ptr 0 0,.cS 1 1 2 0 u.2.1.length,.sl .ro (L.map bJ.row),.int .i64 L.length,.int .i64 u.1]) (λu=>[.box T.row,.cv (u.2.2.map yU) 1]) (λu=>L.length-u.1) (λu=>u.1<=L.length/\u.2.1.length<=2/\u.2.2.length=2/\u.2.2.take u.2.1.length=u.2.1/\jv (L.drop u.1) u.2.1=M) hc hb (0,[0,1],[0,1]) ⟨A5 _,A7 _,rfl,rfl,hM⟩ ?_ ?_
  all_goals try exact yu [2,3] dC rfl ⟨by simp[go_sem,yC,du,dv,ab],by simp[go_sem,yC,du,dv,tH,yU],tV⟩ ⟨.inl (by simp[go_sem,dL,dQ,du,dv,cO]),.inl (by simp[go_sem,dL,dQ,du,dv,cO]),zK,zC rfl,zC rfl,tV⟩
  all_goals rintro⟨i,rs,ys⟩⟨hi,ah,ae,af,hinv⟩
  all_goals simp only at hi ah ae af hinv
  all_goals(
   by_cases hq:i<L.length;rotate_left;.rw[A8 om]at hinv;have aA:rs=M:=hinv;refine zA ?_;simp[go_sem,hq];exact ai 1 ys 2 rs.length _ sg ae ah (by rw[af];exact aA)
   have ei:=zO hq (by unfold maxLen at hl;omega);obtain⟨x,hx⟩:=eX (L[i]);rw[A4 hq,hx]at hinv;have aB:=UU x [82];refine zA ?_;simp[go_sem,hq,hx,ab];refine yA [(6,0),(13,3)] 3 sM kR kR ?_;simp[go_sem];refine wW aB cB (λ_=>zR sg (by rw[bJ.bQ];rfl)) (Vi _) ?_;cases ha:pn x [82]with |none=>simp only[jv,B7,ha]at hinv;simp[go_sem,oy,Mo,ei];refine zH (i+1,rs,ys) ⟨by simp only;omega,⟨by simp only;omega,ah,ae,af,hinv⟩,?_⟩;exact bU 2 (by simp[go_sem,ab]) rfl (Qf T _) (A5 _) (zD sg rfl)|some p=>
    obtain⟨s,v⟩:=p;simp only[jv,B7,ha]at hinv
    simp[go_sem,oy];by_cases hs:s=[61]/\v.kind=2;.rw[alq hs]at hinv;have aC:(s==[61])=true:=sU hs.1;have aD:(v.kind==2)=true:=sU hs.2;have ar:=ww6 v ys rs.length om om;rw[af,ae]at ar;simp[go_sem,aC,aD];refine wr1 3 1 ar cB dC sg sg rfl (Vo _ _) ⟨.inl (by simp[go_sem,dL,dQ,du,dv,cO]),.inl (by simp[go_sem,dL,dQ,du,dv,cO]),tV⟩ (λr s h=>by obtain⟨zs,_,_,_,_,rfl⟩:=h;exact⟨_,_,rfl,rfl,Vo _ _⟩) ?_;rintro r o2 p2 ⟨zs,aJ,aK,aE,rfl,aF⟩;obtain⟨rfl,rfl⟩:o2=.box v.row/\p2=.cv (zs.map yU) 1:=sU aF;simp[go_sem,dL,dQ,du,dv,cO,ei];refine zH (i+1,ly v.n rs,zs) ⟨by simp only;omega,⟨by simp only;omega,by simp only;omega,om,aE,hinv⟩,?_⟩;exact bU 2 (by simp[go_sem,ab]) rfl (Qf T _) (A5 _) (zD sg rfl)
    .rw[alp hs]at hinv;have aG:(s==[61])=false\/((s==[61])=true/\(v.kind==2)=false):=by
      by_cases h1:s=[61];.exact .inr ⟨by simpa using h1,by simpa usingλh2=>hs ⟨h1,h2⟩⟩
      .exact .inl (sU h1)
     refine aG.elim (λq1=>?_) (λq1=>?_);all_goals simp[go_sem,q1,ei]
     all_goals refine zH (i+1,rs,ys) ⟨by simp only;omega,⟨by simp only;omega,ah,ae,af,hinv⟩,?_⟩
     all_goals exact bU 2 (by simp[go_sem,ab]) rfl (Qf T _) (A5 _) (zD sg rfl))
def xW{U:Type}(p:U->Bool):List U->Nat->Int |[],_=>-1|x::l,i=>if p x=true then(i:Int)else xW p l (i+1)
theorem uX{U:Type}(p:U->Bool):∀(l:List U)(i:Nat),xW p l i=-1\/((i:Int)<=xW p l i/\xW p l i<i+l.length)
 |[],i=>.inl rfl|x::l,i=>by
  unfold xW;split;.right;simp;omega
  .have:=uX p l (i+1);simp only[Ah];omega
theorem wE6(t:bL)(name:alW):bN prog 239 [.agg t.row,.ptr 0 0] [.box [.str name]] (λr s=>r=.bool (t.name==name)/\s=[.box [.str name]]):=by refine iW 1 func239 ntmps239 results239 λc hc hb=>zM ?_;simp[go_sem];exact nJ 1 rfl rfl (A7 _) (zC rfl) ⟨rfl,rfl⟩
theorem wE3(t:fZ)(name:alW):bN prog 316 [.agg t.row,.ptr 0 0] [.box [.str name]] (λr s=>r=.bool (t.name==name)/\s=[.box [.str name]]):=by refine iW 1 func316 ntmps316 results316 λc hc hb=>zM ?_;simp[go_sem];exact nJ 1 rfl rfl (A7 _) (zC rfl) ⟨rfl,rfl⟩
theorem wy1(l:List bL)(name:alW)(hl:l.length<=maxLen):bN prog 238 [.sl .ro (l.map bL.row),.fn 239 [.ptr 0 0]] [.box [.str name]] (λr s=>r=.int .i64 (xW (λt:bL=>t.name==name) l 0)/\s=[.box [.str name]]):=by
 generalize hM:xW (λt:bL=>t.name==name) l 0=M;have ret:∀(r:Int)(I:St),r=M->cz (some (.int .i64 r)) 1 (λr s=>r=.int .i64 M/\s=[.box [.str name]]) (.box [.str name]::I):=λr I h=>by subst h;exact nJ 1 rfl rfl (A7 _) (zC rfl) ⟨rfl,rfl⟩
 refine iV 1 func238 ntmps238 results238 λc hc hb=>?_;refine zA ?_;simp[go_sem];refine zG (S:=Nat) [0,1,7,8] (λi=>[.sl .ro (l.map bL.row),.fn 239 [.ptr 0 0],.int .i64 l.length,.int .i64 i]) (λ_=>[.box [.str name]]) (λi=>l.length-i) (λi=>i<=l.length/\xW (λt:bL=>t.name==name) (l.drop i) i=M) hc hb 0 ⟨A5 _,hM⟩ ?_ ?_;.exact aN 1 rfl
 rintro i ⟨hi,hinv⟩;by_cases q:i<l.length;rotate_left;.rw[Bt om,xW]at hinv;refine zA ?_;simp[go_sem,q];exact ret _ _ hinv
 have ei:=zO q (by unfold maxLen at hl;omega);obtain⟨x,hx⟩:=eX (l[i]);rw[A4 q,hx,xW]at hinv;obtain⟨b,ab⟩:=eX ((x.name==name));have aa:=wE6 x name;rw[ab]at aa hinv;refine zA ?_;simp[go_sem,q,hx];refine mY 0 aa cB rfl rfl ⟨zC rfl,.inl rfl,tV⟩ (by rintro r s ⟨rfl,rfl⟩;exact⟨_,rfl,rfl⟩) ?_;rintro r o ⟨rfl,ho⟩;cases ho;simp[go_sem];refine zX (λw=>?_) (λw=>?_);.rw[alq w]at hinv;simp[go_sem];exact ret _ _ hinv
 .rw[alp (by rw[w];decide)]at hinv;simp[go_sem,ei];exact zH (i+1) ⟨om,⟨q,hinv⟩,aN 1 rfl⟩
theorem wx7(l:List fZ)(name:alW)(hl:l.length<=maxLen):bN prog 315 [.sl .ro (l.map fZ.row),.fn 316 [.ptr 0 0]] [.box [.str name]] (λr s=>r=.int .i64 (xW (λt:fZ=>t.name==name) l 0)/\s=[.box [.str name]]):=by
 generalize hM:xW (λt:fZ=>t.name==name) l 0=M;have ret:∀(r:Int)(I:St),r=M->cz (some (.int .i64 r)) 1 (λr s=>r=.int .i64 M/\s=[.box [.str name]]) (.box [.str name]::I):=λr I h=>by subst h;exact nJ 1 rfl rfl (A7 _) (zC rfl) ⟨rfl,rfl⟩
 refine iV 1 func315 ntmps315 results315 λc hc hb=>?_;refine zA ?_;simp[go_sem];refine zG (S:=Nat) [0,1,7,8] (λi=>[.sl .ro (l.map fZ.row),.fn 316 [.ptr 0 0],.int .i64 l.length,.int .i64 i]) (λ_=>[.box [.str name]]) (λi=>l.length-i) (λi=>i<=l.length/\xW (λt:fZ=>t.name==name) (l.drop i) i=M) hc hb 0 ⟨A5 _,hM⟩ ?_ ?_;.exact aN 1 rfl
 rintro i ⟨hi,hinv⟩;by_cases q:i<l.length;rotate_left;.rw[Bt om,xW]at hinv;refine zA ?_;simp[go_sem,q];exact ret _ _ hinv
 have ei:=zO q (by unfold maxLen at hl;omega);obtain⟨x,hx⟩:=eX (l[i]);rw[A4 q,hx,xW]at hinv;obtain⟨b,ab⟩:=eX ((x.name==name));have aa:=wE3 x name;rw[ab]at aa hinv;refine zA ?_;simp[go_sem,q,hx];refine mY 0 aa cB rfl rfl ⟨zC rfl,.inl rfl,tV⟩ (by rintro r s ⟨rfl,rfl⟩;exact⟨_,rfl,rfl⟩) ?_;rintro r o ⟨rfl,ho⟩;cases ho;simp[go_sem];refine zX (λw=>?_) (λw=>?_);.rw[alq w]at hinv;simp[go_sem];exact ret _ _ hinv
 .rw[alp (by rw[w];decide)]at hinv;simp[go_sem,ei];exact zH (i+1) ⟨om,⟨q,hinv⟩,aN 1 rfl⟩
theorem Qh(ts:List bL)(name:alW)(hl:ts.length<=maxLen):Pure prog 166 [dW ts,.str name] (.int .i64 (xW (λt:bL=>t.name==name) ts 0)):=by have hx:=wy1 ts name hl;refine iW 0 func166 ntmps166 results166 λc hc hb=>zM ?_;simp[go_sem,dW];refine mY 1 hx cB rfl rfl ⟨zC rfl,.inl rfl,tV⟩ (by rintro r s ⟨rfl,rfl⟩;exact⟨_,rfl,rfl⟩) ?_;rintro r o ⟨rfl,ho⟩;cases ho;simp[go_sem];exact wR
theorem HA(t:bL)(name:alW)(hl:t.cw.length<=maxLen):Pure prog 242 [.agg t.row,.str name] (.int .i64 (xW (λt:fZ=>t.name==name) t.cw 0)):=by have hx:=wx7 t.cw name hl;refine iW 0 func242 ntmps242 results242 λc hc hb=>zM ?_;simp[go_sem];refine mY 1 hx cB rfl rfl ⟨zC rfl,.inl rfl,tV⟩ (by rintro r s ⟨rfl,rfl⟩;exact⟨_,rfl,rfl⟩) ?_;rintro r o ⟨rfl,ho⟩;cases ho;simp[go_sem];exact wR
def dg(T:bL)(name:alW):Int:=xW (λc:fZ=>c.name==name) T.cw 0
def lz(T:bL)(c:Int):Int:=((T.cw[c.toNat]?).map (·.kind)).getD 0
def oD(v:bK):Bool:=v.kind==0&&(v.n==0&&v.s.isEmpty)
theorem Vq(v:bK):(!(v.kind==0)||(!(v.n==0)||!v.s.isEmpty))=!oD v:=by unfold oD;cases v.kind==0<;>cases v.n==0<;>cases v.s.isEmpty<;>rfl
mutual
def mh(T:bL):bJ->Int×Int|.mk k s v args=>if k=1then(if s.isEmpty=false\/args.isEmpty=false\/e9 v=false then(0,9)else(v.kind,0))else if k=2then(if dg T s<0then(0,14)else if args.isEmpty=false\/oD v=false then(0,9)else(lz T (dg T s),0))else if k=3then(if(j4 T args).2≠0then(0,(j4 T args).2)else if oD v=false then(0,9)else pT s (j4 T args).1)else(0,9)def j4(T:bL):List bJ->alZ×Int|[]=>([],0)|e::l=>if(mh T e).2≠0then([],(mh T e).2)else((mh T e).1::(j4 T l).1,(j4 T l).2)end
theorem Qi(T:bL)(e:bJ):mh T e=if e.kind=1then(if e.s.isEmpty=false\/e.args.isEmpty=false\/e9 e.v=false then(0,9)else(e.v.kind,0))else if e.kind=2then(if dg T e.s<0then(0,14)else if e.args.isEmpty=false\/oD e.v=false then(0,9)else(lz T (dg T e.s),0))else if e.kind=3then(if(j4 T e.args).2≠0then(0,(j4 T e.args).2)else if oD e.v=false then(0,9)else pT e.s (j4 T e.args).1)else(0,9):=by cases e;rw[mh];rfl
theorem FW{M:Int×Int}{a e:Int}{I:St}(h:(a,e)=M):cz (some (.cC [.int .i64 a,.int .i64 e])) 0 (λr s=>r=wO M/\s=[]) I:=by subst h;exact wR
theorem MB(T:bL)(s:alW)(h:¬dg T s<0):∃j:Nat,dg T s=j/\j<T.cw.length:=by have:=uX (λc:fZ=>c.name==s) T.cw 0;unfold dg at h⊢;refine⟨(xW (λc:fZ=>c.name==s) T.cw 0).toNat,om,om⟩
theorem xM8(l:List bJ):decide ((0:Int)<l.length)=!l.isEmpty:=by cases l with |nil=>rfl|cons _ _=>exact als (by simp only[Ah];omega)
theorem xA9(l:List bJ):decide (0<l.length)=!l.isEmpty:=by cases l with |nil=>rfl|cons _ _=>exact als (by simp only[Ah];omega)
theorem Vr(T:bL)(hT:T.cw.length<=maxLen):∀(n:Nat)(e:bJ),iC e<=n->fP e->Good e->Pure prog 314 [.agg T.row,.agg e.row] (wO (mh T e))
 |0,e,h,_,_=>by have:=Mm e;omega|n+1,e,h,hw,hg=>by
  have ih:=Vr T hT n;have az:=y9 e;have hlen:=hw.len;have al:=hw.sub;have av:=hg.sub;have an:=Hw e.v;have ao:=HA T e.s hT;obtain⟨M,hM⟩:=eX (mh T e);rw[hM];rw[Qi]at hM;rw[show xW (λc:fZ=>c.name==e.s) T.cw 0=dg T e.s from rfl]at ao;have hz:=Vq e.v;have aw:=xM8 e.args;have ai:=xA9 e.args;have ret:∀(a b:Int)(I:St),(a,b)=M->cz (some (.cC [.int .i64 a,.int .i64 b])) 0 (λr s=>r=wO M/\s=[]) I:=λa b I h=>FW h;refine iV 0 func314 ntmps314 results314 λc hc hb=>?_;refine zA ?_;simp[go_sem];by_cases q1:e.kind=1
  .have af:(e.kind==1)=true:=sU q1;rw[alq q1]at hM;generalize e9 e.v=b at an hM;generalize e.args.isEmpty=ae at aw ai hM;simp[go_sem,af];repeat'(first |(refine xG (λq=>?_) (λq=>?_)<;>simp[go_sem,q,ai])|(refine zX (λq=>?_) (λq=>?_)<;>simp[go_sem,q])|(refine zL an cB (zR sg rfl) rfl ?_;simp[go_sem]))
   all_goals exact ret _ _ _ (by rw[<-hM];simp_all)
  rw[alp q1]at hM;have af:(e.kind==1)=false:=sU q1;by_cases q2:e.kind=2
  .have aj:(e.kind==2)=true:=sU q2;rw[alq q2]at hM;simp[go_sem,af,aj];refine zL ao cB (zR sg rfl) rfl ?_;by_cases qc:dg T e.s<0;.have ak:decide (dg T e.s<0)=true:=als qc;rw[alq qc]at hM;simp[go_sem,ak];exact ret _ _ _ hM
   have ak:decide (dg T e.s<0)=false:=alr qc;rw[alp qc]at hM;obtain⟨j,hj,ax⟩:=MB T e.s qc;obtain⟨C,hC⟩:=eX (T.cw[j]);have a1:lz T (dg T e.s)=C.kind:=by unfold lz;rw[hj,Ay,A0 ax,hC];rfl
   rw[a1]at hM;rw[hj]at ak⊢;generalize oD e.v=z at hz hM;generalize e.args.isEmpty=ae at aw ai hM;simp[go_sem,ak,ai];repeat'(first |(refine xG (λq=>?_) (λq=>?_)<;>simp[go_sem,q,hz])|(refine zX (λq=>?_) (λq=>?_)<;>simp[go_sem,q,ax,hC]))
   all_goals exact ret _ _ _ (by rw[<-hM];simp_all)
  rw[alp q2]at hM;have aj:(e.kind==2)=false:=sU q2;by_cases q3:e.kind=3;rotate_left;.rw[alp q3]at hM;have aq:(e.kind==3)=false:=sU q3;simp[go_sem,af,aj,aq];exact ret _ _ _ hM
  have aq:(e.kind==3)=true:=sU q3;rw[alq q3]at hM;obtain⟨args,ab⟩:=eX e.args;rw[ab]at az hlen al av hM;obtain⟨K,hK⟩:=eX (j4 T args);rw[hK]at hM;simp[go_sem,af,aj,aq,ab];refine wQ 7 1 dC sg ?_;refine zG (S:=Nat×alZ) [2,3,7,61,62,63] (λu=>[.ptr 0 0,.ptr 1 0,.sl (.app 2) (u.2.map λn=>[V.int .i64 n]),.sl .ro (args.map bJ.row),.int .i64 args.length,.int .i64 (u.1:Int)]) (λu=>[.box T.row,.box e.row,.app u.2.length 1]) (λu=>args.length-u.1) (λu=>u.1<=args.length/\u.2.length=u.1/\(j4 T (args.drop u.1)).2=K.2/\(K.2=0->u.2++(j4 T (args.drop u.1)).1=K.1)) hc hb (0,[]) ⟨A5 _,rfl,by simp only[B1];rw[hK],λ_=>by simp only[B1];rw[hK];rfl⟩ ?_ ?_;.exact bU 3 (by simp[go_sem,ab]) rfl (by simp[bS,cV,cR,bJ.bQ,bL.row]) (A5 _) (zD sg rfl)
  rintro⟨i,l⟩⟨hi,hl,hinv,aa⟩;simp only at hi hl hinv aa;by_cases q:i<args.length;rotate_left
  .rw[A8 om,j4]at hinv aa;have ah:K.2=0:=hinv.symm;have a6:l=K.1:=by have:=aa ah;simpa using this
   rw[alp (λh=>h ah),<-a6]at hM;have ay:=xk4 e.s l (by unfold maxLen;omega);generalize pT e.s l=o at ay hM;generalize oD e.v=z at hz hM;refine zA ?_;simp[go_sem,q,hz];refine(A6 z).elim (λw=>?_) (λw=>?_);.rw[alp (by rw[w];decide)]at hM;subst w;simp[go_sem];refine pC ay ?_;simp[go_sem,wO];exact ret _ _ _ hM
   .rw[alq w]at hM;subst w;simp[go_sem];exact ret _ _ _ hM
  have ei:=zO q om;obtain⟨x,hx⟩:=eX (args[i]);have ar:x∈args:=hx▸A9 q;have a7:=Fz args x ar;rw[A4 q,hx,j4]at hinv aa;have ad:=ih x om (al x ar) (av x ar);generalize mh T x=kx at ad hinv aa;by_cases q4:kx.2=0;.rw[alp (λh=>h q4)]at hinv aa;have au:(kx.2!=0)=false:=sU q4;refine zA ?_;simp[go_sem,q,hx];refine zL ad cB (zR sg (by rw[bJ.bQ];rfl)) rfl ?_;simp[go_sem,wO,au];refine zJ ⟨om,zZ rfl⟩ ?_;simp[go_sem,ei];refine zH (i+1,l++[kx.1]) ⟨by simp only;omega,⟨by simp only;omega,by simp;omega,hinv,λh=>by have:=aa h;simpa using this⟩,?_⟩;exact aN 3 (by simp[bS,cV,cR,bJ.bQ])
  .rw[alq q4]at hinv;have au:(kx.2!=0)=true:=sU q4;have ah:kx.2=K.2:=hinv;rw[alq (by rw[<-ah];exact q4),<-ah]at hM;refine zA ?_;simp[go_sem,q,hx];refine zL ad cB (zR sg (by rw[bJ.bQ];rfl)) rfl ?_;simp[go_sem,wO,au];exact ret _ _ _ hM
def jf(T:bL)(e:bJ):Int×Int:=if iC e<=64/\jN e<=4096then mh T e else(0,3)
theorem MC(T:bL)(hT:T.cw.length<=maxLen)(e:bJ)(he:jt e):Pure prog 240 [.agg T.row,.agg e.row] (wO (jf T e)):=by
 have ab:=UQ (iC e) e 1 0 (A7 _) he.wide om om om om;have aa:=Vr T hT (iC e) e (A7 _) he.wide he.eD;generalize hM:jf T e=M;unfold jf at hM;generalize mh T e=k at aa hM;have ret:∀(x:Int×Int)(I:St),x=M->cz (some (.cC [.int .i64 x.1,.int .i64 x.2])) 0 (λr s=>r=wO M/\s=[]) I:=λx I h=>FW h;refine iW 0 func240 ntmps240 results240 λc hc hb=>zM ?_;simp[go_sem];refine mY 2 ab cB rfl (by rfl) ⟨.inl (by simp[go_sem,dL,dQ,du,dv]),zC rfl,.inl rfl,tV⟩ (λr I h=>by obtain⟨m2,rfl,_⟩:=h;exact⟨_,rfl,rfl⟩) ?_;rintro r o2 ⟨m2,h1,h2⟩;obtain rfl:o2=.box [.int .i64 m2]:=by grind
 rcases h2 with⟨h2,rfl,_⟩|⟨h2,rfl⟩;.rw[alq om]at hM;simp[go_sem];refine zL aa cB (zR sg (by rw[bJ.bQ];rfl)) rfl ?_;simp[go_sem,wO];exact ret _ _ hM
 .rw[alp om]at hM;simp[go_sem];exact ret (0,3) _ hM
end Go.Proofs.YtegbonbgofjlcaaGreat
