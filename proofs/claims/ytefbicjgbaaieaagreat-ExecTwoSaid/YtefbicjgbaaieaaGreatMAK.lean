/-
  The kinds of expressions by the document, over trees (the library Vx); used by the theorem at the end of the claim.
  Conditions: as each theorem states them.
-/
import Derived.Test.YtefbicjgbaaieaaGreatMAJ
import Derived.Test.YtefbicjgbaaieaaGreatMAF
set_option maxHeartbeats 8000000
namespace Go.Proofs.YtefbicjgbaaieaaGreat.R
open Go Go.Vx Go.Proofs.Tryz
set_option maxRecDepth 100000
variable {i:Nat}{n:Nat}{e:Int}{U:St}{x:Nat}{g:Tag}
def gG:afE->Nat->Nat->Nat×Nat×Int
 | [],_,_=>(0,0,2)
 |c::rest,i,v=>if i=9/\1<c.toNat then(0,0,5)else if c.toNat<128 then(if c.toNat=0/\0<i then(0,0,9)else(v+c.toNat%128*128^i,i+1,0))else gG rest (i+1) (v+c.toNat%128*128^i)
def EK (r:Nat×Nat×Int):V:= .cm [.int .u64 r.1,.int .i64 r.2.1,.int .i64 r.2.2]
theorem ZF:((List.range 256).all λm=>jv .andNot .u8 (m:Int) 128==((m%128:Nat):Int))=true:=by decide+kernel
theorem ZG (c:UInt8):jv .andNot .u8 (c.toNat:Int) 128=((c.toNat%128:Nat):Int):=by
 have h:=Ad.1 ZF c.toNat (Bz.2 c.toNat_lt)
 exact beq_iff_eq.1 h
theorem ZH {m:Nat} (hm:m<18446744073709551616) (hn:n<18446744073709551616) (ho:m|||n<18446744073709551616):jv .or .u64 (m:Int) (n:Int)=((m|||n:Nat):Int):=by
 show IntKind.u64.wrap ((BitVec.ofInt 64 (m:Int)|||BitVec.ofInt 64 (n:Int)).toNat:Int)=_
 rw[afo,afo,BitVec.toNat_or,afr,afr,Cm om,Cm om]
 exact dt om om
theorem Rw (i:Nat):128^i=2^(7*i):=by rw[Nat.pow_mul]
theorem ZI {v:Nat} (hv:v<128^i):v|||(x*128^i)=v+x*128^i:=by
 rw[Rw]at*
 have:=Nat.shiftLeft_add_eq_or_of_lt hv x
 rw[Nat.shiftLeft_eq]at this
 rw[Nat.or_comm,<-this,Dw]
theorem MK {v:Nat} (hv:v<128^i) (hx:x<128):v+x*128^i<128^(i+1):=by
 have:(x+1)*128^i<=128*128^i:=Af _ om
 rw[afC]
 rw[B0]at this
 omega
theorem Rx {v:Nat} (hv:v<128^i) (hx:x<128) (h9:i<=8\/i=9/\x<=1):v+x*128^i<18446744073709551616/\x*128^i<18446744073709551616:=by
 rcases h9 with h|⟨rfl,h⟩
 .have h1:=MK hv hx
  have h2:128^(i+1)<=128^9:=Nat.pow_le_pow_right om om
  omega
 .have:x=0\/x=1:=om
  rcases this with rfl|rfl<;>omega
theorem Jo {b:afE} (h:i<(zP b).length):(zP b)[i]= [.int .u8 (b[i]'(by rw[zT]at h;exact h)).toNat]:=by simp[zP]
theorem ML (b:afE) (ah:b.length<=cZ):Pure prog 147 [fJ b] (EK (gG b 0 0)):=by
 refine iV 0 func147 ntmps147 results147 λc hc hb=> ?_
 refine zA ?_
 simp[go_sem,fJ,zT]
 refine zH (S:=Nat×Nat) [2,7,8,9] (λu=> [.int .u64 u.2,fJ b,.int .i64 b.length,.int .i64 u.1]) (λ_=> []) (λu=>b.length - u.1) (λu=>u.1<=b.length/\u.1<=9/\u.2<128^u.1/\gG (b.drop u.1) u.1 u.2=gG b 0 0) hc hb (0,0) ⟨A5 _,A5 _,dc,rfl⟩ ?_ ?_
 .exact gV rfl (zN (by simp[go_sem,fJ]) rfl)
 rintro⟨i,v⟩ ⟨hi,h9,hv,ht⟩
 simp only at hi h9 hv ht
 refine zA ?_
 simp[go_sem,fJ]
 refine zS (λq=> ?_) (λq=> ?_)
 .have q:i<b.length:=sU q
  obtain⟨c0,ae⟩: ∃c,b[i]=c:=⟨_,rfl⟩
  rw[A2 q,ae,gG]at ht
  have ak:c0.toNat<256:=c0.toNat_lt
  have ei:IntKind.i64.wrap ((i:Int)+1)=((i+1:Nat):Int):=zR q (by unfold cZ at ah;omega)
  have ret: ∀(r:Nat×Nat×Int) (U:St),r=gG b 0 0->cj (some (EK r)) 0 (λr s=>r=EK (gG b 0 0)/\s= []) U:=λr U h=>by subst h;exact wR
  by_cases hA:i=9/\1<c0.toNat
  .rw[afb hA]at ht
   simp[go_sem,zT,q,Jo,ae]
   have f1:((i:Int)==9)=true:=by simp;omega
   refine xD (λw=> ?_) (λw=>absurd (f1.symm.trans w) dc)
   simp[go_sem,w]
   refine zS (λw2=> ?_) (λw2=>absurd w2 (by simp;omega))
   simp[go_sem]
   exact ret (0,0,5) _ ht
  rw[afa hA]at ht
  have ai:i<=8\/i=9/\c0.toNat%128<=1:=by
   by_cases h:i=9
   .exact .inr ⟨h,by
     have: ¬1<c0.toNat:=λw=>hA ⟨h,w⟩
     omega⟩
   .exact .inl om
  have hx:c0.toNat%128<128:=Cj _ om
  have n12:=Rx hv hx ai
  have fA:i=9-> ¬1<c0.toNat:=λh w=>hA ⟨h,w⟩
  have a1:=ZG c0
  have e1:IntKind.i64.wrap (7*(i:Int))=7*(i:Int):=bR om om
  have e2:IntKind.u64.wrap (7*(i:Int))=7*(i:Int):=dt om om
  have e3:IntKind.u64.wrap ((c0.toNat:Int)%128)=(c0.toNat:Int)%128:=dt om om
  obtain⟨x,ad⟩: ∃x:Nat,x=c0.toNat%128*128^i:=⟨_,rfl⟩
  obtain⟨m,af⟩: ∃m:Nat,m=v+x:=⟨_,rfl⟩
  have ag:m<128^(i+1):=by rw[af,ad];exact MK hv hx
  have aj:v|||x=m:=by rw[af,ad];exact ZI hv
  rw[<-ad,<-af]at ht n12
  have e4:IntKind.u64.wrap ((c0.toNat:Int)%128*2^min (7*(i:Int)).toNat 64)=(x:Int):=by
   have:min (7*(i:Int)).toNat 64=7*i:=om
   rw[this]
   have h3:(c0.toNat:Int)%128*2^(7*i)=(x:Int):=by rw[ad,Rw];simp
   rw[h3,dt om om]
  have e5:jv .or .u64 (v:Int) (x:Int)=(m:Int):=by rw[ZH om om om,aj]
  simp[go_sem,zT,q,Jo,ae]
  refine xD (λw=> ?_) (λw=> ?_)
  .have w9:i=9:=by simp at w;omega
   have w1:=fA w9
   simp[go_sem,w]
   refine zS (λw2=>absurd w2 (by simp;omega)) (λw2=> ?_)
   simp[go_sem,a1,e1,e2,e3,e4]
   try (refine zI om ?_;simp[go_sem,e5])
   refine zS (λw3=> ?_) (λw3=> ?_)
   .have w4: ¬c0.toNat<128:=by have:=afk w3;omega
    have i8:i+1<=9:=om
    rw[afa w4]at ht
    simp[go_sem,ei]
    exact zG (i+1,m) ⟨by simp only;omega,⟨q,i8,ag,ht⟩,gV rfl (zN (by simp[go_sem]) rfl)⟩
   .have w4:c0.toNat<128:=by have:=afq w3;omega
    rw[afb w4]at ht
    simp[go_sem]
    refine xD (λw5=> ?_) (λw5=> ?_)
    .have aa:c0.toNat=0:=by simp at w5;omega
     simp[go_sem,w5]
     refine zS (λw6=> ?_) (λw6=> ?_)
     .have ab:0<i:=sU w6
      rw[afb ⟨aa,ab⟩]at ht
      simp[go_sem]
      exact ret (0,0,9) _ ht
     .have ab: ¬0<i:=sU w6
      rw[afa (λh=>ab h.2)]at ht
      simp[go_sem,ei]
      exact ret (m,i+1,0) _ ht
    .have aa: ¬c0.toNat=0:=by simp at w5;omega
     rw[afa (λh=>aa h.1)]at ht
     simp[go_sem,w5,ei]
     exact ret (m,i+1,0) _ ht
  .have w9: ¬i=9:=by simp at w;omega
   simp[go_sem,w,a1,e1,e2,e3,e4]
   try (refine zI om ?_;simp[go_sem,e5])
   refine zS (λw3=> ?_) (λw3=> ?_)
   .have w4: ¬c0.toNat<128:=by have:=afk w3;omega
    have i8:i+1<=9:=om
    rw[afa w4]at ht
    simp[go_sem,ei]
    exact zG (i+1,m) ⟨by simp only;omega,⟨q,i8,ag,ht⟩,gV rfl (zN (by simp[go_sem]) rfl)⟩
   .have w4:c0.toNat<128:=by have:=afq w3;omega
    rw[afb w4]at ht
    simp[go_sem]
    refine xD (λw5=> ?_) (λw5=> ?_)
    .have aa:c0.toNat=0:=by simp at w5;omega
     simp[go_sem,w5]
     refine zS (λw6=> ?_) (λw6=> ?_)
     .have ab:0<i:=sU w6
      rw[afb ⟨aa,ab⟩]at ht
      simp[go_sem]
      exact ret (0,0,9) _ ht
     .have ab: ¬0<i:=sU w6
      rw[afa (λh=>ab h.2)]at ht
      simp[go_sem,ei]
      exact ret (m,i+1,0) _ ht
    .have aa: ¬c0.toNat=0:=by simp at w5;omega
     rw[afa (λh=>aa h.1)]at ht
     simp[go_sem,w5,ei]
     exact ret (m,i+1,0) _ ht
 .have q:i=b.length:=by
   have: ¬i<b.length:=sU q
   omega
  subst q
  rw[Cd,gG]at ht
  simp[go_sem]
  rw[<-ht]
  exact wR
theorem EL: ∀(l:afE) (i v:Nat),(gG l i v).2.2=0->(gG l i v).2.1<=i+l.length
 | [],i,v,h=>by simp[gG]at h
 |c::rest,i,v,h=>by
  unfold gG at h⊢
  split
  .simp_all
  .rename_i h1
   rw[afa h1]at h
   split
   .rename_i h2
    rw[afb h2]at h
    split
    .rename_i h3
     rw[afb h3]at h
     simp at h
    .simp
   .rename_i h2
    rw[afa h2]at h
    have:=EL rest (i+1) _ h
    simp only[Ab]
    omega
def wN (b:afE) (r:Nat×Nat×Int):afE×Nat×Int:=
 if r.2.2≠0 then([],0,r.2.2)else if 1048576<r.1 then([],0,3)else if b.length - r.2.1<r.1 then([],0,2)else((b.take (r.2.1+r.1)).drop r.2.1,r.2.1+r.1,0)
def sd (b:afE):afE×Nat×Int:=wN b (gG b 0 0)
def Jp (r:afE×Nat×Int):V:= .cm [fJ r.1,.int .i64 r.2.1,.int .i64 r.2.2]
theorem Jq {r:afE×Nat×Int} {rows:List (List V)} (h1:zP r.1=rows) (h2:r.2.1=n) (h3:r.2.2=e):
  cj (some (.cm [.sl g rows,.int .i64 n,.int .i64 e])) 0 (λv s=>v=Jp r/\s= []) U:=by
 subst h1 h2 h3
 have h:cF (cz [] U.length) (Jp r) (.cm [.sl g (zP r.1),.int .i64 r.2.1,.int .i64 r.2.2]):=wK ⟨xw,mf rfl,mf rfl,tV⟩
 exact yL h ⟨rfl,rfl⟩
theorem ZJ (b:afE) (ab:b.length<=cZ):Pure prog 222 [fJ b] (Jp (sd b)):=by
 have hle:=EL b 0 0
 have aa:=ML b ab
 unfold sd
 revert hle aa
 generalize gG b 0 0=r
 obtain⟨n,k,e⟩:=r
 intro hle aa
 simp only at hle
 refine iW 0 func222 ntmps222 results222 λc hc hb=>zL ?_
 simp[go_sem]
 refine pC aa ?_
 simp[go_sem,EK]
 refine zS (λh=> ?_) (λh=> ?_)
 .have h:e≠0:=sU h
  simp[go_sem]
  exact Jq (by simp[wN,h,zP]) (by simp[wN,h]) (by simp[wN,h])
 have h:e=0:=sU h
 have hk:=hle h
 have e1:IntKind.i64.wrap ((b.length:Int) - (k:Int))=((b.length - k:Nat):Int):=by rw[bR (by unfold cZ at*;omega) (by unfold cZ at*;omega)];omega
 have e2:IntKind.u64.wrap ((b.length - k:Nat):Int)=((b.length - k:Nat):Int):=dt om (by unfold cZ at*;omega)
 simp[go_sem]
 refine zS (λh2=> ?_) (λh2=> ?_)
 .have h2:1048576<n:=by have:=afk h2;omega
  simp[go_sem]
  exact Jq (by simp[wN,h,h2,zP]) (by simp[wN,h,h2]) (by simp[wN,h,h2])
 have h2: ¬1048576<n:=by have:=afq h2;omega
 simp[go_sem,fJ,zT,e1,e2]
 refine zS (λh3=> ?_) (λh3=> ?_)
 .have h3:b.length - k<n:=by have:=afk h3;omega
  simp[go_sem]
  exact Jq (by simp[wN,h,h2,h3,zP]) (by simp[wN,h,h2,h3]) (by simp[wN,h,h2,h3])
 have h3: ¬b.length - k<n:=by have:=afq h3;omega
 have e3:IntKind.i64.wrap (n:Int)=(n:Int):=bR om om
 have e4:IntKind.i64.wrap ((k:Int)+(n:Int))=((k+n:Nat):Int):=by rw[bR (by unfold cZ at*;omega) (by unfold cZ at*;omega)];omega
 simp[go_sem,zT,e3,e4]
 refine zI ⟨om,om,BV b⟩ ?_
 have e5:((k:Int)+(n:Int)).toNat=k+n:=om
 have hlen:((b.take (k+n)).drop k).length<=cZ:=by simp;omega
 simp[go_sem,e5]
 refine Ix (MF ((b.take (k+n)).drop k) 0 hlen dc) cB ⟨yc (by simp[zP,List.map_take,List.map_drop]),zC rfl,tV⟩ ?_
 rintro r s ⟨rfl,rfl⟩
 simp[go_sem,pQ,pS]
 exact Jq (by simp[wN,h,h2,h3]) (by simp[wN,h,h2,h3]) (by simp[wN,h,h2,h3])
def kh (u:Nat):Int:=if u%2=0 then((u/2:Nat):Int)else -((u/2:Nat):Int) - 1
structure iP where
 v:bG
 n:Nat
 e:Int
def iP.V (r:iP):V:= .cm [.agg r.v.row,.int .i64 r.n,.int .i64 r.e]
def v0:bG:=⟨0,0,[]⟩
def tI (b:afE):iP:=
 if b.length<2 then⟨v0,0,2⟩else if 1<(b.getD 1 0).toNat then⟨v0,0,9⟩else⟨⟨1,(b.getD 1 0).toNat,[]⟩,2,0⟩
theorem qG {r:iP} {k m:Int} {s:afE} (h:r=⟨⟨k,m,s⟩,n,e⟩):
  cj (some (.cm [.agg [.int .i64 k,.int .i64 m,.str s],.int .i64 n,.int .i64 e])) 0 (λv s=>v=r.V/\s= []) U:=by
 subst h
 exact wR
theorem ZK (b:afE) (_:b.length<=cZ):Pure prog 220 [fJ b] (tI b).V:=by
 refine iW 0 func220 ntmps220 results220 λc hc hb=>zL ?_
 simp[go_sem,fJ,zT]
 refine zS (λh=> ?_) (λh=> ?_)
 .have h:b.length<2:=by have:=afk h;omega
  simp[go_sem]
  exact qG (n:=0) (by simp[tI,h,v0])
 have h: ¬b.length<2:=by have:=afq h;omega
 have h1:1<b.length:=om
 obtain⟨c0,aa⟩: ∃c,b[1]=c:=⟨_,rfl⟩
 have ab:b.getD 1 0=c0:=by rw[A9,A0 h1,aa];rfl
 have e1:IntKind.i64.wrap (c0.toNat:Int)=(c0.toNat:Int):=bR om (by have:=c0.toNat_lt;omega)
 simp[go_sem,zT,h1,Jo,aa]
 refine zI om ?_
 simp[go_sem]
 refine zS (λh2=> ?_) (λh2=> ?_)
 .have h2:1<c0.toNat:=by have:=afk h2;omega
  simp[go_sem]
  exact qG (n:=0) (by simp only[tI,ab];rw[afa h,afb h2];rfl)
 .have h2: ¬1<c0.toNat:=by have:=afq h2;omega
  simp[go_sem,zT,h1,Jo,aa]
  refine zI om ?_
  simp[go_sem,e1]
  exact qG (n:=2) (by simp only[tI,ab];rw[afa h,afa h2])
theorem ZL {x:Int} (h:0<=x) (h2:x<=9223372036854775807):jv .xor .i64 x 0=x:=by
 obtain⟨m,rfl⟩:=Do h
 show IntKind.i64.wrap ((BitVec.ofInt 64 (m:Int)^^^BitVec.ofInt 64 0).toNat:Int)=m
 have e:BitVec.ofInt 64 (0:Int)=0#64:=rfl
 rw[e,BitVec.xor_zero,afo,afr,Cm om]
 exact bR om om
theorem ZM {x:Int} (h:0<=x) (h2:x<=9223372036854775807):jv .xor .i64 x (-1)= -x - 1:=by
 obtain⟨m,rfl⟩:=Do h
 show IntKind.i64.wrap ((BitVec.ofInt 64 (m:Int)^^^BitVec.ofInt 64 (-1)).toNat:Int)=_
 have e:BitVec.ofInt 64 (-1:Int)=BitVec.allOnes 64:=by decide+kernel
 rw[e,BitVec.xor_allOnes,afo,BitVec.toNat_not,afr,Cm om]
 rw[IntKind.wrap_i64]
 omega
theorem ZN {m:Nat} (h:m<18446744073709551616):jv .and .u64 (m:Int) 1=(m:Int)%2:=by
 show IntKind.u64.wrap ((BitVec.ofInt 64 (m:Int)&&&BitVec.ofInt 64 1).toNat:Int)=_
 have e:BitVec.ofInt 64 (1:Int)=1#64:=rfl
 rw[e,afo,BitVec.toNat_and,afr,Cm om]
 have e2:m&&&(1#64).toNat=m%2:=Nat.and_one_is_mod m
 rw[e2,dt om om]
 omega
theorem ZO (u:Nat) (hu:u<18446744073709551616):Pure prog 221 [.int .u64 u] (.int .i64 (kh u)):=by
 have e0:=ZN hu
 have e1:(u:Int).fdiv 2=(u:Int)/2:=Int.fdiv_eq_ediv_of_nonneg _ om
 have e3:IntKind.i64.wrap ((u:Int)/2)=(u:Int)/2:=bR om om
 have e4:IntKind.i64.wrap ((u:Int)%2)=(u:Int)%2:=bR om om
 have e5:IntKind.i64.wrap (-((u:Int)%2))= -((u:Int)%2):=bR om om
 have e6:jv .xor .i64 ((u:Int)/2) (-((u:Int)%2))=kh u:=by
  unfold kh
  by_cases h:u%2=0
  .rw[afb h,show -((u:Int)%2)=0 by omega,ZL om om];omega
  .rw[afa h,show -((u:Int)%2)= -1 by omega,ZM om om];omega
 refine iW 0 func221 ntmps221 results221 λc hc hb=>zL ?_
 simp[go_sem,e0,e1,e3,e4,e5,e6]
 exact wR
theorem Jr: ∀(l:afE) (i v:Nat),v<128^i->i<=9->(gG l i v).1<18446744073709551616
 | [],i,v,_,_=>by simp[gG]
 |c::rest,i,v,hv,h9=>by
  have hc:=c.toNat_lt
  unfold gG
  split
  .simp
  .rename_i h1
   have aa:i<=8\/i=9/\c.toNat%128<=1:=by
    by_cases h:i=9
    .exact .inr ⟨h,by
      have: ¬1<c.toNat:=λw=>h1 ⟨h,w⟩
      omega⟩
    .exact .inl om
   have hx:c.toNat%128<128:=Cj _ om
   have n12:=Rx hv hx aa
   split
   .split
    .simp
    .exact n12.1
   .rename_i h2
    refine Jr rest (i+1) _ (MK hv hx) ?_
    rcases aa with h|h
    .omega
    .exfalso
     have: ¬1<c.toNat:=λw=>h1 ⟨h.1,w⟩
     omega
def n9 (k:Nat) (tb:iP) (r:Nat×Nat×Int) (t:afE×Nat×Int):iP:=
 if k=0 then⟨v0,1,0⟩
 else if k=1 then tb
 else if k=2 then(if r.2.2≠0 then⟨v0,0,r.2.2⟩else⟨⟨2,kh r.1,[]⟩,1+r.2.1,0⟩)
 else if k=3 then(if t.2.2≠0 then⟨v0,0,t.2.2⟩else if 64<t.1.length then⟨v0,0,3⟩else⟨⟨3,0,t.1⟩,1+t.2.1,0⟩)
 else⟨v0,0,9⟩
def kV:afE->iP
 | []=>⟨v0,0,2⟩
 |c::rest=>n9 c.toNat (tI (c::rest)) (gG rest 0 0) (sd rest)
theorem Ry (b:afE):(sd b).2.1<=b.length/\((sd b).2.2=0->(sd b).1.length<=b.length):=by
 have hle:=EL b 0 0
 unfold sd wN
 revert hle
 generalize gG b 0 0=r
 obtain⟨n,k,e⟩:=r
 intro hle
 simp only at hle⊢
 split
 .simp
 .rename_i h
  have h:e=0:=Decidable.not_not.1 h
  have hk:=hle h
  split
  .simp
  .split
   .simp
   .refine⟨?_,λ_=> ?_⟩
    .simp only;omega
    .simp;omega
theorem ZP (b:afE) (ah:b.length<=cZ):Pure prog 148 [fJ b] (kV b).V:=by
 cases b with
 |nil=>
  refine iW 0 func148 ntmps148 results148 λc hc hb=>zL ?_
  simp[go_sem,fJ,zP]
  exact qG (n:=0) rfl
 |cons c0 rest=>
  have hc:=c0.toNat_lt
  have hr:rest.length<=cZ:=by simp only[Ab]at ah;omega
  have ab:=Jr rest 0 0 dc dc
  have hle:=EL rest 0 0
  have ad:=ML rest hr
  have ae:=ZJ rest hr
  have af:=Ry rest
  have ag:=ZK (c0::rest) ah
  have e1:IntKind.i64.wrap (c0.toNat:Int)=(c0.toNat:Int):=bR om om
  have aa:zP (c0::rest)= [.int .u8 c0.toNat]::zP rest:=rfl
  rw[kV]
  revert ab hle ad ae ag af
  generalize gG rest 0 0=r
  generalize sd rest=t
  generalize tI (c0::rest)=tb
  obtain⟨n,k,e⟩:=r
  obtain⟨tx,tk,te⟩:=t
  obtain⟨⟨bk,bn,bs⟩,bm,be⟩:=tb
  obtain⟨q,hq⟩:=eX c0.toNat
  intro ab hle ad ae af ag
  simp only at ab hle af
  rw[hq]at hc e1 aa⊢
  have e2:e=0->IntKind.i64.wrap (1+(k:Int))=((1+k:Nat):Int):=λh=>by
   have:=hle h
   rw[bR om (by unfold cZ at*;omega)];omega
  have e3:IntKind.i64.wrap (1+(tk:Int))=((1+tk:Nat):Int):=by rw[bR om (by unfold cZ at*;omega)];omega
  have e4:(zP rest).take rest.length=zP rest:=Aj (by rw[zT];omega)
  have hu:eS 1 ([V.int .u8 (q:Int)]::zP rest):=aa▸BV (c0::rest)
  refine iW 0 func148 ntmps148 results148 λc hc hb=>zL ?_
  simp[go_sem,fJ,aa,zT]
  refine zS (λw=>absurd w (by simp;omega)) (λw=> ?_)
  simp[go_sem,zT,e1]
  refine zS (λw1=> ?_) (λw1=> ?_)
  .have w1:q=0:=by simp at w1;omega
   simp[go_sem]
   exact qG (n:=1) (by simp[n9,w1,v0])
  have w1: ¬q=0:=by simp at w1;omega
  simp[go_sem]
  refine zS (λw2=> ?_) (λw2=> ?_)
  .have w2:q=1:=by simp at w2;omega
   simp[go_sem]
   refine zM ag cB (zN (by simp[fJ,aa]) rfl) rfl ?_
   simp[go_sem,iP.V]
   exact qG (n:=bm) (by simp[n9,w2])
  have w2: ¬q=1:=by simp at w2;omega
  simp[go_sem]
  refine zS (λw3=> ?_) (λw3=> ?_)
  .have w3:q=2:=by simp at w3;omega
   simp[go_sem,zT]
   refine zI ⟨om,hu⟩ ?_
   simp[go_sem,e4]
   refine pC ad ?_
   simp[go_sem,EK]
   refine zS (λw4=> ?_) (λw4=> ?_)
   .have w4:e≠0:=sU w4
    simp[go_sem]
    exact qG (n:=0) (by simp[n9,w3,w4,v0])
   have w4:e=0:=sU w4
   have e5:=e2 w4
   simp[go_sem]
   refine pC (ZO n ab) ?_
   simp[go_sem,e5]
   exact qG (n:=1+k) (by simp[n9,w3,w4])
  have w3: ¬q=2:=by simp at w3;omega
  simp[go_sem]
  refine zS (λw4=> ?_) (λw4=> ?_)
  .have w4:q=3:=by simp at w4;omega
   simp[go_sem,zT]
   refine zI ⟨om,hu⟩ ?_
   simp[go_sem,e4]
   refine pC ae ?_
   simp[go_sem,Jp,fJ]
   refine zS (λw5=> ?_) (λw5=> ?_)
   .have w5:te≠0:=sU w5
    simp[go_sem]
    exact qG (n:=0) (by simp[n9,w4,w5,v0])
   have w5:te=0:=sU w5
   simp[go_sem,zT]
   refine zS (λw6=> ?_) (λw6=> ?_)
   .have w6:64<tx.length:=by have:=afk w6;omega
    simp[go_sem]
    exact qG (n:=0) (by simp[n9,w4,w5,w6,v0])
   have w6: ¬64<tx.length:=by have:=afq w6;omega
   simp[go_sem]
   refine zI (wY _) ?_
   simp[go_sem,e3,Fu]
   exact qG (n:=1+tk) (by simp[n9,w4,w5,w6])
  have w4: ¬q=3:=by simp at w4;omega
  simp[go_sem]
  exact qG (n:=0) (by simp[n9,w1,w2,w3,w4,v0])
theorem iM (aa fa:List (List V)) (t:Int):Pure prog 146 [.agg [.sl .ro aa,.sl .ro fa],.int .i64 t] (.bool (decide (0<=t)&&decide (t<fa.length))):=by
 refine iW 0 func146 ntmps146 results146 λc hc hb=>zL ?_
 simp[go_sem]
 repeat' (first|(refine xD (λq=> ?_) (λq=> ?_)<;>simp[go_sem,q])|(refine zS (λq=> ?_) (λq=> ?_)<;>simp[go_sem,q]))
 all_goals exact yL (zC rfl) ⟨by simp_all,rfl⟩
theorem ZQ (b:afE):(kV b).e=0->(kV b).n<=b.length:=by
 cases b<;>grind[kV,EL,Ry,n9,tI]
def gM:Nat->afE->Option (List bG)
 |0,b=>if b= []then some []else none
 |n+1,b=>if(kV b).e=0 then(gM n (b.drop (kV b).n)).map ((kV b).v:: ·)else none
def sf (o:Option (List bG)):List bG×Int:=match o with
 |some l=>(l,0)
 |none=>([],9)
def jo (nc:Nat) (data:afE):List bG×Int:=
 if(gG data 0 0).2.2=0/\(gG data 0 0).1=nc then sf (gM nc (data.drop (gG data 0 0).2.1))else([],9)
def fu (ts:List bI) (table:Int) (data:afE):List bG×Int:=
 if h:0<=table/\table<ts.length then jo (ts[table.toNat]'om).bW.length data else([],1)
theorem ZR (b:afE) (k:Nat):List.drop k (List.take b.length (zP b))=zP (b.drop k):=by
 simp[Aj,zP]
def oc (r:List bG×Int):V:= .cm [.sl .ro (r.1.map bG.row),.int .i64 r.2]
theorem Rz {r:List bG×Int} {l:List bG} (h:r=(l,e)):cj (some (.cm [.sl g (l.map bG.row),.int .i64 e])) 0 (λv s=>v=oc r/\s= []) U:=by
 subst h
 exact yL (r:=oc (l,e)) (wK (gp:= [.sl .ro (l.map bG.row),.int .i64 e]) ⟨xw,mf rfl,tV⟩) sm
theorem Js {r:List bG×Int} (h:r=([],e)):cj (some (.cm [.sl g [],.int .i64 e])) 0 (λv s=>v=oc r/\s= []) U:=Rz (l:= []) h
theorem RA (ab:List (List V)) (ts:List bI) (table:Int) (data:afE) (hd:data.length<=cZ) (ak: ∀t∈ts,t.bW.length<=cZ):
  Pure prog 87 [.agg [.sl .ro ab,.sl .ro (ts.map bI.row)],.int .i64 table,.str data] (oc (fu ts table data)):=by
 have af:=Jr data 0 0 dc dc
 have hle:=EL data 0 0
 have ag:=ML data hd
 by_cases ht:0<=table/\table<ts.length
 .obtain⟨j,rfl⟩: ∃j:Nat,table=j:=⟨table.toNat,om⟩
  have hj:j<ts.length:=om
  obtain⟨t,aj⟩:=eX (ts[j])
  have al:=ak t (aj▸Aa hj)
  have hF:fu ts j data=jo t.bW.length data:=by
   simp_all[fu]
  rw[hF]
  unfold jo
  revert af hle ag
  generalize gG data 0 0=r
  obtain⟨n,k,e⟩:=r
  intro af hle ag
  simp only at af hle⊢
  obtain⟨nc,ae⟩:=eX t.bW.length
  rw[ae]at al⊢
  have eu:IntKind.u64.wrap (nc:Int)=nc:=dt om (by grind)
  refine iV 0 func87 ntmps87 results87 λc hc hb=> ?_
  refine zA ?_
  simp[go_sem]
  refine pC (iM ab (ts.map bI.row) j) ?_
  simp[go_sem,hj]
  refine zM ag cB (zN (by rfl) rfl) rfl ?_
  simp[go_sem,EK]
  have bad: ∀U:St,¬(e=0/\n=nc)->cj (some (.cm [.sl .full [],.int .i64 9])) 0 (λv s=>v=oc (if e=0/\n=nc then sf (gM nc (data.drop k))else([],9))/\s= []) U:=λU h=>Js (by grind)
  refine xD (λah=> ?_) (λah=> ?_)
  .have q1:e=0:=by grind
   simp[go_sem,ah,hj,aj,ae,eu]
   refine zS (λq2=> ?_) (λq2=> ?_)
   .have q2: ¬n=nc:=by grind
    simp[go_sem]
    exact bad _ om
   have q2:n=nc:=by grind
   have hk:=hle q1
   rw[afb ⟨q1,q2⟩]
   simp[go_sem]
   refine rL 12 3 dc rfl ?_
   refine zH (S:=Nat×Nat×List bG) [8,10,12,42,43] (λu=> [fJ data,.int .i64 u.2.1,.sl (.app 1) (u.2.2.map bG.row),.int .u64 nc,.int .u64 u.1]) (λu=> [.box [.sl .ro ab,.sl .ro (ts.map bI.row)],.app u.2.2.length 3]) (λu=>nc - u.1)
    (λu=>u.1<=nc/\u.2.1<=data.length/\u.2.2.length=u.1/\(gM (nc - u.1) (data.drop u.2.1)).map (u.2.2++ ·)=gM nc (data.drop k)) hc hb (0,k,[]) (by simp_all) ?_ ?_
   .exact ca 2 sm rfl rfl om (zD (by simp[go_sem,fJ,zP,q2]) rfl)
   rintro⟨i,at_,l⟩ ⟨hi,an,ao,aa⟩
   simp only at hi an ao aa
   have aq:data.length - at_<=cZ:=om
   have ai:=ZP (data.drop at_) (by simp;omega)
   have ad:=ZQ (data.drop at_)
   rw[C7]at ad
   refine zA ?_
   simp[go_sem]
   refine zS (λq3=> ?_) (λq3=> ?_)
   .have q3:i<nc:=by grind
    rw[show nc - i=(nc - i - 1)+1 by omega,gM]at aa
    revert ai ad aa
    generalize kV (data.drop at_)=r
    obtain⟨⟨vk,vn,vs⟩,rn,re⟩:=r
    intro aa ai ad
    simp only at ad aa
    simp[go_sem,fJ,zT]
    refine zI (by grind[BV]) ?_
    simp[go_sem]
    refine zM ai cB (zN (by grind[fJ,ZR]) rfl) rfl ?_
    simp[go_sem,iP.V]
    refine zS (λq4=> ?_) (λq4=> ?_)
    .have q4: ¬re=0:=by grind
     rw[afa q4]at aa
     simp[go_sem]
     rw[<-aa]
     exact Js rfl
    have q4:re=0:=by grind
    rw[afb q4]at aa
    have ar:=ad q4
    have ea:IntKind.i64.wrap ((at_:Int)+rn)=((at_+rn:Nat):Int):=by rw[bR om (by grind)];omega
    have ei:IntKind.u64.wrap ((i:Int)+1)=((i+1:Nat):Int):=by rw[dt om om];omega
    have au:(l.length+1)*32<=140737488355328:=by grind
    simp[go_sem]
    refine zI ⟨om,zX rfl⟩ ?_
    simp[go_sem,ea,ei]
    refine zG (i+1,at_+rn,l++ [⟨vk,vn,vs⟩]) ⟨om,⟨q3,by grind,by grind, ?_⟩,ca 2 sm rfl rfl om (zD (by simp[go_sem]) rfl)⟩
    rw[<-aa]
    simp only
    rw[show nc - (i+1)=nc - i - 1 by omega,Cn]
    cases gM (nc - i - 1) (data.drop (at_+rn))<;>simp
   .have q3:i=nc:=by grind
    subst q3
    simp[gM]at aa
    simp[go_sem,fJ,zT]
    refine zS (λq4=> ?_) (λq4=> ?_)
    .have q4:at_<data.length:=by grind
     rw[afa om]at aa
     simp[go_sem]
     rw[<-aa]
     exact Js rfl
    have q4:data.length<=at_:=by grind
    rw[afb q4]at aa
    simp[go_sem]
    rw[<-aa]
    exact Rz (by rfl)
  .have q1: ¬e=0:=by grind
   simp[go_sem,ah]
   exact bad _ om
 .have hF:fu ts table data=([],1):=by
   simp_all[fu,dif_neg]
  rw[hF]
  refine iV 0 func87 ntmps87 results87 λc hc hb=> ?_
  refine zA ?_
  simp[go_sem]
  refine pC (iM ab (ts.map bI.row) table) ?_
  have hn:(decide (0<=table)&&decide (table<((ts.map bI.row).length:Int)))=false:=by grind
  rw[hn]
  simp[go_sem]
  exact Js rfl
def be (v:Nat):Nat->afE
 |0=> []
 |k+1=>UInt8.ofNat (v/256^k)::be v k
theorem MM (v:Nat): ∀k,(be v k).length=k
 |0=>rfl
 |k+1=>by simp[be,MM v k]
theorem RB (a b:UInt8) (l m:afE):Op.bytesLess (a::l) (b::m)=if a.toNat<b.toNat then true else if b.toNat<a.toNat then false else Op.bytesLess l m:=by
 rw[Op.bytesLess]
 simp only[UInt8.lt_iff_toNat_lt]
 by_cases h1:a.toNat<b.toNat
 .grind
 .by_cases h2:b.toNat<a.toNat
  .grind
  .have:a=b:=UInt8.toNat_inj.1 om
   grind
def mj:afE->afE
 | []=> []
 |c::s=>if c=0 then 0::255::mj s else c::mj s
theorem MN: ∀s,(mj s).length<=2*s.length
 | []=>by decide
 |c::s=>by
  have:=MN s
  unfold mj
  split<;>simp<;>omega
theorem RC: ∀a b,mj (a++b)=mj a++mj b
 | [],b=>rfl
 |c::a,b=>by
  have:=RC a b
  rw[Ap,mj,mj]
  split<;>simp[this]
def ki (v:bG):afE:=
 if dO v=true then
  UInt8.ofNat v.kind.toNat::(if v.kind=1 then [UInt8.ofNat v.n.toNat]else if v.kind=2 then be (v.n+9223372036854775808).toNat 8 else if v.kind=3 then mj v.s++ [0,1]else [])
 else []
theorem ZS {v:bG}:(ki v).length<=2*v.s.length+10:=by
 grind[MN,MM,ki]
theorem ZT (a:Nat) (h:a<2^64):a^^^2^63=(2^63+a)%2^64:=by
 apply Nat.eq_of_testBit_eq
 intro j
 rw[Nat.testBit_xor,Nat.testBit_two_pow,Nat.testBit_mod_two_pow]
 rcases Aw j 63 with h1|h1|h1
 .rw[Nat.testBit_two_pow_add_gt h1]
  simp[show j<64 by omega,show ¬63=j by omega]
 .subst h1
  rw[Nat.testBit_two_pow_add_eq]
  simp
 .rw[Nat.testBit_lt_two_pow (Db h (Nat.pow_le_pow_right dc om))]
  simp[show ¬j<64 by omega,show ¬63=j by omega]
theorem ZU {n:Int} (h1: -9223372036854775808<=n) (h2:n<=9223372036854775807):jv .xor .u64 (IntKind.u64.wrap n) 9223372036854775808=(((n+9223372036854775808).toNat:Nat):Int):=by
 obtain⟨a,ha,aa⟩: ∃a:Nat,IntKind.u64.wrap n=(a:Int)/\(a:Int)=n%18446744073709551616:=by
  unfold IntKind.wrap
  simp[IntKind.bits,IntKind.signed]
  exact⟨(n%18446744073709551616).toNat,om,om⟩
 have hl:a<2^64:=om
 show IntKind.u64.wrap ((BitVec.ofInt 64 (IntKind.u64.wrap n)^^^BitVec.ofInt 64 ((9223372036854775808:Nat):Int)).toNat:Int)=_
 rw[ha,afo,afo,BitVec.toNat_xor,afr,afr,Cm hl,show 9223372036854775808%2^64=2^63 by decide,ZT a hl]
 unfold IntKind.wrap
 simp[IntKind.bits,IntKind.signed]
 omega
theorem ZV (n:Int) (hn:db n):Pure prog 256 [.int .i64 n] (.int .u64 (n+9223372036854775808).toNat):=by
 have e:=ZU hn.1 hn.2
 refine iW 0 func256 ntmps256 results256 λc hc hb=>zL ?_
 simp[go_sem,e]
 exact wR
theorem ZW (n:Int):IntKind.u8.wrap n<256:=by
 unfold IntKind.wrap
 simp[IntKind.bits,IntKind.signed]
 omega
theorem ZX (l:afE) (h:l.all (λc=>decide (c.toNat<=8))) (i:Nat):(l[i]?.getD 0).toNat<=8:=by
 rcases Bo i l.length with q|q
 .rw[A0 q]
  simpa using Ad.1 h _ (Aa q)
 .rw[Dc q];decide
theorem RD {n:Int} (h0:0<=n) (h:n<=64): ∃m:Nat,V.int .i64 n= .int .i64 m/\m<=64:=⟨n.toNat,by congr 1;omega,om⟩
theorem ZY (v:Nat) (_hv:v<18446744073709551616):bK prog 246 [.int .u64 v] [] λr s=>(∃n:Nat,r= .int .i64 n/\n<=64)/\s= []:=by
 have aa:IntKind.i64.wrap 48=48:=by decide+kernel
 have ab:IntKind.i64.wrap 40=40:=by decide+kernel
 have ad:IntKind.i64.wrap 16=16:=by decide+kernel
 have w8:IntKind.i64.wrap 8=8:=by decide+kernel
 have ae:IntKind.i64.wrap (48+8)=56:=by decide+kernel
 have af:IntKind.i64.wrap (16+8)=24:=by decide+kernel
 refine iW 0 func246 ntmps246 results246 λc hc hb=>zL ?_
 simp[go_sem]
 repeat' (refine zS (λq=> ?_) (λq=> ?_)<;>simp[go_sem])
 all_goals
  refine zI (ZW _) ?_
  generalize hx:UInt8.toNat (Option.getD _ _)=x
  have h8:x<=8:=hx▸ZX _ (by decide+kernel) _
  clear hx
  have e8:IntKind.i64.wrap (x:Int)=x:=bR om om
  simp[go_sem,e8]
 all_goals
  try simp only[aa,ab,ad,w8,ae,af]
  first
  |exact yL (zC rfl) ⟨RD om om,rfl⟩
  |(rw[bR om om]
    exact yL (zC rfl) ⟨RD om om,rfl⟩)
theorem ZZ (v k:Nat) (_hk:k<=7):IntKind.u8.wrap ((v:Int).fdiv (2^(8*k)))=((UInt8.ofNat (v/256^k)).toNat:Int):=by
 have e:(v:Int).fdiv (2^(8*k))=((v/256^k:Nat):Int):=by
  rw[Int.fdiv_eq_ediv_of_nonneg _ (by exact Int.le_of_lt (Int.pow_pos dc))]
  rw[show(2:Int)^(8*k)=((256^k:Nat):Int) by rw[Int.pow_mul];simp]
  rw[Int.natCast_ediv]
 rw[e,EI]
theorem Z0 (b:afE) (v:Nat) (ab:b.length<=cZ) (hv:v<18446744073709551616):Pure prog 255 [fJ b,.int .u64 v,.int .i64 8] (.cm [fJ (b++be v 8),.int .i64 0]):=by
 refine iV 0 func255 ntmps255 results255 λc hc hb=> ?_
 refine zA ?_
 simp[go_sem,fJ]
 refine WT (R:=λr=> ∃n:Nat,r= .int .i64 n/\n<=64) (ZY v hv) cB (zZ rfl) (λr h=>by obtain⟨b,rfl,_⟩:=h;rfl) ?_
 rintro r ⟨n,rfl,hn⟩
 have ad:IntKind.i64.wrap 64=64:=by decide+kernel
 simp[go_sem,ad]
 refine zS (λq=>absurd q (by simp;omega)) (λq=> ?_)
 simp[go_sem]
 refine Ix (MF b 8 ab dc) cB (zZ rfl) ?_
 rintro r s ⟨rfl,rfl⟩
 simp[go_sem,pQ,pS]
 have ew: ∀k:Nat,k<=8->IntKind.i64.wrap (8*(k:Int) - 8)=8*(k:Int) - 8:=λk h=>bR om om
 have ae:IntKind.i64.wrap (8*IntKind.i64.wrap 7)=56:=by decide+kernel
 refine zH (S:=Nat×afE) [1,8,9] (λu=> [.int .u64 v,pQ u.2,.int .i64 (8*(u.1:Int) - 8)]) (λu=>pS u.2) (λu=>u.1) (λu=>u.1<=8/\u.2++be v u.1=b++be v 8) hc hb (8,b) ⟨A3 _,rfl⟩ ?_ ?_
 .exact ca 1 (by simp[pS]) rfl rfl (A5 _) (zD (by simp[go_sem,pQ]) rfl)
 rintro⟨k,out⟩ ⟨hk,aa⟩
 simp only at hk aa
 have af:out.length+k=b.length+8:=by
  have:=aff List.length aa
  simpa[MM]using this
 refine zA ?_
 simp[go_sem,pQ,pS]
 refine zS (λq=> ?_) (λq=> ?_)
 .obtain⟨j,rfl⟩: ∃j,k=j+1:=⟨k - 1,by simp at q;omega⟩
  have e1:IntKind.u64.wrap (8*((j+1:Nat):Int) - 8)=((8*j:Nat):Int):=by rw[dt om om];omega
  have e2:IntKind.i64.wrap (8*((j+1:Nat):Int) - 8 - 8)=8*(j:Int) - 8:=by rw[bR om om];omega
  have e3:=ZZ v j om
  simp[go_sem]at e1 e2
  simp[go_sem,e1]
  refine zI om ?_
  have e4:min (8*(j:Int)).toNat 64=8*j:=om
  simp[go_sem,e4,e3]
  refine zI ⟨zT out,by rw[zT];unfold cZ at ab;omega,zX rfl⟩ ?_
  simp[go_sem,e2]
  rw[be]at aa
  refine zG (j,out++ [UInt8.ofNat (v/256^j)]) ⟨by simp only;omega,⟨by simp only;omega,by simpa using aa⟩,ca 1 sm rfl rfl (A5 _) (zD (by simp[go_sem,zP]) rfl)⟩
 .have:k=0:=by simp at q;omega
  subst this
  rw[show be v 0= [] from rfl,B6]at aa
  simp[go_sem]
  rw[<-aa]
  exact yL (wK (gp:= [fJ out,.int .i64 0]) ⟨xw,mf rfl,tV⟩) ⟨rfl,rfl⟩
theorem Z1 {v:bG} (h:dO v):v.kind=0\/v.kind=1\/v.kind=2\/v.kind=3:=by
 unfold dO at h
 by_cases h0:v.kind=0
 .exact .inl h0
 .by_cases h1:v.kind=1
  .exact .inr (.inl h1)
  .by_cases h2:v.kind=2
   .exact .inr (.inr (.inl h2))
   .by_cases h3:v.kind=3
    .exact .inr (.inr (.inr h3))
    .simp[h0,h1,h2,h3]at h
theorem Z2 {s:afE} (h:i<s.length):mj (s.take (i+1))=mj (s.take i)++(if s[i]=0 then [0,255]else [s[i]]):=by
 rw[Ce h,RC]
 simp only[mj]
theorem Z3 {s:Nat} {a b:List V} (h1:a.length=s) (h2:b.length=s):eS s [a,b]:=λr hr=>by
 simp at hr
 rcases hr with rfl|rfl<;>assumption
theorem RE {v:bG} (h:dO v):v.s.length<=64:=by
 unfold dO at h
 split at h
 .simp at h;rw[h.2];decide
 split at h
 .simp at h;rw[h.2];decide
 split at h
 .simp at h;rw[h];decide
 split at h
 .simp at h;exact h.2
 .cases h
theorem Z4 (b:afE) (v:bG) (hv:v.ok) (ad:b.length<=cZ - 1):Pure prog 179 [fJ b,.agg v.row] (fJ (b++ki v)):=by
 refine iV 0 func179 ntmps179 results179 λc hc hb=> ?_
 refine zA ?_
 obtain⟨k,n,s⟩:=v
 have hn:=hv.n
 simp only at hn
 simp[go_sem,fJ,zT]
 refine zI ⟨by unfold cZ at*;omega,by simp[eS],BV b⟩ ?_
 simp[go_sem]
 refine pC (EJ ⟨k,n,s⟩) ?_
 simp[go_sem]
 refine zS (λh=> ?_) (λh=> ?_)
 .simp[go_sem]
  refine tH ?_
  have h:dO ⟨k,n,s⟩=false:=sU h
  simp[ki,h,zP]
 have h:dO ⟨k,n,s⟩:=sU h
 have hs:s.length<=500:=by
   have:s.length<=64:=RE h
   omega
 have hk:=Z1 h
 simp only at hk
 simp[go_sem,zT]
 refine zI ⟨by unfold cZ at*;omega,zX rfl⟩ ?_
 have w0:IntKind.u8.wrap 0=0:=by decide+kernel
 have w1:IntKind.u8.wrap 1=1:=by decide+kernel
 have w2:IntKind.u8.wrap 2=2:=by decide+kernel
 have w3:IntKind.u8.wrap 3=3:=by decide+kernel
 rcases hk with rfl|rfl|rfl|rfl
 .simp[go_sem]
  refine tH ?_
  simp[ki,h,zP,w0]
 .have h1:n=0\/n=1:=by
   unfold dO at h
   simp at h
   exact h.1
  simp[go_sem]
  refine zI ⟨zT b,by rw[zT];unfold cZ at*;omega,zX rfl⟩ ?_
  simp[go_sem]
  refine tH ?_
  rcases h1 with rfl|rfl<;>simp[ki,h,zP,w0,w1]
 .simp[go_sem]
  obtain⟨u,hu⟩:=eX ((n+9223372036854775808).toNat)
  have hO:=ZV n hn
  rw[hu]at hO
  refine pC hO ?_
  simp[go_sem]
  refine zM (Z0 (b++ [2]) u (by simp;unfold cZ at*;omega) om) cB ⟨yc (by simp[zP,w2]),zC rfl,zC rfl,tV⟩ rfl ?_
  simp[go_sem]
  refine tH ?_
  simp[ki,h,hu]
 .simp[go_sem]
  refine zH (S:=Nat) [3,5,44,45] (λi=> [.ptr 0 0,.sl (.app 1) (zP (b++3::mj (s.take i))),.int .i64 s.length,.int .i64 i]) (λi=> [.box [.int .i64 3,.int .i64 n,.str s],.app (b++3::mj (s.take i)).length 1]) (λi=>s.length - i) (λi=>i<=s.length) hc hb 0 (A5 _) ?_ ?_
  .exact ca 2 (by simp[mj]) rfl rfl (A5 _) (zD (by simp[go_sem,mj,zP,w3]) rfl)
  intro i hi
  have ae:=MN (s.take i)
  have af:(s.take i).length<=s.length:=by simp;omega
  obtain⟨o,ho⟩: ∃o,b++3::mj (s.take i)=o:=⟨_,rfl⟩
  have ag:o.length<=cZ+1100:=by
   rw[<-ho]
   simp
   unfold cZ at*
   omega
  rw[ho]
  refine zA ?_
  simp[go_sem]
  refine zS (λq=> ?_) (λq=> ?_)
  .have q:i<s.length:=sU q
   have ei:=zR q om
   have aa:=Z2 q
   obtain⟨c0,ab⟩:=eX (s[i])
   simp[go_sem,q,ab,zT]
   refine zI ⟨by unfold cZ at*;omega,zX rfl⟩ ?_
   simp[go_sem,q,ab]
   refine zS (λq2=> ?_) (λq2=> ?_)
   .have q2:c0=0:=by
     have:c0.toNat=0:=by simp at q2;omega
     exact UInt8.toNat_inj.1 (sU this)
    rw[ab,afb q2]at aa
    simp[go_sem,zT]
    refine zI ⟨by unfold cZ at*;omega,zX rfl⟩ ?_
    simp[go_sem,ei]
    exact zG (i+1) ⟨om,q,ca 2 (by simp[aa,<-ho];omega) rfl rfl (A5 _) (zD (by simp[go_sem,aa,<-ho,zP,q2]) rfl)⟩
   .have q2: ¬c0=0:=λh=>by rw[h]at q2;simp at q2
    rw[ab,afa q2]at aa
    simp[go_sem,ei]
    exact zG (i+1) ⟨om,q,ca 2 (by simp[aa,<-ho];omega) rfl rfl (A5 _) (zD (by simp[go_sem,aa,<-ho,zP]) rfl)⟩
  .have q:i=s.length:=by
    have: ¬i<s.length:=sU q
    omega
   subst q
   simp[go_sem,zT]
   refine zI ⟨by unfold cZ at*;omega,Z3 rfl rfl⟩ ?_
   simp[go_sem]
   refine tH ?_
   rw[List.take_length]at ho
   simp[ki,h,zP,<-ho]
def si (n:Nat) (t:Int):Bool:=decide (0<=t)&&decide (t<n)
theorem MO {t:Int} (h:si n t): ∃j:Nat,t=j/\j<n:=by
 simp[si]at h
 exact⟨t.toNat,om,om⟩
def u9 (n:Nat) (t:Int) (v:bG):afE:=if si n t=true then UInt8.ofNat (t.toNat+1)::ki v else []
def og (n:Nat) (t:Int):afE×afE:=if si n t=true then([UInt8.ofNat (t.toNat+1)],[UInt8.ofNat (t.toNat+2)])else([],[])
theorem RF (aa fa:List (List V)) (t:Int) (v:bG) (hn:fa.length<=cZ) (hv:v.ok):Pure prog 107 [.agg [.sl .ro aa,.sl .ro fa],.int .i64 t,.agg v.row] (.str (u9 fa.length t v)):=by
 have ab:=iM aa fa t
 rw[show(decide (0<=t)&&decide (t<fa.length))=si fa.length t from rfl]at ab
 refine iW 0 func107 ntmps107 results107 λc hc hb=>zL ?_
 simp[go_sem]
 refine pC ab ?_
 unfold u9
 refine(A4 (si fa.length t)).elim (λh=> ?_) (λh=> ?_)
 .obtain⟨j,rfl,hj⟩:=MO h
  rw[h,afb rfl]
  have e1:IntKind.u8.wrap (IntKind.i64.wrap ((j:Int)+1))=((UInt8.ofNat (j+1)).toNat:Int):=by
   rw[bR om (by unfold cZ at hn;omega),show(j:Int)+1=((j+1:Nat):Int) by omega,EI]
  simp[go_sem,e1]
  refine zM (Z4 [UInt8.ofNat (j+1)] v hv (by simp[cZ])) cB ⟨yc (by simp[zP]),zC rfl,tV⟩ rfl ?_
  simp[go_sem,fJ]
  refine zI (wY _) ?_
  simp[go_sem,Fu]
  exact wR
 .rw[h]
  simp[go_sem]
  exact wR
theorem Z5 (aa fa:List (List V)) (t:Int) (v:bG) (hn:fa.length<=cZ) (hv:v.ok) (_hs:v.s.length<=500):Pure prog 107 [.agg [.sl .ro aa,.sl .ro fa],.int .i64 t,.agg v.row] (.str (u9 fa.length t v)):=RF aa fa t v hn hv
theorem Z6 (aa fa:List (List V)) (t:Int) (hn:fa.length<=cZ):Pure prog 108 [.agg [.sl .ro aa,.sl .ro fa],.int .i64 t] (.cm [.str (og fa.length t).1,.str (og fa.length t).2]):=by
 have ab:=iM aa fa t
 rw[show(decide (0<=t)&&decide (t<fa.length))=si fa.length t from rfl]at ab
 refine iW 0 func108 ntmps108 results108 λc hc hb=>zL ?_
 simp[go_sem]
 refine pC ab ?_
 unfold og
 refine(A4 (si fa.length t)).elim (λh=> ?_) (λh=> ?_)
 .obtain⟨j,rfl,hj⟩:=MO h
  rw[h,afb rfl]
  obtain⟨x,hx⟩:=eX (UInt8.ofNat (j+1))
  obtain⟨y,hy⟩:=eX (UInt8.ofNat (j+2))
  have e1:IntKind.u8.wrap (IntKind.i64.wrap ((j:Int)+1))=(x.toNat:Int):=by
   rw[bR om (by unfold cZ at hn;omega),show(j:Int)+1=((j+1:Nat):Int) by omega,EI,hx]
  have e2:IntKind.u8.wrap (IntKind.i64.wrap ((j:Int)+2))=(y.toNat:Int):=by
   rw[bR om (by unfold cZ at hn;omega),show(j:Int)+2=((j+2:Nat):Int) by omega,EI,hy]
  simp only
  simp[go_sem]
  refine yV [] 1 rfl kR kR ?_
  simp[go_sem,e1]
  refine zI (wY [x]) ?_
  have r1:sS [V.int IntKind.u8 x.toNat]=x:=by simp[sS]
  have r2:sS [V.int IntKind.u8 y.toNat]=y:=by simp[sS]
  simp[go_sem,e2,r1]
  refine zI (wY [y]) ?_
  simp[go_sem,r2]
  exact yL (zC rfl) ⟨by rw[<-hx,<-hy];simp,rfl⟩
 .rw[h]
  simp[go_sem]
  exact wR
end Go.Proofs.YtefbicjgbaaieaaGreat.R
namespace Go.Proofs.YtefbicjgbaaieaaGreat
open Go Go.Vx R Go.Proofs.Tryz
set_option maxRecDepth 100000
theorem Z7 (v:bG):(ki v).length<=140:=by
 by_cases h:dO v=true
 .have h1:=ZS (v:=v)
  have h2:=RE h
  omega
 .unfold ki;rw[afa h];simp
def pT (x y:afE):afE:=if Op.bytesLess x y=true then y else x
def va (x y:afE):afE:=if Op.bytesLess x y=true\/x=y then x else y
def vb (at_:afE) (sign:afE) (b:afE×afE):afE×afE:=
 if sign= [61]then(pT b.1 at_,va b.2 (at_++ [0]))
 else if sign= [60]then(b.1,va b.2 at_)
 else if sign= [60,61]then(b.1,va b.2 (at_++ [0]))
 else if sign= [62]then(pT b.1 (at_++ [0]),b.2)
 else if sign= [62,61]then(pT b.1 at_,b.2)
 else b
def yl (n:Nat) (t:Int) (name:afE) (l:List bH) (b:afE×afE):afE×afE:=
 l.foldl (λb e=>match n5 e name with|none=>b|some (s,v)=>vb (u9 n t v) s b) b
def GJ (T:bI):Option afE:=if 0<=T.key then(T.bW[T.key.toNat]?).map (·.name)else none
def tJ (ts:List bI) (t:Int) (st:bQ):afE×afE:=
 if si ts.length t=true then
  match (ts[t.toNat]?).bind GJ with
  |none=>og ts.length t
  |some name=>let b:=yl ts.length t name (nv st) (og ts.length t);(b.1,pT b.2 b.1)
 else og ts.length t
def MP (b:afE×afE):V:= .cm [.str b.1,.str b.2]
theorem RG (o:Option (afE×bG)):gR (mL o)=true:=by
 obtain _|⟨s,v⟩:=o<;>rfl
theorem Z8 (aa:List (List V)) (ts:List bI) (t:Int) (st:bQ) (hn:ts.length<=cZ) (_hc0: ∀T∈ts,T.bW.length<=maxLen) (hl:(nv st).length<=maxLen)
  (hv: ∀e∈nv st,∀name s v,n5 e name=some (s,v)->v.ok):
  Pure prog 60 [.agg [.sl .ro aa,.sl .ro (ts.map bI.row)],.int .i64 t,.agg st.row] (MP (tJ ts t st)):=by
 generalize hM:tJ ts t st=M
 have ret: ∀(r:afE×afE) (U:St),r=M->cj (some (.cm [.str r.1,.str r.2])) 0 (λr s=>r=MP M/\s= []) U:=λr U h=>by subst h;exact wR
 have ab:=Z6 aa (ts.map bI.row) t (sU hn)
 have ag:=Ro st
 simp only[Bb]at ab
 unfold tJ at hM
 generalize hA:og ts.length t=A at ab hM
 generalize hL:nv st=L at ag hM hl hv
 refine iV 0 func60 ntmps60 results60 λc hc hb=> ?_
 refine zA ?_
 simp[go_sem]
 refine pC ab ?_
 simp[go_sem]
 refine(A4 (si ts.length t)).elim (λh=> ?_) (λh=> ?_)
 rotate_left
 .simp only[h]at hM
  have h2:decide (t<0)=true\/(decide (t<0)=false/\decide ((ts.length:Int)<=t)=true):=by
   unfold si at h
   simp only[Bool.and_eq_false_iff,afi]at h
   simp only[afe,afi]
   omega
  refine h2.elim (λq=> ?_) (λq=> ?_)
  all_goals simp[go_sem,q]
  all_goals exact ret _ _ hM
 obtain⟨j,rfl,hj⟩:=MO h
 obtain⟨T,hT⟩:=eX (ts[j])
 have ax:decide ((ts.length:Int)<=j)=false:=afc om
 have ah:decide ((j:Int)<0)=false:=afc om
 simp only[h,afj,Ax,A0 hj,hT,Ao]at hM
 have ai:decide (ts.length<=j)=false:=afc om
 simp[go_sem,ah,ai,hj,hT]
 by_cases hk:0<=T.key/\T.key<T.bW.length
 rotate_left
 .have ad:GJ T=none:=by
   unfold GJ
   split
   .rw[Dc om];rfl
   .rfl
  rw[ad]at hM
  have h2:decide (T.key<0)=true\/(decide (T.key<0)=false/\decide ((T.bW.length:Int)<=T.key)=true):=by
   simp only[afe,afi]
   omega
  refine h2.elim (λq=> ?_) (λq=> ?_)
  all_goals simp[go_sem,q]
  all_goals exact ret _ _ hM
 obtain⟨m,hm⟩: ∃m:Nat,T.key=m:=⟨T.key.toNat,om⟩
 have ae:m<T.bW.length:=om
 obtain⟨C,hC⟩:=eX (T.bW[m])
 have ad:GJ T=some C.name:=by
  unfold GJ
  rw[afb om,hm,Ax,A0 ae,hC];rfl
 simp only[ad]at hM
 have aj:decide (T.key<0)=false:=afc om
 have ak:decide ((T.bW.length:Int)<=T.key)=false:=afc om
 simp[go_sem,aj,ak]
 refine zM ag cB (zN sg rfl) rfl ?_
 simp[go_sem]
 refine zH (S:=Nat×afE×afE) [1,3,6,7,8,52,53,54] (λu=> [.int .i64 j,.ptr 0 0,.str u.2.1,.str u.2.2,.ptr 1 0,.sl .ro (L.map bH.row),.int .i64 L.length,.int .i64 u.1])
  (λ_=> [.box [.sl .ro aa,.sl .ro (ts.map bI.row)],.box T.row]) (λu=>L.length - u.1)
  (λu=>u.1<=L.length/\yl ts.length j C.name (L.drop u.1) u.2=yl ts.length j C.name L A) hc hb (0,A) ⟨A5 _,rfl⟩ ?_ ?_
 .exact AQ [0,2] dc rfl ⟨by simp[go_sem,yF,dv,du],by simp[go_sem,yF,dv,du],tV⟩
   ⟨zC rfl,.inl (by simp[go_sem,dy,dL,dv,du,cz]),zC rfl,zC rfl,.inl (by simp[go_sem,dy,dL,dv,du,cz]),zK,zC rfl,zC rfl,tV⟩
 rintro⟨i,b⟩ ⟨hi,hinv⟩
 simp only at hi hinv
 by_cases q:i<L.length
 rotate_left
 .rw[A8 om]at hinv
  have al:b=yl ts.length j C.name L A:=hinv
  rw[<-al]at hM
  refine zA ?_
  simp[go_sem,q]
  exact ret (b.1,pT b.2 b.1) _ hM
 have ei:=zR q (by unfold maxLen at hl;omega)
 obtain⟨x,hx⟩:=eX (L[i])
 have an:x∈L:=hx▸Aa q
 rw[A2 q,hx]at hinv
 have ao:=Rq x C.name
 have aq:=hv x an C.name
 have aw:=bH.bN x
 refine zA ?_
 simp[go_sem,q,hx]
 refine yV [(8,0),(15,3)] 3 sm kR kR ?_
 have ar:T.bW[m]? =some C:=by rw[A0 ae,hC]
 simp[go_sem,hm,ar]
 refine zI ae ?_
 simp[go_sem]
 refine qo ao cB (λ_=>zN sg (by rw[bH.bN];rfl)) (RG _) ?_
 cases ha:n5 x C.name with
 |none=>
  simp only[yl,B8,ha]at hinv
  simp[go_sem,mL,Jm,ei]
  refine zG (i+1,b) ⟨by simp only;omega,⟨by simp only;omega,hinv⟩, ?_⟩
  exact ca 2 (by simp[go_sem,hm]) rfl (by rfl) (A5 _) (zD sg rfl)
 |some p=>
  obtain⟨s,v⟩:=p
  have au:=aq s v ha
  have af:=RF aa (ts.map bI.row) j v (sU hn) au
  simp only[Bb]at af
  simp only[yl,B8,ha]at hinv
  obtain⟨B,hB⟩:=eX (u9 ts.length j v)
  have av:B.length<=9223372036854775806:=by
   have:=Z7 v
   rw[<-hB];unfold u9;rw[afb h];simp only[Ab];omega
  rw[hB]at af
  simp[go_sem,mL]
  refine zM af cB (zN sg rfl) rfl ?_
  simp[go_sem]
  refine zI av ?_
  simp[go_sem]
  have fin: ∀b',vb B s b=b'->yl ts.length j C.name (L.drop (i+1)) b'=yl ts.length j C.name L A:=λb' h=>by rw[<-h,<-hB];exact hinv
  repeat' (first|(refine zS (λq=> ?_) (λq=> ?_)<;>simp[go_sem,q,ei]))
  all_goals simp only[afh,beq_eq_false_iff_ne]at*
  all_goals refine zG (i+1,vb B s b) ⟨by simp only;omega,⟨by simp only;omega,fin _ rfl⟩, ?_⟩
  all_goals refine ca 2 (by simp[go_sem,hm]) rfl (by rfl) (A5 _) (zD ?_ rfl)
  all_goals unfold vb pT va
  all_goals simp[go_sem, *]
theorem tK:(Tryz.prog.funcs.all λfn=> !(fn.name== "runtime.NumGoroutine"))=true:=kR
theorem tL:Tryz.prog.follows .mixedOrders=true:=kR
def marks (f:Nat):afF:=if f=185 then [7]else []
def MQ:x5:=⟨[1],[],[0,1],0,0,0⟩
def vc:bI:=⟨[84],[⟨[82],2,false⟩,⟨[75],2,false⟩,⟨[86],3,true⟩,⟨[78],2,true⟩],1,0,0,MQ⟩
def BW:bI:=⟨[71],[⟨[75],3,false⟩,⟨[78],2,false⟩,⟨[66],1,true⟩],0,1,0,MQ⟩
def BX:bI:=⟨[72],[⟨[66],1,false⟩,⟨[78],2,true⟩],0,2,1,MQ⟩
def bM:List bI:= [vc,BW,BX]
def xZ:List (List V):= [[.int .i64 0],[.int .i64 0],[.int .i64 1],[.int .i64 1]]
def BY:V:= .agg [.sl .full xZ,.sl .full (bM.map bI.row)]
def dS (ts:List bI):V:= .agg [.sl .ro xZ,.sl .ro (ts.map bI.row)]
theorem Z9:Pure prog 39 [] BY:=uL tK tL marks 10000 kR
theorem xF1 {ρ:Nat->Nat}:cF ρ (dS bM) BY:=xx ⟨yX,yX,tV⟩
def jU (t r:Int):Int×Int:=if t=0 then(if r=0 then(0,0)else if r=1 then(1,0)else(0,19))else if t=1 then(2,0)else if t=2 then(3,0)else(0,1)
def Jt (p:Int×Int):V:= .cm [.int .i64 p.1,.int .i64 p.2]
theorem RH (t r:Int) (h:t=0\/t=1\/t=2) (hr:r= -1\/r=0\/r=1\/r=2\/r=3\/r=4):Pure prog 62 [dS bM,.int .i64 t,.int .i64 r] (Jt (jU t r)):=by
 rcases h with rfl|rfl|rfl<;>rcases hr with rfl|rfl|rfl|rfl|rfl|rfl<;>exact uL tK tL marks 10000 kR
theorem xj5 (j:Nat) (hj:j<3):Pure prog 62 [dS (bM.take (j+1)),.int .i64 j,.int .i64 0] (Jt (jU j 0)):=by
 match j,hj with
 |0,_=>exact uL tK tL marks 10000 kR
 |1,_=>exact uL tK tL marks 10000 kR
 |2,_=>exact uL tK tL marks 10000 kR
def fp (r:Int):Int×Int×Int:=if r=0 then(0,0,0)else if r=1 then(0,1,0)else if r=2 then(1,-1,0)else if r=3 then(2,1,0)else(0,0,1)
def EM (p:Int×Int×Int):V:= .cm [.int .i64 p.1,.int .i64 p.2.1,.int .i64 p.2.2]
theorem xO1:Pure prog 111 [dS bM] (.int .i64 0):=uL tK tL marks 10000 kR
theorem xp9:Pure prog 116 [dS bM] (.sl .ro [[.int .i64 0],[.int .i64 1]]):=
 bK.HO (XE tK tL marks 10000 (v:= .cJ 1 1 4 0 2) (U':= [.box [.sl .ro xZ,.sl .ro (bM.map bI.row)],.cc [[.int .i64 0],[.int .i64 1],[.int .i64 0],[.int .i64 0]] 1]) kR)
  (λr s ⟨h1,h2⟩=>by subst h1;subst h2;exact⟨_,_,.step 1 1 [[.int .i64 0],[.int .i64 1],[.int .i64 0],[.int .i64 0]] rfl rfl (.refl _ _),zK⟩)
def Ju (t:Nat):Int:=if t=0 then 2 else 1
theorem MR (j:Nat) (hj:j<3):Pure prog 145 [dS bM,.agg (bM[j]'hj).row] (.int .i64 (Ju j)):=by
 match j,hj with
 |0,_=>exact uL tK tL marks 10000 kR
 |1,_=>exact uL tK tL marks 10000 kR
 |2,_=>exact uL tK tL marks 10000 kR
theorem Jv {M:Int×Int×Int} {a b e:Int} {U:St} (h:(a,b,e)=M):cj (some (.cm [.int .i64 a,.int .i64 b,.int .i64 e])) 0 (λr s=>r=EM M/\s= []) U:=by subst h;exact wR
theorem GK (g:Nat) (hg:g<1000):Pure prog 86 [dS bM,.int .i64 g] (EM (fp g)):=by
 have ab:=MR 0 dc
 have ad:=MR 1 dc
 have ae:=MR 2 dc
 have hr:=xp9
 generalize hM:fp g=M
 refine iV 0 func86 ntmps86 results86 λc hc hb=> ?_
 refine zA ?_
 simp[go_sem,dS]
 have h0:decide ((g:Int)<0)=false:=afc om
 simp[go_sem,h0]
 refine zH (S:=Nat×Nat) [1,2,13,14,15] (λu=> [.int .i64 u.2,.ptr 0 0,.sl .ro (bM.map bI.row),.int .i64 3,.int .i64 u.1]) (λ_=> [.box [.sl .ro xZ,.sl .ro (bM.map bI.row)]]) (λu=>3 - u.1)
  (λu=>(u.1=0/\u.2=g)\/(u.1=1/\u.2+2=g)\/(u.1=2/\u.2+3=g)\/(u.1=3/\u.2+4=g)) hc hb (0,g) (.inl ⟨rfl,rfl⟩) ?_ ?_
 .exact aM 1 (by rfl) (zD (by simp[go_sem];rfl) rfl)
 rintro⟨i,r⟩ h
 simp only at h
 refine h.elim (λ⟨h1,h2⟩=> ?_) λh=>h.elim (λ⟨h1,h2⟩=> ?_) λh=>h.elim (λ⟨h1,h2⟩=> ?_) λ⟨h1,h2⟩=> ?_
 .subst h1
  refine zA ?_
  simp[go_sem,bM]
  refine zM ab cB (zN (by simp[go_sem,dS,bM]) rfl) rfl ?_
  simp[go_sem,Ju]
  by_cases q:2<=r
  .have q':decide ((2:Int)<=r)=true:=afd om
   have e:IntKind.i64.wrap ((r:Int) - 2)=((r - 2:Nat):Int):=by rw[bR om om];omega
   simp[go_sem,q',e]
   exact zG (1,r - 2) ⟨by simp only;omega,.inr (.inl ⟨rfl,by simp only;omega⟩),aN 1 (by rfl)⟩
  .have q':decide ((2:Int)<=r)=false:=afc om
   simp[go_sem,q',show vc.place=0 from rfl]
   refine yV [(2,0)] 2 sm kR kR ?_
   simp[go_sem]
   refine qo hr cB (λ_=>zN (by simp[go_sem,dS,bM,show vc.place=0 from rfl]) rfl) rfl ?_
   have aa:r=0\/r=1:=om
   refine aa.elim (λe=> ?_) (λe=> ?_)
   all_goals subst e
   all_goals simp[go_sem]
   all_goals exact Jv (by rw[<-hM,<-h2];rfl)
 .subst h1
  refine zA ?_
  simp[go_sem,bM]
  refine zM ad cB (zN (by simp[go_sem,dS,bM]) rfl) rfl ?_
  simp[go_sem,Ju]
  by_cases q:1<=r
  .have q':decide ((1:Int)<=r)=true:=afd om
   have e:IntKind.i64.wrap ((r:Int) - 1)=((r - 1:Nat):Int):=by rw[bR om om];omega
   simp[go_sem,q',e]
   exact zG (2,r - 1) ⟨by simp only;omega,.inr (.inr (.inl ⟨rfl,by simp only;omega⟩)),aN 1 (by rfl)⟩
  .have q':decide ((1:Int)<=r)=false:=afc om
   simp[go_sem,q',show BW.place=1 from rfl]
   have aa:r=0:=om
   subst aa
   exact Jv (by rw[<-hM,<-h2];rfl)
 .subst h1
  refine zA ?_
  simp[go_sem,bM]
  refine zM ae cB (zN (by simp[go_sem,dS,bM]) rfl) rfl ?_
  simp[go_sem,Ju]
  by_cases q:1<=r
  .have q':decide ((1:Int)<=r)=true:=afd om
   have e:IntKind.i64.wrap ((r:Int) - 1)=((r - 1:Nat):Int):=by rw[bR om om];omega
   simp[go_sem,q',e]
   exact zG (3,r - 1) ⟨by simp only;omega,.inr (.inr (.inr ⟨rfl,by simp only;omega⟩)),aN 1 (by rfl)⟩
  .have q':decide ((1:Int)<=r)=false:=afc om
   have aa:r=0:=om
   subst aa
   simp[go_sem,show BX.place=2 from rfl]
   refine yV [] 2 sm kR kR ?_
   simp[go_sem]
   exact Jv (by rw[<-hM,<-h2];rfl)
 .subst h1
  refine zA ?_
  simp[go_sem,bM]
  exact Jv (by rw[<-hM,<-h2];unfold fp;rw[afa om,afa om,afa om,afa om])
theorem wb9 (v:bG) (l:afH):([.box v.row,.cc (l.map yQ) 1]:St).all (bP 2)=true:=by simp[bP,cK,cG,yQ,bG.row]
theorem RI (v:bG) (r:Int):bK prog 113 [.int .i64 r,.ptr 0 0] [.box v.row] (λx s=>x= .bool (r !=v.n)/\s= [.box v.row]):=by
 refine iW 1 func113 ntmps113 results113 λc hc hb=>zL ?_
 simp[go_sem]
 exact xM 1 sg rfl rfl (A3 _) (zC rfl) ⟨rfl,rfl⟩
def kj (p:Int->Bool):afH->Nat->Int
 | [],_=> -1
 |x::l,i=>if p x=true then i else kj p l (i+1)
theorem we8 (v:bG) (xs:afH) (m:Nat) (hm:m<=xs.length) (hl:xs.length<=1000):
  bK prog 182 [.cJ 1 1 xs.length 0 m,.fn 113 [.ptr 0 0]] [.box v.row,.cc (xs.map yQ) 1]
   (λr s=>r= .int .i64 (kj (λx=>x !=v.n) (xs.take m) 0)/\s= [.box v.row,.cc (xs.map yQ) 1]):=by
 generalize hM:kj (λx=>x !=v.n) (xs.take m) 0=M
 have ret: ∀(r:Int) (U:St),r=M->U.take 2= [.box v.row,.cc (xs.map yQ) 1]->cj (some (.int .i64 r)) 2 (λr s=>r= .int .i64 M/\s= [.box v.row,.cc (xs.map yQ) 1]) U:=λr U h hs=>by subst h;exact xM 2 hs rfl (by simp[bP,cK,cG,yQ,bG.row]) (A3 _) (zC rfl) ⟨rfl,rfl⟩
 refine iV 2 func182 ntmps182 results182 λc hc hb=> ?_
 refine zA ?_
 simp[go_sem]
 refine zH (S:=Nat) [0,1,7,8] (λi=> [.cJ 1 1 xs.length 0 m,.fn 113 [.ptr 0 0],.int .i64 m,.int .i64 i]) (λ_=> [.box v.row,.cc (xs.map yQ) 1]) (λi=>m - i) (λi=>i<=m/\kj (λx=>x !=v.n) ((xs.take m).drop i) i=M) hc hb 0 ⟨A5 _,hM⟩ ?_ ?_
 .exact aN 2 (by simp[bP,cK,cG,yQ,bG.row])
 rintro i ⟨hi,hinv⟩
 by_cases q:i<m
 rotate_left
 .rw[A8 (by simp;omega)]at hinv
  refine zA ?_
  simp[go_sem,q]
  exact ret _ _ hinv rfl
 have ei:=zR q om
 have aa:i<xs.length:=om
 obtain⟨x,hx⟩:=eX (xs[i])
 have ab:(xs.take m)[i]'(by simp;omega)=x:=by rw[List.getElem_take];exact hx
 rw[A2 (by simp;omega),ab,kj]at hinv
 have hd:=RI v x
 obtain⟨b,ad⟩:=eX ((x !=v.n))
 rw[ad]at hd hinv
 refine zA ?_
 simp[go_sem,q,aa,hx]
 refine rK 1 hd cB sg rfl rfl (oJ rfl) (λr s h=>by obtain⟨rfl,rfl⟩:=h;exact⟨rfl,rfl,rfl⟩) ?_
 rintro r s ⟨rfl,rfl⟩
 simp[go_sem]
 refine zS (λw=> ?_) (λw=> ?_)
 .rw[afb w]at hinv
  simp[go_sem]
  exact ret _ _ hinv rfl
 .rw[afa (by rw[w];decide)]at hinv
  simp[go_sem,ei]
  exact zG (i+1) ⟨om,⟨q,hinv⟩,aN 2 (by simp[bP,cK,cG,yQ])⟩
def kD (n:Int) (l:afH):afH:=l.filter (· ==n)
theorem RJ {n:Int}: ∀(l:afH) (i:Nat),kj (λx=>x !=n) l i= -1->kD n l=l
 | [],_,_=>rfl
 |x::l,i,h=>by
  unfold kj at h
  split at h
  .omega
  .rename_i q
   have:=RJ l (i+1) h
   have hx:(x==n)=true:=sU q
   unfold kD at this⊢
   rw[List.filter_cons_of_pos (sU hx),this]
theorem RL {n:Int}: ∀(l:afH) (i:Nat),kj (λx=>x !=n) l i≠ -1-> ∃k,kj (λx=>x !=n) l i=((i+k:Nat):Int)/\k<l.length/\kD n (l.take k)=l.take k/\(∀x,l[k]? =some x->x≠n)
 | [],i,h=>absurd rfl h
 |x::l,i,h=>by
  unfold kj at h⊢
  split
  .rename_i q
   exact⟨0,sm,sm,rfl,λy hy=>by simp at hy;subst hy;simpa using q⟩
  .rename_i q
   rw[afa q]at h
   obtain⟨k,h1,h2,h3,h4⟩:=RL l (i+1) h
   have hx:(x==n)=true:=sU q
   refine⟨k+1,by rw[h1];congr 1;omega,by simp;omega, ?_,λy hy=>h4 y (sU hy)⟩
   unfold kD at h3⊢
   rw[Bl,List.filter_cons_of_pos (sU hx),h3]
theorem MS {n:Int} {xs:afH} {j:Nat} {x:Int} (h:xs[j]? =some x):kD n (xs.take (j+1))=kD n (xs.take j)++(if x=n then [x]else []):=by
 unfold kD
 rw[Cp,h,List.filter_append]
 by_cases q:x=n
 .simp[q]
 .simp[q]
theorem xX5 (v:bG) (xs:afH) (m:Nat) (hm:m<=xs.length) (hl:xs.length<=1000):
  bK prog 112 [.cJ 1 1 xs.length 0 m,.fn 113 [.ptr 0 0]] [.box v.row,.cc (xs.map yQ) 1]
   (λr s=> ∃ys:afH,ys.length=xs.length/\(kD v.n (xs.take m)).length<=m/\ys.take (kD v.n (xs.take m)).length=kD v.n (xs.take m)/\r= .cJ 1 1 xs.length 0 (kD v.n (xs.take m)).length/\s= [.box v.row,.cc (ys.map yQ) 1]):=by
 obtain⟨K,hK⟩:=eX (kD v.n (xs.take m))
 have an:K.length<=m:=by rw[<-hK];unfold kD;exact An (De _ _) (by simp;omega)
 rw[hK]
 have ret: ∀(ys:afH) (k:Nat) (U:St),ys.length=xs.length->k=K.length->ys.take K.length=K->U.take 2= [.box v.row,.cc (ys.map yQ) 1]->
   cj (some (.cJ 1 1 xs.length 0 k)) 2 (λr s=> ∃ys:afH,ys.length=xs.length/\K.length<=m/\ys.take K.length=K/\r= .cJ 1 1 xs.length 0 K.length/\s= [.box v.row,.cc (ys.map yQ) 1]) U:=λys k U h1 h2 h3 h4=>by
  subst h2
  exact xM 2 h4 rfl (by simp[bP,cK,cG,yQ,bG.row]) (A3 _) (s8 rfl) ⟨ys,h1,an,h3,rfl,rfl⟩
 have ao:=we8 v xs m hm hl
 refine iV 2 func112 ntmps112 results112 λc hc hb=> ?_
 refine zA ?_
 simp[go_sem]
 refine rK 2 ao cB sg rfl (by simp[bP,cK,cG,yQ,bG.row]) (oJ rfl) (λr s h=>by obtain⟨rfl,rfl⟩:=h;exact⟨rfl,by simp[bP,cK,cG,yQ,bG.row],rfl⟩) ?_
 rintro r s ⟨rfl,rfl⟩
 by_cases h0:kj (λx=>x !=v.n) (xs.take m) 0= -1
 .have ag:=RJ _ _ h0
  rw[hK]at ag
  rw[h0]
  simp[go_sem]
  exact ret xs m _ rfl (by rw[ag];simp;omega) (by rw[ag];simp) (by rfl)
 obtain⟨k,h1,h2,h3,h4⟩:=RL _ _ h0
 rw[A7]at h1
 rw[h1]
 have aq:k<m:=by simp at h2;omega
 have ar:((k:Int)== -1)=false:=sm
 have ek:IntKind.i64.wrap ((k:Int)+1)=((k+1:Nat):Int):=by rw[bR om om];omega
 have au:kD v.n (xs.take (k+1))=xs.take k:=by
  have ai:k<xs.length:=om
  have h5:=h4 xs[k] (by rw[Av,afb aq,A0 ai])
  rw[MS (A0 ai),afa h5,B6]
  rw[List.take_take,Dd om]at h3
  exact h3
 simp[go_sem,ar,ek]
 refine zH (S:=Nat×Nat×afH) [0,1,5,6] (λu=> [.cJ 1 1 xs.length 0 m,.fn 113 [.ptr 0 0],.int .i64 u.1,.int .i64 u.2.1]) (λu=> [.box v.row,.cc (u.2.2.map yQ) 1]) (λu=>m - u.2.1)
  (λu=>u.1<u.2.1/\u.2.1<=m/\u.2.2.length=xs.length/\u.2.2.take u.1=kD v.n (xs.take u.2.1)/\u.2.2.drop u.2.1=xs.drop u.2.1) hc hb (k,k+1,xs) ⟨by simp only;omega,by simp only;omega,rfl,au.symm,rfl⟩ ?_ ?_
 .exact aN 2 (by simp[bP,cK,cG,yQ,bG.row])
 rintro⟨i,j,ys⟩ ⟨av,aw,ad,aa,ab⟩
 simp only at av aw ad aa ab
 by_cases q:j<m
 rotate_left
 .have hj:j=m:=om
  subst hj
  rw[hK]at aa
  have aj:i=K.length:=by rw[<-aa];simp;omega
  have af:i<=j:=om
  refine zA ?_
  simp[go_sem]
  refine zI af ?_
  simp[go_sem,ad]
  refine zI om ?_
  simp[go_sem]
  refine zI (.inl af) ?_
  simp[go_sem]
  refine ret (ys.take i++List.replicate (j - i) 0++ys.drop (i+(j - i))) i _ (by simp;omega) aj (by rw[<-aj,Bu,List.take_append_of_le_length (by simp;omega)];rw[List.take_take,Nat.min_self,aa]) ?_
  simp[go_sem,yQ]
 have ej:=zR q om
 have ax:j<ys.length:=om
 have ay:j<xs.length:=om
 obtain⟨x,hx⟩:=eX (ys[j])
 have az:ys[j]? =some x:=by rw[A0 ax,hx]
 have ak:xs[j]? =some x:=by
  have:=aff (λl=>l[0]?) ab
  simp only[Bw,D2]at this
  rw[<-this,az]
 have ei:IntKind.i64.wrap ((i:Int)+1)=((i+1:Nat):Int):=by rw[bR om om];omega
 have hd:=RI v x
 obtain⟨b,ah⟩:=eX ((x !=v.n))
 rw[ah]at hd
 refine zA ?_
 simp[go_sem,q,ay,hx,ad]
 refine rK 1 hd cB sg rfl rfl (oJ rfl) (λr s h=>by obtain⟨rfl,rfl⟩:=h;exact⟨rfl,rfl,rfl⟩) ?_
 rintro r s ⟨rfl,rfl⟩
 simp[go_sem]
 refine zS (λw=> ?_) (λw=> ?_)
 all_goals simp[go_sem,ej]
 .have q2:x=v.n:=by simpa using (show(x !=v.n)=false by rw[ah];simpa using w)
  have ae:=MS (n:=v.n) ak
  rw[afb q2]at ae
  refine zI om ?_
  have al:i<xs.length:=om
  obtain⟨y,a1⟩: ∃y,ys[i]? =some y:=⟨_,A0 om⟩
  simp[go_sem,ad,al,ei,ej]
  refine zG (i+1,j+1,ys.set i x) ⟨by simp only;omega,⟨by simp only;omega,by simp only;omega,by simp[ad], ?_, ?_⟩, ?_⟩
  .rw[ae,<-aa,Cp,Bc om,List.take_set_of_le (A3 i)]
   simp
  .simp only
   rw[List.drop_set,afb om]
   have:=aff (List.drop 1) ab
   simpa[Cn,Dw]using this
  .exact ca 2 (by simp[go_sem,yQ]) rfl (wb9 v _) (A3 _) (zD sg rfl)
 .have q2: ¬x=v.n:=by
   have:(x !=v.n)=true:=by rw[ah];simpa using w
   simpa using this
  have ae:=MS (n:=v.n) ak
  rw[afa q2,B6]at ae
  refine zG (i,j+1,ys) ⟨by simp only;omega,⟨by simp only;omega,by simp only;omega,ad,by rw[ae];exact aa, ?_⟩, ?_⟩
  .have:=aff (List.drop 1) ab
   simpa[Cn,Dw]using this
  .exact aN 2 (by simp[bP,cK,cG,yQ])
def qH (t:Nat):afH:=if t=0 then [0,1]else if t=1 then [-1]else [1]
def jM (l:List bH) (rs:afH):afH:=l.foldl (λrs e=>match n5 e [82]with|none=>rs|some (s,v)=>if s= [61]/\v.kind=2 then kD v.n rs else rs) rs
def oh (t:Int) (st:bQ):afH:=if t=0 then jM (nv st) [0,1]else if t=1 then [-1]else if t=2 then [1]else []
theorem xl9 {n:Int} (l:afH):(kD n l).length<=l.length:=De _ _
theorem xl6 (l:afH):wF (l.map yQ)=true:=by simp[wF,yQ,o8]
theorem yR0 (l:afH) (m:Nat):ij (l.map yQ) 0 m=(l.take m).map yQ:=by
 unfold ij
 rw[Az,<-List.map_take,Be]
 rfl
theorem RM (st:bQ) (T:bI) (l:afH):([.box [.sl .ro xZ,.sl .ro (bM.map bI.row)],.box st.row,.box T.row,.cc (l.map yQ) 1]:St).all (bP 4)=true:=by simp[bP,cK,cG,yQ,bQ.row,bI.row]
theorem MT (T:bI) (l:afH):([.box T.row,.cc (l.map yQ) 1]:St).all (bP 2)=true:=by simp[bP,cK,cG,yQ,bI.row]
theorem RN (n:Nat) (l:afH):bP n (.cc (l.map yQ) 1)=true:=by simp[bP,cK,cG,yQ]
theorem yW5 (j:Nat) (hj:j<3): ∃s0:Nat,jU j 0=((s0:Int),0)/\s0+(qH j).length<5/\(∀(k:Nat) x,(qH j)[k]? =some x->fp ((s0+k:Nat):Int)=((j:Int),x,0))/\
  ((fp ((s0+(qH j).length:Nat):Int)).2.2≠0\/((fp ((s0+(qH j).length:Nat):Int)).2.2=0/\(fp ((s0+(qH j).length:Nat):Int)).1≠j)):=by
 match j,hj with
 |0,_=>exact⟨0,rfl,dc,λk x h=>(by match k with
   |0=>cases h;rfl
   |1=>cases h;rfl
   |k+2=>cases h),.inr dc⟩
 |1,_=>exact⟨2,rfl,dc,λk x h=>(by match k with
   |0=>cases h;rfl
   |k+1=>cases h),.inr dc⟩
 |2,_=>exact⟨3,rfl,dc,λk x h=>(by match k with
   |0=>cases h;rfl
   |k+1=>cases h),.inl dc⟩
theorem RO: ∀(l:List bH) (rs:afH),(jM l rs).length<=rs.length
 | [],_=>A3 _
 |e::l,rs=>by
  have h1:jM (e::l) rs=jM l (match n5 e [82]with|none=>rs|some (s,v)=>if s= [61]/\v.kind=2 then kD v.n rs else rs):=rfl
  rw[h1]
  refine An (RO l _) ?_
  split
  .exact A3 _
  .split
   .exact xl9 _
   .exact A3 _
theorem xj6 (t:Int) (st:bQ) (hl:(nv st).length<=maxLen):Pure prog 61 [dS bM,.int .i64 t,.agg st.row] (.sl .ro ((oh t st).map yQ)):=by
 have al:=Ro st
 generalize hM:oh t st=M
 unfold oh at hM
 generalize hL:nv st=L at al hM hl
 have an: ∀(g:Tag) (U:St),[]=M->cj (some (.sl g [])) 0 (λr s=>r= .sl .ro (M.map yQ)/\s= []) U:=λg U h=>by subst h;exact yL zK ⟨rfl,rfl⟩
 have ah: ∀(id:Nat) (ys:afH) (N m:Nat) (U:St),U[id]? =some (.cc (ys.map yQ) 1)->ys.length=N->m<=N->ys.take m=M->cj (some (.cJ id 1 N 0 m)) 0 (λr s=>r= .sl .ro (M.map yQ)/\s= []) U:=λid ys N m U h1 h2 h3 h4=>by
  refine Pt id 1 (ys.map yQ) h1 (xl6 ys) ?_
  simp only[fB,jh,jg,iI,Bb,h2,A7,h3,and_self,afj,yR0,h4]
  exact yL zK ⟨rfl,rfl⟩
 refine iV 0 func61 ntmps61 results61 λc hc hb=> ?_
 refine zA ?_
 simp[go_sem,dS]
 by_cases ht:0<=t/\t<3
 rotate_left
 .have ar: []=M:=by rw[<-hM,afa om,afa om,afa om]
  have h2:decide (t<0)=true\/(decide (t<0)=false/\decide ((bM.length:Int)<=t)=true):=by
   simp only[afe,afi,show bM.length=3 from rfl]
   omega
  refine h2.elim (λq=> ?_) (λq=> ?_)
  all_goals simp[go_sem,q]
  all_goals exact an _ _ ar
 obtain⟨j,rfl⟩: ∃j:Nat,t=j:=⟨t.toNat,om⟩
 have hj:j<3:=om
 obtain⟨T,hT⟩:=eX (bM[j]'(by exact hj))
 have ao:=xj5 j hj
 obtain⟨s0,au,av,cH,aa⟩:=yW5 j hj
 obtain⟨n,hn⟩:=eX ((qH j).length)
 rw[hn]at av aa
 rw[au]at ao
 have aw:decide ((j:Int)<0)=false:=afc om
 have aG:decide ((bM.length:Int)<=j)=false:=afc (by simp only[show bM.length=3 from rfl];omega)
 have ax:decide (bM.length<=j)=false:=afc (by simp only[show bM.length=3 from rfl];omega)
 have ay:j<bM.length:=hj
 have hle:=xO1
 have e1:IntKind.i64.wrap ((j:Int)+1)=((j+1:Nat):Int):=by rw[bR om om];omega
 simp[go_sem,aw,ax,ay]
 refine Er 8 1 dc sg ?_
 refine yV [(10,0),(11,0)] 4 sm kR kR ?_
 simp[go_sem,e1]
 refine zI ⟨om,by simp only[show bM.length=3 from rfl];omega,AT λT=>rfl⟩ ?_
 simp[go_sem]
 refine qo hle cB (λ_=>zN (by simp[go_sem,dS]) rfl) rfl ?_
 simp[go_sem]
 refine qo ao cB (λ_=>zN (by simp[go_sem,dS]) rfl) rfl ?_
 simp[go_sem,Jt]
 refine zH (S:=Nat) [1,3,5,7,8,9] (λk=> [.int .i64 j,.ptr 0 0,.ptr 1 0,.ptr 2 0,.cJ 3 1 k 0 k,.int .i64 ((s0+k:Nat):Int)])
  (λk=> [.box [.sl .ro xZ,.sl .ro (bM.map bI.row)],.box st.row,.box T.row,.cc (((qH j).take k).map yQ) 1]) (λk=>n - k) (λk=>k<=n) hc hb 0 (A5 _) ?_ ?_
 .exact ca 4 (by simp[go_sem,<-hT];exact⟨rfl,rfl,rfl,rfl,rfl,rfl,rfl,rfl,rfl,rfl,rfl⟩) rfl (RM st T _) (A5 _) (zD sg rfl)
 intro k hk
 have az:=GK (s0+k) om
 refine zA ?_
 simp[go_sem]
 refine zM az cB (zN (by simp[go_sem,dS]) rfl) rfl ?_
 by_cases aH:k<n
 .obtain⟨x,hx⟩: ∃x,(qH j)[k]? =some x:=⟨_,A0 om⟩
  rw[cH k x hx]
  have a1: ¬(k+1<=k):=om
  have ei:IntKind.i64.wrap (((s0:Int)+k)+1)=(s0:Int)+k+1:=by rw[bR om om]
  simp[go_sem,EM,a1]
  refine zI ⟨om,zX rfl,om⟩ ?_
  simp[go_sem,ei]
  refine zG (k+1) ⟨om,om, ?_⟩
  exact ca 4 (by simp[go_sem,Cp,hx,yQ]) rfl (RM st T _) (A5 _) (zD (by simp[go_sem];omega) rfl)
 .obtain rfl:k=n:=om
  obtain⟨⟨a,b2,e⟩,hp⟩: ∃p,fp ((s0+k:Nat):Int)=p:=⟨_,rfl⟩
  rw[hp]at aa⊢
  simp only at aa
  have hY:((qH j).take k).length=k:=by simp;omega
  have ad:(e !=0)=true\/((e !=0)=false/\(a !=j)=true):=by
   rcases aa with h|h
   .exact .inl (sU h)
   .exact .inr ⟨by simpa using h.1,by simpa using h.2⟩
  by_cases ai:j=0
  rotate_left
  .have aj:(T.place !=0)=true:=by
    rw[<-hT]
    match j,hj,ai with
    |1,_,_=>rfl
    |2,_,_=>rfl
   have a6:(qH j)=M:=by
    rw[<-hM]
    match j,hj,ai with
    |1,_,_=>rfl
    |2,_,_=>rfl
   refine ad.elim (λq=> ?_) (λq=> ?_)
   all_goals simp[go_sem,EM,q,aj]
   all_goals exact ah 3 ((qH j).take k) k k _ sg hY (A3 _) (by rw[List.take_take,Nat.min_self,Aj om];exact a6)
  subst ai
  have aj:(T.place !=0)=false:=by rw[<-hT];rfl
  have ab:T.bW= [⟨[82],2,false⟩,⟨[75],2,false⟩,⟨[86],3,true⟩,⟨[78],2,true⟩]:=by rw[<-hT];rfl
  have a7:k=2:=by rw[<-hn];rfl
  subst a7
  have ak:(e !=0)=true\/((e !=0)=false/\(a !=0)=true):=sU ad
  refine ak.elim (λq=> ?_) (λq=> ?_)
  all_goals simp[go_sem,EM,q,aj,ab]
  all_goals refine zM al cB (zN sg rfl) rfl ?_
  all_goals simp[go_sem]
  all_goals refine zH (S:=Nat×afH×afH) [7,8,79,80,81] (λu=> [.ptr 0 0,.cJ 1 1 2 0 u.2.1.length,.sl .ro (L.map bH.row),.int .i64 L.length,.int .i64 u.1]) (λu=> [.box T.row,.cc (u.2.2.map yQ) 1]) (λu=>L.length - u.1) (λu=>u.1<=L.length/\u.2.1.length<=2/\u.2.2.length=2/\u.2.2.take u.2.1.length=u.2.1/\jM (L.drop u.1) u.2.1=M) hc hb (0,[0,1],[0,1]) ⟨A5 _,A3 _,rfl,rfl,hM⟩ ?_ ?_
  all_goals try exact AQ [2,3] dc rfl ⟨by simp[go_sem,yF,dv,du,ab],by simp[go_sem,yF,dv,du,qH,yQ],tV⟩ ⟨.inl (by simp[go_sem,dy,dL,dv,du,cz]),.inl (by simp[go_sem,dy,dL,dv,du,cz]),zK,zC rfl,zC rfl,tV⟩
  all_goals rintro⟨i,rs,ys⟩ ⟨hi,ag,ae,af,hinv⟩
  all_goals simp only at hi ag ae af hinv
  all_goals (
   by_cases hq:i<L.length
   rotate_left
   .rw[A8 om]at hinv
    have a8:rs=M:=hinv
    refine zA ?_
    simp[go_sem,hq]
    exact ah 1 ys 2 rs.length _ sg ae ag (by rw[af];exact a8)
   have ei:=zR hq (by unfold maxLen at hl;omega)
   obtain⟨x,hx⟩:=eX (L[i])
   rw[A2 hq,hx]at hinv
   have aA:=Rq x [82]
   refine zA ?_
   simp[go_sem,hq,hx,ab]
   refine yV [(6,0),(13,3)] 3 sm kR kR ?_
   simp[go_sem]
   refine qo aA cB (λ_=>zN sg (by rw[bH.bN];rfl)) (RG _) ?_
   cases ha:n5 x [82]with
   |none=>
    simp only[jM,B8,ha]at hinv
    simp[go_sem,mL,Jm,ei]
    refine zG (i+1,rs,ys) ⟨by simp only;omega,⟨by simp only;omega,ag,ae,af,hinv⟩, ?_⟩
    exact ca 2 (by simp[go_sem,ab]) rfl (MT T _) (A5 _) (zD sg rfl)
   |some p=>
    obtain⟨s,v⟩:=p
    simp only[jM,B8,ha]at hinv
    simp[go_sem,mL]
    by_cases hs:s= [61]/\v.kind=2
    .rw[afb hs]at hinv
     have aB:(s== [61])=true:=sU hs.1
     have aC:(v.kind==2)=true:=sU hs.2
     have aq:=xX5 v ys rs.length om om
     rw[af,ae]at aq
     simp[go_sem,aB,aC]
     refine W2 3 1 aq cB dc sg sg rfl (RN _ _) ⟨.inl (by simp[go_sem,dy,dL,dv,du,cz]),.inl (by simp[go_sem,dy,dL,dv,du,cz]),tV⟩ (λr s h=>by
      obtain⟨zs,_,_,_,_,rfl⟩:=h
      exact⟨_,_,rfl,rfl,RN _ _⟩) ?_
     rintro r o2 p2 ⟨zs,aI,aJ,aD,rfl,aE⟩
     obtain⟨rfl,rfl⟩:o2= .box v.row/\p2= .cc (zs.map yQ) 1:=sU aE
     simp[go_sem,dy,dL,dv,du,cz,ei]
     refine zG (i+1,kD v.n rs,zs) ⟨by simp only;omega,⟨by simp only;omega,by simp only;omega,om,aD,hinv⟩, ?_⟩
     exact ca 2 (by simp[go_sem,ab]) rfl (MT T _) (A5 _) (zD sg rfl)
    .rw[afa hs]at hinv
     have aF:(s== [61])=false\/((s== [61])=true/\(v.kind==2)=false):=by
      by_cases h1:s= [61]
      .exact .inr ⟨by simpa using h1,by simpa using λh2=>hs ⟨h1,h2⟩⟩
      .exact .inl (sU h1)
     refine aF.elim (λq1=> ?_) (λq1=> ?_)
     all_goals simp[go_sem,q1,ei]
     all_goals refine zG (i+1,rs,ys) ⟨by simp only;omega,⟨by simp only;omega,ag,ae,af,hinv⟩, ?_⟩
     all_goals exact ca 2 (by simp[go_sem,ab]) rfl (MT T _) (A5 _) (zD sg rfl))
def jz {J:Type} (p:J->Bool):List J->Nat->Int
 | [],_=> -1
 |x::l,i=>if p x=true then(i:Int)else jz p l (i+1)
theorem BZ {J:Type} (p:J->Bool): ∀(l:List J) (i:Nat),jz p l i= -1\/((i:Int)<=jz p l i/\jz p l i<i+l.length)
 | [],i=> .inl rfl
 |x::l,i=>by
  unfold jz
  split
  .right;simp;omega
  .have:=BZ p l (i+1)
   simp only[Ab]
   omega
theorem we7 (t:bI) (name:afE):bK prog 105 [.agg t.row,.ptr 0 0] [.box [.str name]] (λr s=>r= .bool (t.name==name)/\s= [.box [.str name]]):=by
 refine iW 1 func105 ntmps105 results105 λc hc hb=>zL ?_
 simp[go_sem]
 exact rC 1 rfl rfl (A3 _) (zC rfl) ⟨rfl,rfl⟩
theorem we4 (t:eT) (name:afE):bK prog 231 [.agg t.row,.ptr 0 0] [.box [.str name]] (λr s=>r= .bool (t.name==name)/\s= [.box [.str name]]):=by
 refine iW 1 func231 ntmps231 results231 λc hc hb=>zL ?_
 simp[go_sem]
 exact rC 1 rfl rfl (A3 _) (zC rfl) ⟨rfl,rfl⟩
theorem xY9 (l:List bI) (name:afE) (hl:l.length<=maxLen):bK prog 104 [.sl .ro (l.map bI.row),.fn 105 [.ptr 0 0]] [.box [.str name]] (λr s=>r= .int .i64 (jz (λt:bI=>t.name==name) l 0)/\s= [.box [.str name]]):=by
 generalize hM:jz (λt:bI=>t.name==name) l 0=M
 have ret: ∀(r:Int) (U:St),r=M->cj (some (.int .i64 r)) 1 (λr s=>r= .int .i64 M/\s= [.box [.str name]]) (.box [.str name]::U):=λr U h=>by subst h;exact rC 1 rfl rfl (A3 _) (zC rfl) ⟨rfl,rfl⟩
 refine iV 1 func104 ntmps104 results104 λc hc hb=> ?_
 refine zA ?_
 simp[go_sem]
 refine zH (S:=Nat) [0,1,7,8] (λi=> [.sl .ro (l.map bI.row),.fn 105 [.ptr 0 0],.int .i64 l.length,.int .i64 i]) (λ_=> [.box [.str name]]) (λi=>l.length - i) (λi=>i<=l.length/\jz (λt:bI=>t.name==name) (l.drop i) i=M) hc hb 0 ⟨A5 _,hM⟩ ?_ ?_
 .exact aN 1 rfl
 rintro i ⟨hi,hinv⟩
 by_cases q:i<l.length
 rotate_left
 .rw[C8 om,jz]at hinv
  refine zA ?_
  simp[go_sem,q]
  exact ret _ _ hinv
 have ei:=zR q (by unfold maxLen at hl;omega)
 obtain⟨x,hx⟩:=eX (l[i])
 rw[A2 q,hx,jz]at hinv
 obtain⟨b,ab⟩:=eX ((x.name==name))
 have aa:=we7 x name
 rw[ab]at aa hinv
 refine zA ?_
 simp[go_sem,q,hx]
 refine lF 0 aa cB rfl rfl ⟨zC rfl,.inl rfl,tV⟩ (by rintro r s ⟨rfl,rfl⟩;exact⟨_,rfl,rfl⟩) ?_
 rintro r o ⟨rfl,ho⟩
 cases ho
 simp[go_sem]
 refine zS (λw=> ?_) (λw=> ?_)
 .rw[afb w]at hinv
  simp[go_sem]
  exact ret _ _ hinv
 .rw[afa (by rw[w];decide)]at hinv
  simp[go_sem,ei]
  exact zG (i+1) ⟨om,⟨q,hinv⟩,aN 1 rfl⟩
theorem xY6 (l:List eT) (name:afE) (hl:l.length<=maxLen):bK prog 230 [.sl .ro (l.map eT.row),.fn 231 [.ptr 0 0]] [.box [.str name]] (λr s=>r= .int .i64 (jz (λt:eT=>t.name==name) l 0)/\s= [.box [.str name]]):=by
 generalize hM:jz (λt:eT=>t.name==name) l 0=M
 have ret: ∀(r:Int) (U:St),r=M->cj (some (.int .i64 r)) 1 (λr s=>r= .int .i64 M/\s= [.box [.str name]]) (.box [.str name]::U):=λr U h=>by subst h;exact rC 1 rfl rfl (A3 _) (zC rfl) ⟨rfl,rfl⟩
 refine iV 1 func230 ntmps230 results230 λc hc hb=> ?_
 refine zA ?_
 simp[go_sem]
 refine zH (S:=Nat) [0,1,7,8] (λi=> [.sl .ro (l.map eT.row),.fn 231 [.ptr 0 0],.int .i64 l.length,.int .i64 i]) (λ_=> [.box [.str name]]) (λi=>l.length - i) (λi=>i<=l.length/\jz (λt:eT=>t.name==name) (l.drop i) i=M) hc hb 0 ⟨A5 _,hM⟩ ?_ ?_
 .exact aN 1 rfl
 rintro i ⟨hi,hinv⟩
 by_cases q:i<l.length
 rotate_left
 .rw[C8 om,jz]at hinv
  refine zA ?_
  simp[go_sem,q]
  exact ret _ _ hinv
 have ei:=zR q (by unfold maxLen at hl;omega)
 obtain⟨x,hx⟩:=eX (l[i])
 rw[A2 q,hx,jz]at hinv
 obtain⟨b,ab⟩:=eX ((x.name==name))
 have aa:=we4 x name
 rw[ab]at aa hinv
 refine zA ?_
 simp[go_sem,q,hx]
 refine lF 0 aa cB rfl rfl ⟨zC rfl,.inl rfl,tV⟩ (by rintro r s ⟨rfl,rfl⟩;exact⟨_,rfl,rfl⟩) ?_
 rintro r o ⟨rfl,ho⟩
 cases ho
 simp[go_sem]
 refine zS (λw=> ?_) (λw=> ?_)
 .rw[afb w]at hinv
  simp[go_sem]
  exact ret _ _ hinv
 .rw[afa (by rw[w];decide)]at hinv
  simp[go_sem,ei]
  exact zG (i+1) ⟨om,⟨q,hinv⟩,aN 1 rfl⟩
theorem RP (ts:List bI) (name:afE) (hl:ts.length<=maxLen):Pure prog 58 [dS ts,.str name] (.int .i64 (jz (λt:bI=>t.name==name) ts 0)):=by
 have hx:=xY9 ts name hl
 refine iW 0 func58 ntmps58 results58 λc hc hb=>zL ?_
 simp[go_sem,dS]
 refine lF 1 hx cB rfl rfl ⟨zC rfl,.inl rfl,tV⟩ (by rintro r s ⟨rfl,rfl⟩;exact⟨_,rfl,rfl⟩) ?_
 rintro r o ⟨rfl,ho⟩
 cases ho
 simp[go_sem]
 exact wR
theorem EN (t:bI) (name:afE) (hl:t.bW.length<=maxLen):Pure prog 156 [.agg t.row,.str name] (.int .i64 (jz (λt:eT=>t.name==name) t.bW 0)):=by
 have hx:=xY6 t.bW name hl
 refine iW 0 func156 ntmps156 results156 λc hc hb=>zL ?_
 simp[go_sem]
 refine lF 1 hx cB rfl rfl ⟨zC rfl,.inl rfl,tV⟩ (by rintro r s ⟨rfl,rfl⟩;exact⟨_,rfl,rfl⟩) ?_
 rintro r o ⟨rfl,ho⟩
 cases ho
 simp[go_sem]
 exact wR
def cy (T:bI) (name:afE):Int:=jz (λc:eT=>c.name==name) T.bW 0
def km (T:bI) (c:Int):Int:=((T.bW[c.toNat]?).map (·.kind)).getD 0
def mM (v:bG):Bool:=v.kind==0&&(v.n==0&&v.s.isEmpty)
theorem RQ (v:bG):(!(v.kind==0)||(!(v.n==0)|| !v.s.isEmpty))= !mM v:=by unfold mM;cases v.kind==0<;>cases v.n==0<;>cases v.s.isEmpty<;>rfl
mutual
def kW (T:bI):bH->Int×Int
 | .mk k s v args=>
  if k=1 then(if s.isEmpty=false\/args.isEmpty=false\/dO v=false then(0,9)else(v.kind,0))
  else if k=2 then(if cy T s<0 then(0,14)else if args.isEmpty=false\/mM v=false then(0,9)else(km T (cy T s),0))
  else if k=3 then(if(wQ T args).2≠0 then(0,(wQ T args).2)else if mM v=false then(0,9)else nU s (wQ T args).1)
  else(0,9)
def wQ (T:bI):List bH->afH×Int
 | []=>([],0)
 |e::l=>if(kW T e).2≠0 then([],(kW T e).2)else((kW T e).1::(wQ T l).1,(wQ T l).2)
end
theorem MU (T:bI) (e:bH):kW T e=
  if e.kind=1 then(if e.s.isEmpty=false\/e.args.isEmpty=false\/dO e.v=false then(0,9)else(e.v.kind,0))
  else if e.kind=2 then(if cy T e.s<0 then(0,14)else if e.args.isEmpty=false\/mM e.v=false then(0,9)else(km T (cy T e.s),0))
  else if e.kind=3 then(if(wQ T e.args).2≠0 then(0,(wQ T e.args).2)else if mM e.v=false then(0,9)else nU e.s (wQ T e.args).1)
  else(0,9):=by cases e;rw[kW];rfl
theorem CA {M:Int×Int} {a e:Int} {U:St} (h:(a,e)=M):cj (some (.cm [.int .i64 a,.int .i64 e])) 0 (λr s=>r=wJ M/\s= []) U:=by
 subst h
 exact wR
theorem Jw (T:bI) (s:afE) (h: ¬cy T s<0): ∃j:Nat,cy T s=j/\j<T.bW.length:=by
 have:=BZ (λc:eT=>c.name==s) T.bW 0
 unfold cy at h⊢
 refine⟨(jz (λc:eT=>c.name==s) T.bW 0).toNat,om,om⟩
theorem xt0 (l:List bH):decide ((0:Int)<l.length)= !l.isEmpty:=by
 cases l with
 |nil=>rfl
 |cons _ _=>exact afd (by simp only[Ab];omega)
theorem xj8 (l:List bH):decide (0<l.length)= !l.isEmpty:=by
 cases l with
 |nil=>rfl
 |cons _ _=>exact afd (by simp only[Ab];omega)
theorem RU (T:bI) (hT:T.bW.length<=maxLen): ∀(n:Nat) (e:bH),gF e<=n->eU e->Good e->Pure prog 253 [.agg T.row,.agg e.row] (wJ (kW T e))
 |0,e,h,_,_=>by have:=Jk e;omega
 |n+1,e,h,hw,hg=>by
  have ih:=RU T hT n
  have ay:=tm e
  have hlen:=hw.len
  have ak:=hw.sub
  have au:=hg.sub
  have al:=EJ e.v
  have an:=EN T e.s hT
  obtain⟨M,hM⟩:=eX (kW T e)
  rw[hM]
  rw[MU]at hM
  rw[show jz (λc:eT=>c.name==e.s) T.bW 0=cy T e.s from rfl]at an
  have hz:=RQ e.v
  have av:=xt0 e.args
  have ah:=xj8 e.args
  have ret: ∀(a b:Int) (U:St),(a,b)=M->cj (some (.cm [.int .i64 a,.int .i64 b])) 0 (λr s=>r=wJ M/\s= []) U:=λa b U h=>CA h
  refine iV 0 func253 ntmps253 results253 λc hc hb=> ?_
  refine zA ?_
  simp[go_sem]
  by_cases q1:e.kind=1
  .have af:(e.kind==1)=true:=sU q1
   rw[afb q1]at hM
   generalize dO e.v=b at al hM
   generalize e.args.isEmpty=ae at av ah hM
   simp[go_sem,af]
   repeat' (first
    |(refine xD (λq=> ?_) (λq=> ?_)<;>simp[go_sem,q,ah])
    |(refine zS (λq=> ?_) (λq=> ?_)<;>simp[go_sem,q])
    |(refine zM al cB (zN sg rfl) rfl ?_;simp[go_sem]))
   all_goals exact ret _ _ _ (by rw[<-hM];simp_all)
  rw[afa q1]at hM
  have af:(e.kind==1)=false:=sU q1
  by_cases q2:e.kind=2
  .have ai:(e.kind==2)=true:=sU q2
   rw[afb q2]at hM
   simp[go_sem,af,ai]
   refine zM an cB (zN sg rfl) rfl ?_
   by_cases qc:cy T e.s<0
   .have aj:decide (cy T e.s<0)=true:=afd qc
    rw[afb qc]at hM
    simp[go_sem,aj]
    exact ret _ _ _ hM
   have aj:decide (cy T e.s<0)=false:=afc qc
   rw[afa qc]at hM
   obtain⟨j,hj,aw⟩:=Jw T e.s qc
   obtain⟨C,hC⟩:=eX (T.bW[j])
   have az:km T (cy T e.s)=C.kind:=by
    unfold km
    rw[hj,Ax,A0 aw,hC];rfl
   rw[az]at hM
   rw[hj]at aj⊢
   generalize mM e.v=z at hz hM
   generalize e.args.isEmpty=ae at av ah hM
   simp[go_sem,aj,ah]
   repeat' (first
    |(refine xD (λq=> ?_) (λq=> ?_)<;>simp[go_sem,q,hz])
    |(refine zS (λq=> ?_) (λq=> ?_)<;>simp[go_sem,q,aw,hC]))
   all_goals exact ret _ _ _ (by rw[<-hM];simp_all)
  rw[afa q2]at hM
  have ai:(e.kind==2)=false:=sU q2
  by_cases q3:e.kind=3
  rotate_left
  .rw[afa q3]at hM
   have ao:(e.kind==3)=false:=sU q3
   simp[go_sem,af,ai,ao]
   exact ret _ _ _ hM
  have ao:(e.kind==3)=true:=sU q3
  rw[afb q3]at hM
  obtain⟨args,ab⟩:=eX e.args
  rw[ab]at ay hlen ak au hM
  obtain⟨K,hK⟩:=eX (wQ T args)
  rw[hK]at hM
  simp[go_sem,af,ai,ao,ab]
  refine rL 7 1 dc sg ?_
  refine zH (S:=Nat×afH) [2,3,7,61,62,63] (λu=> [.ptr 0 0,.ptr 1 0,.sl (.app 2) (u.2.map λn=> [V.int .i64 n]),.sl .ro (args.map bH.row),.int .i64 args.length,.int .i64 (u.1:Int)]) (λu=> [.box T.row,.box e.row,.app u.2.length 1]) (λu=>args.length - u.1)
   (λu=>u.1<=args.length/\u.2.length=u.1/\(wQ T (args.drop u.1)).2=K.2/\(K.2=0->u.2++(wQ T (args.drop u.1)).1=K.1)) hc hb (0,[])
   ⟨A5 _,rfl,by simp only[Az];rw[hK],λ_=>by simp only[Az];rw[hK];rfl⟩ ?_ ?_
  .exact ca 3 (by simp[go_sem,ab]) rfl (by simp[bP,cK,cG,bH.bN,bI.row]) (A5 _) (zD sg rfl)
  rintro⟨i,l⟩ ⟨hi,hl,hinv,aa⟩
  simp only at hi hl hinv aa
  by_cases q:i<args.length
  rotate_left
  .rw[A8 om,wQ]at hinv aa
   have ag:K.2=0:=hinv.symm
   have a1:l=K.1:=by have:=aa ag;simpa using this
   rw[afa (λh=>h ag),<-a1]at hM
   have ax:=Yv e.s l (by unfold maxLen;omega)
   generalize nU e.s l=o at ax hM
   generalize mM e.v=z at hz hM
   refine zA ?_
   simp[go_sem,q,hz]
   refine(A4 z).elim (λw=> ?_) (λw=> ?_)
   .rw[afa (by rw[w];decide)]at hM
    subst w
    simp[go_sem]
    refine pC ax ?_
    simp[go_sem,wJ]
    exact ret _ _ _ hM
   .rw[afb w]at hM
    subst w
    simp[go_sem]
    exact ret _ _ _ hM
  have ei:=zR q om
  obtain⟨x,hx⟩:=eX (args[i])
  have aq:x∈args:=hx▸Aa q
  have a6:=BJ args x aq
  rw[A2 q,hx,wQ]at hinv aa
  have ad:=ih x om (ak x aq) (au x aq)
  generalize kW T x=kx at ad hinv aa
  by_cases q4:kx.2=0
  .rw[afa (λh=>h q4)]at hinv aa
   have ar:(kx.2 !=0)=false:=sU q4
   refine zA ?_
   simp[go_sem,q,hx]
   refine zM ad cB (zN sg (by rw[bH.bN];rfl)) rfl ?_
   simp[go_sem,wJ,ar]
   refine zI ⟨om,zX rfl⟩ ?_
   simp[go_sem,ei]
   refine zG (i+1,l++ [kx.1]) ⟨by simp only;omega,⟨by simp only;omega,by simp;omega,hinv,λh=>by have:=aa h;simpa using this⟩, ?_⟩
   exact aN 3 (by simp[bP,cK,cG,bH.bN])
  .rw[afb q4]at hinv
   have ar:(kx.2 !=0)=true:=sU q4
   have ag:kx.2=K.2:=hinv
   rw[afb (by rw[<-ag];exact q4),<-ag]at hM
   refine zA ?_
   simp[go_sem,q,hx]
   refine zM ad cB (zN sg (by rw[bH.bN];rfl)) rfl ?_
   simp[go_sem,wJ,ar]
   exact ret _ _ _ hM
def ia (T:bI) (e:bH):Int×Int:=if gF e<=64 then kW T e else(0,3)
theorem RV: ∀(n:Nat) (e:bH),mH e<=n->gF e<=n
 |0,e,h=>by grind[Zv]
 |n+1,e,h=>by
  rw[Gs]at h
  rw[tm]
  have: ∀l:List bH,oP l<=n->wH l<=n:=by
   intro l
   induction l with
   |nil=>intro _;simpa
   |cons x l ih=>
    intro hl
    rw[oP]at hl
    rw[wH]
    have h1:=RV n x om
    omega
  grind
theorem Jx (T:bI) (hT:T.bW.length<=maxLen) (e:bH) (he:jL e):Pure prog 176 [.agg T.row,.agg e.row] (wJ (ia T e)):=by
 have hs:=he.size
 have hd:=RV 4000 e hs
 have ab:=Rm 4000 e 1 0 hd he.wide om om om om
 have aa:=RU T hT 4000 e hd he.wide he.dD
 generalize hM:ia T e=M
 unfold ia at hM
 generalize kW T e=k at aa hM
 have ret: ∀(x:Int×Int) (U:St),x=M->cj (some (.cm [.int .i64 x.1,.int .i64 x.2])) 0 (λr s=>r=wJ M/\s= []) U:=λx U h=>CA h
 refine iW 0 func176 ntmps176 results176 λc hc hb=>zL ?_
 simp[go_sem]
 refine lF 2 ab cB rfl (by rfl) ⟨.inl (by simp[go_sem,dy,dL,dv,du]),zC rfl,.inl rfl,tV⟩ (λr U h=>by
  obtain⟨_,m2,rfl,_⟩:=h
  exact⟨_,rfl,rfl⟩) ?_
 rintro r o2 ⟨rfl,m2,h1,h2,h3⟩
 obtain rfl:o2= .box [.int .i64 m2]:=by grind
 by_cases q:gF e<=64
 .rw[afb q]at hM
  rw[afd om]
  simp[go_sem]
  refine zM aa cB (zN sg (by rw[bH.bN];rfl)) rfl ?_
  simp[go_sem,wJ]
  exact ret _ _ hM
 .rw[afa q]at hM
  rw[afc om]
  simp[go_sem]
  exact ret (0,3) _ hM
end Go.Proofs.YtefbicjgbaaieaaGreat
